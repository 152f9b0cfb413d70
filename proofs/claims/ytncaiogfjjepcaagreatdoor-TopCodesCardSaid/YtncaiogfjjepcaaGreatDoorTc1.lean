/-
  Part 1 of the texts behind a statement of this seat: Sim1, Sim2, Sim3, Sim4, Sim5, Sim6, Sim7, Sim8, Sim7d, Sim9, Sim9g, Sim10, Sim11, Sim12, Sim13, Sim14.
-/
import Derived.WalkKit
import Derived.Laws.Append
import Derived.Laws.AppendOwn
import Derived.Laws.MakeOwn
import Derived.Laws.BytesString
import Derived.RangeFuncRecord
import Derived.Lib.Bytealg
import Derived.WalkSpells
import Derived.WideKeyArr
import Derived.MapKept
import Derived.Laws.CopyRow
import Derived.Laws.IdiomCopy
open Array (ext' getElem?_eq_getElem getElem?_toList)
open Bool (and_eq_true)
open List (all_eq_true getElem?_append_left getElem?_append_right getElem?_set_ne mem_of_getElem?)
open Nat (add_mul le_refl le_trans)
open Option (bind_eq_some_iff map_eq_some_iff)
namespace Go.Sim
section
theorem bN {p : Prop} [Decidable p] (h : ¬p) : decide p = false := decide_eq_false h
theorem cz {p : Prop} [Decidable p] (h : p) : decide p = true := decide_eq_true h
theorem bT {n m : Nat} (h : Nat.ble n m = true) : n <= m := Nat.le_of_ble_eq_true h
theorem ba {α : Type} {l : List α} {i : Nat} {a : α} (h : l[i]? = some a) : ∃ h : i < l.length, l[i] = a := List.getElem?_eq_some_iff.1 h
structure RI where
 aY:Nat
 sh:Nat
 elem:TypeId
 aT:Nat
 size:Nat
abbrev aD:=Nat->Option RI
structure uP where
 N:Nat
 ps:Array Tmp
 gE:Code
 body:Code
inductive dZ where
 | int (k:IntKind)
 | str
 | ints (n:Nat) (k:IntKind)
 deriving DecidableEq
def hU (k:IntKind):Value->Bool
 | .int k' _=>decide (k'=k)
 | _=>false
def GX (k:IntKind):Value->Bool
 | .int _ n=>decide (k.min<=n)&&decide (n<=k.max)
 | _=>false
def dm:dZ->Value->Bool
 | .int k,v=>hU k v
 | .str,.string _=>true
 | .ints n k,.agg cs=>decide (cs.size=n)&&cs.toList.all λv=>hU k v&&GX k v
 | _,_=>false
inductive ax where
 | ro (e:TypeId) (xs:List Value)
 | arr (e:TypeId) (xs:List Value)
 | smap (es:List (ByteArray×Value))
 | iK (kd:IntKind) (es:List (Int×Value))
 | cp (g:dZ) (clock:Nat) (es:List (Nat×Value×Value))
 | iter (m gJ:Nat) (seen:List Nat) (last:Nat)
 | loop (c:uP) (ls:List Nat) (vs:List Value)
 | dead
abbrev ae:=List ax
abbrev Nc:Value:=.complex .f32 0 0
def gI:List Nat->List Value->Nat->Value
 | l::ls,v::vs,j=>match Nat.beq j l with | true=>v | false=>gI ls vs j
 | _,_,_=>Nc
theorem alc (l:Nat) (ls:List Nat) (v:Value) (vs:List Value) (j:Nat):gI (l::ls) (v::vs) j=if j=l then v else gI ls vs j:=by
 show (match Nat.beq j l with | true=>v | false=>gI ls vs j)=_
 split
 ·rename_i h;rw [if_pos (Nat.eq_of_beq_eq_true h)]
 ·rename_i h;rw [if_neg (Nat.ne_of_beq_eq_false h)]
def ep:Value->Bool
 | .agg _ | .tuple _ | .complex _ _ _=>false
 | _=>true
inductive au (ρ:aD):Value->Value->Prop
 | bool (b:Bool):au ρ (.bool b) (.bool b)
 | int (k:IntKind) (n:Int):au ρ (.int k n) (.int k n)
 | string (s:ByteArray):au ρ (.string s) (.string s)
 | nilPtr:au ρ (.pointer none) (.pointer none)
 | lu:au ρ (.slice none 0 0) (.slice none 0 0)
 | nP:au ρ (.map none) (.map none)
 | nilFunc:au ρ .nilFunc .nilFunc
 | nilIface:au ρ .nilIface .nilIface
 | ptr {i o:Nat} {r:RI}:ρ i=some r->au ρ (.pointer (some ⟨i,o,none⟩)) (.pointer (some ⟨r.aY,r.sh+o,none⟩))
 | slice {i o n o' c':Nat} {r:RI}:ρ i=some r->(o'=r.sh+o∨(n=0/\0<o/\c'=0))->n<=c'->c'<=maxLen->o'+c'*r.aT<=r.size->
   au ρ (.slice (some ⟨i,o,some r.elem⟩) n n) (.slice (some ⟨r.aY,o',none⟩) n c')
 | void (a:Addr):au ρ (.slice none 0 1) (.slice (some a) 0 0)
 | map {i:Nat} {r:RI}:ρ i=some r->au ρ (.map (some i)) (.map (some r.aY))
 | func (f:FuncId) {xs ys dv sB:Array Value}:xs.size=dv.size->ys.size=sB.size->
   (∀(k:Nat) (x x':Value),xs[k]?=some x->dv[k]?=some x'->au ρ x x')->
   (∀(k:Nat) (x x':Value),ys[k]?=some x->sB[k]?=some x'->au ρ x x')->au ρ (.func (.func f) xs ys) (.func (.func f) dv sB)
 | yield {i:Nat} {r:RI}:ρ i=some r->au ρ (.func (.yield i) #[] #[]) (.func (.yield r.aY) #[] #[])
 | agg {xs dv:Array Value}:xs.size=dv.size->(∀x∈xs.toList,ep x=true)->(∀(k:Nat) (x x':Value),xs[k]?=some x->dv[k]?=some x'->au ρ x x')->au ρ (.agg xs) (.agg dv)
 | any (v:Value):au ρ (.complex .f32 0 0) v
 | tuple {xs dv:Array Value}:xs.size=dv.size->(∀(k:Nat) (x x':Value),xs[k]?=some x->dv[k]?=some x'->au ρ x x')->au ρ (.tuple xs) (.tuple dv)
def aD.le (ρ aq:aD):Prop:=∀i r,ρ i=some r->aq i=some r
theorem aD.le.refl (ρ:aD):ρ.le ρ:=λ_ _ h=>h
theorem aD.le.trans {a b c:aD} (h:a.le b) (k:b.le c):a.le c:=λi r e=>k i r (h i r e)
theorem au.mono {ρ aq:aD} (h:ρ.le aq) {v v':Value} (hv:au ρ v v'):au aq v v':=by
 induction hv with
 | bool b=>exact .bool b
 | int k n=>exact .int k n
 | string s=>exact .string s
 | nilPtr=>exact .nilPtr
 | lu=>exact .lu
 | nP=>exact .nP
 | nilFunc=>exact .nilFunc
 | nilIface=>exact .nilIface
 | ptr hi=>exact .ptr (h _ _ hi)
 | slice hi a b c d=>exact .slice (h _ _ hi) a b c d
 | void a=>exact .void a
 | map hi=>exact .map (h _ _ hi)
 | func f a b _ _ GV GW=>exact .func f a b (λk x x' e e'=>GV k x x' e e') (λk x x' e e'=>GW k x x' e e')
 | yield hi=>exact .yield (h _ _ hi)
 | agg a b _ ih=>exact .agg a b (λk x x' e e'=>ih k x x' e e')
 | any v=>exact .any v
 | tuple a _ ih=>exact .tuple a (λk x x' e e'=>ih k x x' e e')
theorem au.undef (ρ:aD):au ρ undef undef:=.tuple rfl (λk x x' e e'=>by simp at e)
inductive bg (ρ:aD):List Value->List Value->Prop
 | nil:bg ρ [] []
 | cons {x y:Value} {xs ys:List Value}:au ρ x y->bg ρ xs ys->bg ρ (x::xs) (y::ys)
theorem bg.mono {ρ aq:aD} (h:ρ.le aq) {xs ys:List Value} (hv:bg ρ xs ys):bg aq xs ys:=by
 induction hv with
 | nil=>exact .nil
 | cons a _ ih=>exact .cons (a.mono h) ih
theorem bg.length {ρ:aD} {xs ys:List Value} (hv:bg ρ xs ys):xs.length=ys.length:=by
 induction hv with
 | nil=>rfl
 | cons _ _ ih=>simp [ih]
theorem bg.get {ρ:aD} {xs ys:List Value} (hv:bg ρ xs ys):∀{k:Nat} {x:Value},xs[k]?=some x->∃y,ys[k]?=some y/\au ρ x y:=by
 induction hv with
 | nil=>intro k x h;simp at h
 | cons a _ ih=>
  intro k x h
  cases k with
  | zero=>simp at h;subst h;exact ⟨_,by simp,a⟩
  | succ k=>simp at h;obtain ⟨y,hy,hr⟩:=ih h;exact ⟨y,by simpa using hy,hr⟩
theorem bg.append {ρ:aD} {xs ys dv sB:List Value} (h:bg ρ xs ys) (h':bg ρ dv sB):bg ρ (xs++dv) (ys++sB):=by
 induction h with
 | nil=>exact h'
 | cons a _ ih=>exact .cons a ih
theorem bg.Bp {ρ:aD}:∀{xs ys:List Value},xs.length=ys.length->(∀(k:Nat) (x y:Value),xs[k]?=some x->ys[k]?=some y->au ρ x y)->bg ρ xs ys
 | [],[],_,_=>.nil
 | x::xs,y::ys,hl,h=>.cons (h 0 x y rfl rfl) (bg.Bp (by simpa using hl) λk a b ha hb=>h (k+1) a b (by simpa using ha) (by simpa using hb))
theorem bg.take {ρ:aD} {xs ys:List Value} (h:bg ρ xs ys):∀n,bg ρ (xs.take n) (ys.take n):=by
 induction h with
 | nil=>intro n;simp;exact .nil
 | cons a _ ih=>intro n;cases n with
  | zero=>exact .nil
  | succ n=>exact .cons a (ih n)
theorem bg.drop {ρ:aD} {xs ys:List Value} (h:bg ρ xs ys):∀n,bg ρ (xs.drop n) (ys.drop n):=by
 induction h with
 | nil=>intro n;simp;exact .nil
 | cons a b ih=>intro n;cases n with
  | zero=>exact .cons a b
  | succ n=>exact ih n
theorem bg.m6 {ρ:aD} {xs dv:Array Value} (hs:xs.size=dv.size) (h:∀(k:Nat) (x x':Value),xs[k]?=some x->dv[k]?=some x'->au ρ x x'):bg ρ xs.toList dv.toList:=
 bg.Bp (by simpa using hs) λk x y hx hy=>h k x y (by simpa using hx) (by simpa using hy)
theorem bg.ofList {ρ:aD} {xs dv:List Value} (h:bg ρ xs dv):∀(k:Nat) (x x':Value),xs.toArray[k]?=some x->dv.toArray[k]?=some x'->au ρ x x':=by
 intro k x x' hx cT
 obtain ⟨y,hy,hr⟩:=h.get (k:=k) (x:=x) (by simpa using hx)
 simp at cT
 rw [hy] at cT
 cases cT
 exact hr
theorem au.uT {ρ:aD} {xs dv:List Value} (h:bg ρ xs dv) (h1:∀x∈xs,ep x=true):au ρ (.agg xs.toArray) (.agg dv.toArray):=.agg (by simpa using h.length) (by simpa using h1) h.ofList
theorem au.lV {ρ:aD} {xs dv:List Value} (h:bg ρ xs dv):au ρ (.tuple xs.toArray) (.tuple dv.toArray):=.tuple (by simpa using h.length) h.ofList
def bK (v:Value):List Value:=v.cells.toList
def de:Value->Bool
 | .tuple _ | .complex _ _ _=>false
 | _=>true
theorem au.cells {ρ:aD} {v v':Value} (h:au ρ v v') (hn:de v=true):bg ρ (bK v) (bK v'):=by
 cases h with
 | any _=>simp [de] at hn
 | agg hs _ h=>exact bg.m6 hs h
 | bool b=>exact .cons (.bool b) .nil
 | int k n=>exact .cons (.int k n) .nil
 | string s=>exact .cons (.string s) .nil
 | nilPtr=>exact .cons .nilPtr .nil
 | lu=>exact .cons .lu .nil
 | nP=>exact .cons .nP .nil
 | nilFunc=>exact .cons .nilFunc .nil
 | nilIface=>exact .cons .nilIface .nil
 | ptr hi=>exact .cons (.ptr hi) .nil
 | slice hi a b c d=>exact .cons (.slice hi a b c d) .nil
 | void a=>exact .cons (.void a) .nil
 | map hi=>exact .cons (.map hi) .nil
 | func f a b c d=>exact .cons (.func f a b c d) .nil
 | yield hi=>exact .cons (.yield hi) .nil
 | tuple a b=>simp [de] at hn
def cZ (h:ae) (i:Nat):Prop:=∃o,h[i]?=some o/\o≠ .dead
def bH (h:ae) (i:Nat):Prop:=(∃e xs,h[i]?=some (.arr e xs))∨(∃es,h[i]?=some (.smap es))∨(∃c ls vs,h[i]?=some (.loop c ls vs))∨(∃kd es,h[i]?=some (.iK kd es))∨(∃g c es,h[i]?=some (.cp g c es))∨(∃m s n l,h[i]?=some (.iter m s n l))
theorem bH.live {h:ae} {i:Nat} (hm:bH h i):cZ h i:=by
 rcases hm with ⟨e,xs,hm⟩ | ⟨es,hm⟩ | ⟨c,ls,vs,hm⟩ | ⟨kd,es,hm⟩ | ⟨g,c,es,hm⟩ | ⟨m,s,n,l,hm⟩
 ·exact ⟨_,hm,by simp⟩
 ·exact ⟨_,hm,by simp⟩
 ·exact ⟨_,hm,by simp⟩
 ·exact ⟨_,hm,by simp⟩
 ·exact ⟨_,hm,by simp⟩
 ·exact ⟨_,hm,by simp⟩
def eu (ρ:aD) (c:Array Value) (sh:Nat) (xs:List Value):Prop:=∀(j:Nat) (x:Value),xs[j]?=some x->ep x=true/\∃y,c[sh+j]?=some y/\au ρ x y
theorem au.wP {ρ:aD} {v v':Value} (h:au ρ v v') (hc:ep v=true):v'.oneCell'=true:=by
 cases h <;> first | rfl | simp [ep] at hc
theorem bg.wP {ρ:aD} {xs ys:List Value} (h:bg ρ xs ys) (h1:∀x∈xs,ep x=true):∀y∈ys,y.oneCell'=true:=by
 induction h with
 | nil=>intro y hy;simp at hy
 | cons a _ ih=>
  intro y hy
  rcases List.mem_cons.1 hy with rfl | hy
  ·exact a.wP (h1 _ (by simp))
  ·exact ih (λx hx=>h1 x (by simp [hx])) y hy
theorem au.zS {ρ:aD} {v v':Value} (h:au ρ v v') (ht:de v=true):∀x∈bK v,ep x=true:=by
 cases h with
 | agg hs h1 h=>exact h1
 | tuple _ _=>simp [de] at ht
 | any _=>simp [de] at ht
 | _=>intro x hx;simp [bK,Value.cells] at hx;subst hx;rfl
theorem eu.of {ρ:aD} {xs:List Value} {c:Array Value} (h:bg ρ xs c.toList) (h1:∀x∈xs,ep x=true):eu ρ c 0 xs:=by
 intro j x hj
 obtain ⟨y,hy,hr⟩:=h.get hj
 exact ⟨h1 x (mem_of_getElem? hj),y,by simpa using hy,hr⟩
def iN (ρ:aD) (w:World) (r:RI):ax->Prop
 | .ro e xs=>r.elem=e/\∃c t fr,w.heap[r.aY]?=some (.cells c t fr)/\c.size=r.size/\eu ρ c r.sh xs
 | .arr e xs=>r.elem=e/\r.sh<=r.size/\∃c,w.heap[r.aY]?=some (.cells c e (0,0))/\c.size=r.size/\eu ρ c r.sh xs
 | .smap es=>∃aG clock,w.heap[r.aY]?=some (.map aG clock)/\aG.size=es.length/\
   ∀(j:Nat) (k:ByteArray) (v:Value),es[j]?=some (k,v)->∃en,aG[j]?=some en/\en.key=.string k/\au ρ v en.val
 | .iK kd es=>∃aG clock,w.heap[r.aY]?=some (.map aG clock)/\aG.size=es.length/\
   ∀(j:Nat) (k:Int) (v:Value),es[j]?=some (k,v)->∃en,aG[j]?=some en/\en.key=.int kd k/\au ρ v en.val
 | .cp g clock es=>(es.map λe=>e.2.1).Nodup/\∃aG,w.heap[r.aY]?=some (.map aG clock)/\aG.size=es.length/\
   ∀(j b:Nat) (k v:Value),es[j]?=some (b,k,v)->dm g k=true/\∃en,aG[j]?=some en/\en.key=k/\en.born=b/\au ρ v en.val
 | .iter m gJ seen last=>r.sh=0/\∃rm,ρ m=some rm/\w.heap[r.aY]?=some (.mapIter (some rm.aY) gJ seen.toArray last)
 | .loop c ls vs=>∃rec,w.heap[r.aY]?=some (.loop rec)/\rec.state=.ready/\rec.pending=none/\rec.assign=c.gE/\rec.body=c.body/\rec.params=c.ps/\rec.tmps.size=c.N/\
   ∀t,au ρ (gI ls vs t) (rec.tmps.getD t Go.undef)
 | .dead=>True
structure aL (P:Program) (ρ:aD) (h:ae) (w:World):Prop where
 obj:∀i r,ρ i=some r->∃o,h[i]?=some o/\iN ρ w r o
 inj:∀i j r s,ρ i=some r->ρ j=some s->r.aY=s.aY->bH h i->cZ h j->i=j
 aT:∀i r,ρ i=some r->r.aT=P.cellsOf r.elem
theorem aL.lt {P:Program} {ρ:aD} {h:ae} {w:World} (H:aL P ρ h w) {i:Nat} {r:RI} (hi:ρ i=some r):i<h.length:=by
 obtain ⟨o,ho,_⟩:=H.obj i r hi
 exact (ba ho).1
structure Tr (ρ:aD) (h:ae) (w:World) (aq:aD) (h':ae) (w':World):Prop where
 ext:ρ.le aq
 len:h.length<=h'.length
 fK:∀i r,ρ i=some r->i<h.length
 kinds:∀i,i<h.length->bH h' i->bH h i
 fresh:∀i r,aq i=some r->ρ i=none->h.length<=i/\(w.heap.size<=r.aY∨∃j s,ρ j=some s/\s.aY=r.aY/\bH h j)
 eP:w.heap.size<=w'.heap.size
 ey:∀b,b<w.heap.size->(∀j s,ρ j=some s->s.aY=b->¬bH h j)->w'.heap[b]?=w.heap[b]?
 os:w'.os=w.os
 tape:w'.tape=w.tape
 output:w'.output=w.output
theorem Tr.refl {P:Program} {ρ:aD} {h:ae} {w:World} (H:aL P ρ h w):Tr ρ h w ρ h w where
 ext:=.refl _
 len:=le_refl _
 fK:=λ_ _ hi=>H.lt hi
 kinds:=λ_ _ h=>h
 fresh:=λi r h1 h2=>by rw [h1] at h2;cases h2
 eP:=le_refl _
 ey:=λ_ _ _=>rfl
 os:=rfl
 tape:=rfl
 output:=rfl
theorem Tr.trans {jg Lf Yj:aD} {h₁ RG AZ:ae} {jQ Cw X4:World} (a:Tr jg h₁ jQ Lf RG Cw) (b:Tr Lf RG Cw Yj AZ X4):Tr jg h₁ jQ Yj AZ X4 where
 ext:=a.ext.trans b.ext
 len:=le_trans a.len b.len
 fK:=a.fK
 kinds:=λi hi hm=>a.kinds i hi (b.kinds i (Nat.lt_of_lt_of_le hi a.len) hm)
 fresh:=by
  intro i r h3 h1
  cases h2:Lf i with
  | some r2=>
   have:=b.ext i r2 h2
   rw [h3] at this
   cases this
   exact a.fresh i r h2 h1
  | none=>
   obtain ⟨hl,hb⟩:=b.fresh i r h3 h2
   refine ⟨le_trans a.len hl,?_⟩
   rcases hb with hb | ⟨j,s,hj,hs,hm⟩
   ·exact .inl (le_trans a.eP hb)
   ·cases oE:jg j with
    | some s'=>
     have:=a.ext j s' oE
     rw [hj] at this
     cases this
     exact .inr ⟨j,s,oE,hs,a.kinds j (a.fK j s oE) hm⟩
    | none=>
     obtain ⟨_,h⟩:=a.fresh j s hj oE
     rw [hs] at h
     rcases h with h | ⟨j',s',q1,q2,q3⟩
     ·exact .inl h
     ·exact .inr ⟨j',s',q1,q2,q3⟩
 eP:=le_trans a.eP b.eP
 ey:=by
  intro k hk cL
  rw [b.ey k (Nat.lt_of_lt_of_le hk a.eP) ?_,a.ey k hk cL]
  intro j s hj hs hm
  cases oE:jg j with
  | some s'=>
   have:=a.ext j s' oE
   rw [hj] at this
   cases this
   exact cL j s oE hs (a.kinds j (a.fK j s oE) hm)
  | none=>
   obtain ⟨_,h⟩:=a.fresh j s hj oE
   rcases h with h | ⟨j',s',q1,q2,q3⟩
   ·omega
   ·exact cL j' s' q1 (by omega) q3
 os:=b.os.trans a.os
 tape:=b.tape.trans a.tape
 output:=b.output.trans a.output
theorem aL.drew {P:Program} {ρ:aD} {h:ae} {w:World} (H:aL P ρ h w) (n:Nat):aL P ρ h { w with drawn:=n }:=
 ⟨λi r hi=>let ⟨o,ho,hr⟩:=H.obj i r hi;⟨o,ho,by cases o <;> exact hr⟩,H.inj,H.aT⟩
theorem Tr.drew {P:Program} {ρ:aD} {h:ae} {w:World} (H:aL P ρ h w) (n:Nat):Tr ρ h w ρ h { w with drawn:=n } where
 ext:=.refl _
 len:=le_refl _
 fK:=λ_ _ hi=>H.lt hi
 kinds:=λ_ _ h=>h
 fresh:=λi r h1 h2=>by rw [h1] at h2;cases h2
 eP:=le_refl _
 ey:=λ_ _ _=>rfl
 os:=rfl
 tape:=rfl
 output:=rfl
def mark (D:Nat):Deferred:={ target:=.collected D,args:=#[] }
def marks (B:Nat):List Deferred->World->Prop
 | [],w=>B<=w.heap.size
 | d::ds,w=>(∃D,d=mark D/\B<=D/\w.heap[D]?=some (.deferred (some []))/\∀d'∈ds,d'≠mark D)/\marks B ds w
theorem aL.Hx {P:Program} {ρ:aD} {h:ae} {w:World} (H:aL P ρ h w) {D:Nat} {x:Option (List Deferred)} (hD:w.heap[D]?=some (.deferred x)) {j:Nat} {s:RI} (hj:ρ j=some s) (hs:s.aY=D):¬cZ h j:=by
 rintro ⟨o,ho,aU⟩
 obtain ⟨o',cr,hr⟩:=H.obj j s hj
 rw [ho] at cr
 cases cr
 subst hs
 cases o with
 | ro e xs=>obtain ⟨_,c,_,fr,h2,_⟩:=hr;rw [hD] at h2;cases h2
 | arr e xs=>obtain ⟨_,_,c,h2,_⟩:=hr;rw [hD] at h2;cases h2
 | smap es=>obtain ⟨aG,clock,h1,_⟩:=hr;rw [hD] at h1;cases h1
 | iK kd es=>obtain ⟨aG,clock,h1,_⟩:=hr;rw [hD] at h1;cases h1
 | cp g c es=>obtain ⟨_,aG,h1,_⟩:=hr;rw [hD] at h1;cases h1
 | iter m s n l=>obtain ⟨_,rm,_,h1⟩:=hr;rw [hD] at h1;cases h1
 | loop c ls vs=>obtain ⟨rec,h1,_⟩:=hr;rw [hD] at h1;cases h1
 | dead=>exact aU rfl
theorem marks.tr {P:Program} {ρ aq:aD} {h h':ae} {w w':World} (H:aL P ρ h w) (T:Tr ρ h w aq h' w') {B:Nat}:∀{ds:List Deferred},marks B ds w->marks B ds w'
 | [],hb=>le_trans hb T.eP
 | d::ds,⟨⟨D,h1,h2,h3,h4⟩,h5⟩=>
  ⟨⟨D,h1,h2,by rw [T.ey D (Array.getElem?_eq_some_iff.1 h3).1 λj s hj hs hm=>H.Hx h3 hj hs hm.live];exact h3,h4⟩,marks.tr H T h5⟩
theorem marks.lt {B:Nat} {w:World}:∀{ds:List Deferred},marks B ds w->∀d∈ds,∃D,d=mark D/\D<w.heap.size
 | [],_,d,hd=>by simp at hd
 | d::ds,⟨⟨D,h1,h2,h3,h4⟩,h5⟩,d',hd=>by
  rcases List.mem_cons.1 hd with rfl | hd
  ·exact ⟨D,h1,(Array.getElem?_eq_some_iff.1 h3).1⟩
  ·exact marks.lt h5 d' hd
theorem marks.base {B:Nat} {w:World}:∀{ds:List Deferred},marks B ds w->B<=w.heap.size
 | [],h=>h
 | _::_,h=>marks.base h.2
theorem Sy {a b:Nat} (h:mark a=mark b):a=b:=by
 simp [mark] at h
 exact h
structure cP (P:Program) (N:Nat) (B:Nat) (ρ:aD) (f:Nat->Value) (h:ae) (a:Act) (w:World):Prop where
 size:a.tmps.size=N
 defers:marks B a.defers w
 tmp:∀t,au ρ (f t) (a.tmps.getD t Go.undef)
 heap:aL P ρ h w
def qb (f:Nat->Value) (t:Nat) (v:Value):Nat->Value:=λj=>match Nat.beq j t with | true=>v | false=>f j
theorem m7 (f:Nat->Value) (t:Nat) (v:Value):qb f t v=λj=>if j=t then v else f j:=by
 funext j
 unfold qb
 split
 ·rename_i h;rw [if_pos (Nat.eq_of_beq_eq_true h)]
 ·rename_i h;rw [if_neg (Nat.ne_of_beq_eq_false h)]
def ev (f:Nat->Value):Operand->Value
 | .tmp t=>f t
 | .const v=>v
 | .global g=>.pointer (some ⟨g,0,none⟩)
 | .func f=>.func (.func f) #[] #[]
def iD:Value->Bool
 | .bool _ | .int .. | .string _ | .nilFunc | .nilIface=>true
 | .pointer none | .map none=>true
 | .slice none 0 0=>true
 | _=>false
def fP:Operand->Bool
 | .tmp _=>true
 | .const v=>iD v
 | .global _=>false
 | .func _=>true
theorem iD.rel {ρ:aD} {v:Value} (h:iD v=true):au ρ v v:=by
 unfold iD at h
 split at h
 ·exact .bool _
 ·exact .int _ _
 ·exact .string _
 ·exact .nilFunc
 ·exact .nilIface
 ·exact .nilPtr
 ·exact .nP
 ·exact .lu
 ·simp at h
theorem cP.ev {P:Program} {N B:Nat} {ρ:aD} {f:Nat->Value} {h:ae} {a:Act} {w:World} (R:cP P N B ρ f h a w) {x:Operand} (hx:fP x=true):
  au ρ (ev f x) (a.eval x):=by
 cases x with
 | tmp t=>exact R.tmp t
 | const v=>exact iD.rel hx
 | global g=>simp [fP] at hx
 | func g=>exact .func g rfl rfl (λk x x' e e'=>by simp at e) (λk x x' e e'=>by simp at e)
theorem cP.put {P:Program} {N B:Nat} {ρ aq:aD} {f:Nat->Value} {h h':ae} {a:Act} {w w':World} (R:cP P N B ρ f h a w) {d:Nat} (hd:d<N) {v v':Value}
  (T:Tr ρ h w aq h' w') (hv:au aq v v') (H:aL P aq h' w'):cP P N B aq (qb f d v) h' (a.put (some d) v') w' where
 size:=by simp [Act.put,R.size]
 defers:=marks.tr R.heap T R.defers
 tmp:=by
  intro t
  simp only [m7]
  by_cases ht:t=d
  ·subst ht
   have:t<a.tmps.size:=by rw [R.size];exact hd
   simp [Act.put,Array.getD,this]
   exact hv
  ·rw [if_neg ht]
   have:=(R.tmp t).mono T.ext
   have e:((a.put (some d) v').tmps.getD t Go.undef)=a.tmps.getD t Go.undef:=by
    simp only [Act.put,Array.getD_eq_getD_getElem?,Array.getElem?_setIfInBounds]
    rw [if_neg (by omega)]
   rw [e]
   exact this
 heap:=H
theorem cP.mono {P:Program} {N B:Nat} {ρ aq:aD} {f:Nat->Value} {h h':ae} {a:Act} {w w':World} (R:cP P N B ρ f h a w) (T:Tr ρ h w aq h' w') (H:aL P aq h' w'):
  cP P N B aq f h' a w':=⟨R.size,marks.tr R.heap T R.defers,λt=>(R.tmp t).mono T.ext,H⟩
end
section
def S (l:List UInt8):Value:=.string ⟨l.toArray⟩
def bytes (s:ByteArray):List UInt8:=s.data.toList
theorem ab7 (l:List UInt8):bytes ⟨l.toArray⟩=l:=by simp [bytes]
theorem wF (s:ByteArray):(⟨(bytes s).toArray⟩:ByteArray)=s:=by simp [bytes]
inductive kM where
 | mv (x:Operand)
 | pick (c a b:Operand)
 | bin (op:BinOp) (x y:Operand)
 | Ah (neg:Bool) (x y:Operand)
 | Ai (neg:Bool) (x y:Operand)
 | un (op:UnOp) (x:Operand)
 | conv (k:IntKind) (x:Operand)
 | cM (x:Operand)
 | JC (x:Operand)
 | G8 (x:Operand)
 | G9 (x:Operand)
 | Ba (n:Nat)
 | wE (mx:Bool) (xs:List Operand)
 | GS (x i:Operand)
 | GQ (n aT:Nat) (agg:Bool) (x i:Operand)
 | Ej (aT:Nat) (x i:Operand)
 | Ei (n aT:Nat) (x i:Operand)
 | gM (off:Nat) (x:Operand)
 | Fx (agg:Bool) (off sz:Nat) (x:Operand)
 | Cb (x:Operand) (lo hi:Option Operand)
 | Cd (e:TypeId) (aT:Nat) (x:Operand) (lo hi:Option Operand)
 | Hu (x:Operand)
 | fn (f:FuncId) (first captured:List Operand)
 | ext (x:Operand) (i:Nat)
 | build (zero:List Value) (parts:List (Nat×Nat×Operand))
 | GR (f:FuncId) (x c:Operand)
def gU (op:BinOp) (k:IntKind) (a b:Int):Option Value:=
 match op with
 | .add=>some (.int k (k.wrap (a+b)))
 | .sub=>some (.int k (k.wrap (a-b)))
 | .mul=>some (.int k (k.wrap (a*b)))
 | .quo=>if b=0 then none else some (.int k (k.wrap (a.tdiv b)))
 | .rem=>if b=0 then none else some (.int k (a.tmod b))
 | .and=>some (.int k (k.wrap (BitVec.ofInt k.bits a &&& BitVec.ofInt k.bits b).toNat))
 | .or=>some (.int k (k.wrap (BitVec.ofInt k.bits a ||| BitVec.ofInt k.bits b).toNat))
 | .xor=>some (.int k (k.wrap (BitVec.ofInt k.bits a^^^BitVec.ofInt k.bits b).toNat))
 | .andNot=>some (.int k (k.wrap (BitVec.ofInt k.bits a &&& ~~~BitVec.ofInt k.bits b).toNat))
 | .eql=>some (.bool (decide (a=b)))
 | .neq=>some (.bool (!decide (a=b)))
 | .lss=>some (.bool (decide (a<b)))
 | .leq=>some (.bool (decide (a<=b)))
 | .gtr=>some (.bool (decide (b<a)))
 | .geq=>some (.bool (decide (b<=a)))
 | _=>none
def mM (op:BinOp) (k:IntKind) (a b:Int):Option Value:=
 if b<0 then none else
 match op with
 | .shl=>some (.int k (k.wrap (a*2^(min b.toNat k.bits))))
 | .shr=>some (.int k (a.fdiv (2^(min b.toNat k.bits))))
 | _=>none
def rF (op:BinOp) (a b:List UInt8):Option Value:=
 match op with
 | .add=>if a.length+b.length<=maxLen then some (S (a++b)) else none
 | .eql=>some (.bool (decide (a=b)))
 | .neq=>some (.bool (!decide (a=b)))
 | .lss=>some (.bool (Op.bytesLess a b))
 | .leq=>some (.bool (Op.bytesLess a b||decide (a=b)))
 | .gtr=>some (.bool (!(Op.bytesLess a b||decide (a=b))))
 | .geq=>some (.bool (!Op.bytesLess a b))
 | _=>none
def ai (op:BinOp) (x y:Value):Option Value:=
 match x,y with
 | .int k a,.int k' b=>
  match op with
  | .shl=>mM .shl k a b
  | .shr=>mM .shr k a b
  | op=>if k=k' then gU op k a b else none
 | .string s,.string t=>rF op (bytes s) (bytes t)
 | _,_=>none
def lk (neg:Bool) (x y:Value):Option Value:=
 match x,y with
 | .bool a,.bool b=>some (.bool (if neg then !(a==b) else a==b))
 | _,_=>none
def A5:Value->Option Bool
 | .slice none 0 0=>some true
 | .slice (some _) _ _=>some false
 | _=>none
def GI (neg:Bool) (x y:Value):Option Value:=
 match A5 x,A5 y with
 | some a,some b=>if a||b then some (.bool (if neg then !(a&&b) else a&&b)) else none
 | _,_=>none
def fG (op:UnOp) (x:Value):Option Value:=
 match op,x with
 | .neg,.int k n=>some (.int k (k.wrap (0-n)))
 | .not,.bool b=>some (.bool !b)
 | .xor,.int k n=>some (.int k (k.wrap (BitVec.ofInt k.bits (if k.signed then -1 else k.max)^^^BitVec.ofInt k.bits n).toNat))
 | _,_=>none
def fg (k:IntKind):Value->Option Value
 | .int _ n=>some (.int k (k.wrap n))
 | _=>none
def RJ (x:Value):Option Value:=
 match x with
 | .int _ n=>some (.string (Utf8.encode n))
 | _=>none
def RK:Value->Option Value
 | .string s=>some (.string s)
 | _=>none
def dN:Value->Option Value
 | .string s=>some (.int .i64 (bytes s).length)
 | _=>none
def aZ:Value->Option Value
 | .slice _ n _=>some (.int .i64 n)
 | _=>none
def max2 (mx:Bool):Value->Value->Option Value
 | .int k x,.int _ y=>some (.int k (if mx then (if y>x then y else x) else (if y<x then y else x)))
 | _,_=>none
def oS (mx:Bool):List Value->Option Value
 | .int k x::rest=>rest.foldlM (max2 mx) (.int k x)
 | _=>none
def ja (x i:Value):Option Value:=
 match x,i with
 | .string s,.int _ i=>if 0<=i then ((bytes s)[i.toNat]?).map λb=>.int .u8 b.toNat else none
 | _,_=>none
def cU (agg:Bool) (off sz:Nat) (cs:List Value):Option Value:=
 if agg then (if off+sz<=cs.length then some (.agg ((cs.drop off).take sz).toArray) else none) else cs[off]?
def GK (n aT:Nat) (agg:Bool) (x i:Value):Option Value:=
 match x,i with
 | .agg cs,.int _ i=>if 0<=i/\i<n then cU agg (i.toNat*aT) aT cs.toList else none
 | _,_=>none
def aI (aT:Nat) (x i:Value):Option Value:=
 match x,i with
 | .slice (some ⟨id,o,some _⟩) n _,.int _ i=>if 0<=i/\i<n then some (.pointer (some ⟨id,o+i.toNat*aT,none⟩)) else none
 | _,_=>none
def tL (n aT:Nat) (x i:Value):Option Value:=
 match x,i with
 | .pointer (some ⟨id,o,none⟩),.int _ i=>if 0<=i/\i<n then some (.pointer (some ⟨id,o+i.toNat*aT,none⟩)) else none
 | _,_=>none
def bD (off:Nat) (x:Value):Option Value:=
 match x with
 | .pointer (some ⟨id,o,none⟩)=>some (.pointer (some ⟨id,o+off,none⟩))
 | _=>none
def GJ (agg:Bool) (off sz:Nat) (x:Value):Option Value:=
 match x with
 | .agg cs=>cU agg off sz cs.toList
 | _=>none
def lQ:Value->Option Nat
 | .int _ i=>if 0<=i then some i.toNat else none
 | _=>none
def lj (n:Nat) (lo hi:Option Value):Option (Nat×Nat):=
 match (match lo with | none=>some 0 | some v=>lQ v),(match hi with | none=>some n | some v=>lQ v) with
 | some l,some h=>if l<=h/\h<=n then some (l,h) else none
 | _,_=>none
def gh (x:Value) (lo hi:Option Value):Option Value:=
 match x with
 | .string s=>(lj (bytes s).length lo hi).map λ(l,h)=>S (((bytes s).take h).drop l)
 | _=>none
def gH (e:TypeId) (aT:Nat) (x:Value) (lo hi:Option Value):Option Value:=
 match x with
 | .slice none 0 0=>(lj 0 lo hi).map λ_=>.slice none 0 0
 | .slice (some ⟨id,o,some e'⟩) n _=>
  if e'=e then (lj n lo hi).map λ(l,h)=>.slice (some ⟨id,o+l*aT,some e⟩) (h-l) (h-l) else none
 | _=>none
def tN (x:Value):Option Value:=
 match x with
 | .pointer (some a)=>some (.pointer (some a))
 | .func f a b=>some (.func f a b)
 | _=>none
def cd (i:Nat) (x:Value):Option Value:=
 match x with
 | .tuple vs=>vs[i]?
 | _=>none
def setAt (xs:List Value) (o:Nat) (vs:List Value):List Value:=xs.take o++vs++xs.drop (o+vs.length)
def fE:List Value->List (Nat×Nat×Value)->Option (List Value)
 | xs,[]=>some xs
 | xs,(off,size,v)::rest=>
  if de v/\(bK v).length=size/\off+size<=xs.length then fE (setAt xs off (bK v)) rest else none
def jo (zero:List Value) (parts:List (Nat×Nat×Value)):Option Value:=(fE zero parts).map λcs=>.agg cs.toArray
def cA (c a b:Value):Option Value:=
 match c with
 | .bool t=>some (if t then a else b)
 | _=>none
def RH (x c:Value):Option Value:=
 match x,c with
 | .string s,.int .u8 c=>some (.int .i64 (Lib.indexByte (bytes s) c.toNat.toUInt8))
 | _,_=>none
def fH (o:kM) (g:Operand->Value):Option Value:=
 match o with
 | .mv x=>some (g x)
 | .pick c a b=>cA (g c) (g a) (g b)
 | .bin op x y=>ai op (g x) (g y)
 | .Ah neg x y=>lk neg (g x) (g y)
 | .Ai neg x y=>GI neg (g x) (g y)
 | .un op x=>fG op (g x)
 | .conv k x=>fg k (g x)
 | .cM x=>RK (g x)
 | .JC x=>RJ (g x)
 | .G8 x=>dN (g x)
 | .G9 x=>aZ (g x)
 | .Ba n=>some (.int .i64 n)
 | .wE mx xs=>oS mx (xs.map g)
 | .GS x i=>ja (g x) (g i)
 | .GQ n aT agg x i=>GK n aT agg (g x) (g i)
 | .Ej aT x i=>aI aT (g x) (g i)
 | .Ei n aT x i=>tL n aT (g x) (g i)
 | .gM off x=>bD off (g x)
 | .Fx agg off sz x=>GJ agg off sz (g x)
 | .Cb x lo hi=>gh (g x) (lo.map g) (hi.map g)
 | .Cd e aT x lo hi=>gH e aT (g x) (lo.map g) (hi.map g)
 | .Hu x=>tN (g x)
 | .fn f first captured=>some (.func (.func f) (first.map g).toArray (captured.map g).toArray)
 | .ext x i=>cd i (g x)
 | .build zero parts=>jo zero (parts.map λ(o,s,x)=>(o,s,g x))
 | .GR f x c=>
  match g (.func f) with
  | .func (.func f') a b=>if f'=f/\a.size=0/\b.size=0 then RH (g x) (g c) else none
  | _=>none
def jN:TypeDesc->Bool
 | .struct _ | .array _ _=>true
 | _=>false
def sS (v:Value):Bool:=iD v&&ep v
def zeroOf (P:Program) (t:TypeId):Option (List Value):=
 match P.info? t with
 | some i=>match i.zero with
  | some z=>if de z&&(bK z).all sS&&(bK z).length==i.size then some (bK z) else none
  | none=>none
 | none=>none
def placesOf (P:Program) (fs:Array Field):List (Nat×Nat):=fs.toList.map λf=>(f.offset,P.cellsOf f.type)
def fk (P:Program) (t:TypeId):Bool:=(P.info? t).isSome
def Fm (P:Program) (f:FuncId):Bool:=
 match P.funcs[f]? with
 | some fn=>fn.body.isNone&&fn.name== "internal/bytealg.IndexByteString" &&(Extern.findNext fn).isNone
 | none=>false
def fu (P:Program):Op->Option kM
 | .move x | .assign x=>some (.mv x)
 | .pick c a b=>some (.pick c a b)
 | .binOp op t x y _=>
  match op,P.underlying t with
  | .eql,some .bool=>some (.Ah false x y)
  | .neq,some .bool=>some (.Ah true x y)
  | .eql,some (.slice _)=>some (.Ai false x y)
  | .neq,some (.slice _)=>some (.Ai true x y)
  | op,_=>some (.bin op x y)
 | .unOp op _ x=>some (.un op x)
 | .convert s d x=>
  match P.underlying s,P.underlying d with
  | some (.int _),some (.int k)=>some (.conv k x)
  | some .string,some .string=>some (.cM x)
  | some (.int _),some .string=>some (.JC x)
  | _,_=>none
 | .call { callee:=.builtin .len,args,argTypes }=>
  match args.toList,argTypes.toList with
  | [x],[t]=>
   match P.underlying t with
   | some .string=>some (.G8 x)
   | some (.slice _)=>some (.G9 x)
   | some (.array n _)=>some (.Ba n)
   | _=>none
  | _,_=>none
 | .call { callee:=.builtin .min,args,argTypes:=_ }=>some (.wE false args.toList)
 | .call { callee:=.builtin .max,args,argTypes:=_ }=>some (.wE true args.toList)
 | .call { callee:=.value (.func f),args,argTypes:=_ }=>
  match args.toList with
  | [x,c]=>if Fm P f then some (.GR f x c) else none
  | _=>none
 | .index t x i=>
  match P.underlying t with
  | some .string=>some (.GS x i)
  | some (.array n e)=>
   match P.underlying e with
   | some d=>if fk P e&&(jN d||P.cellsOf e==1) then some (.GQ n (P.cellsOf e) (jN d) x i) else none
   | none=>none
  | _=>none
 | .indexAddr t x i=>
  match P.underlying t with
  | some (.slice e)=>if fk P e then some (.Ej (P.cellsOf e) x i) else none
  | some (.array n e)=>if fk P e then some (.Ei n (P.cellsOf e) x i) else none
  | _=>none
 | .fieldAddr t x f=>
  match P.underlying t with
  | some (.struct fs)=>
   match fs[f]? with
   | some fd=>if fk P fd.type&&P.cellsOf fd.type != 0 then some (.gM fd.offset x) else none
   | none=>none
  | _=>none
 | .field t x f=>
  match P.underlying t with
  | some (.struct fs)=>
   match fs[f]? with
   | some fd=>
    match P.underlying fd.type with
    | some d=>if fk P fd.type&&(jN d||P.cellsOf fd.type==1) then some (.Fx (jN d) fd.offset (P.cellsOf fd.type) x) else none
    | none=>none
   | none=>none
  | _=>none
 | .slice t x lo hi mx=>
  match P.underlying t,mx with
  | some .string,none=>some (.Cb x lo hi)
  | some (.slice e),none=>if fk P e then some (.Cd e (P.cellsOf e) x lo hi) else none
  | _,_=>none
 | .nilCheck x=>some (.Hu x)
 | .makeFunc (.func f) first captured=>some (.fn f first.toList captured.toList)
 | .extract x i=>some (.ext x i)
 | .build t parts=>
  match P.underlying t,zeroOf P t with
  | some (.struct fs),some z=>
   if fs.all λf=>fk P f.type then
    match parts.toList.mapM (m:=Option) λ(i,x)=>(placesOf P fs)[i]? |>.map λ(o,s)=>(o,s,x) with
    | some ps=>some (.build z ps)
    | none=>none
   else none
  | some (.array _ e),some z=>if fk P e then some (.build z (parts.toList.map λ(i,x)=>(i*P.cellsOf e,P.cellsOf e,x))) else none
  | _,_=>none
 | _=>none
end
section
theorem au.iw {ρ:aD} {k:IntKind} {n:Int} {v:Value} (h:au ρ (.int k n) v):v=.int k n:=by cases h;rfl
theorem au.qF {ρ:aD} {b:Bool} {v:Value} (h:au ρ (.bool b) v):v=.bool b:=by cases h;rfl
theorem au.pf {ρ:aD} {s:ByteArray} {v:Value} (h:au ρ (.string s) v):v=.string s:=by cases h;rfl
theorem au.S (ρ:aD) (l:List UInt8):au ρ (S l) (S l):=.string _
theorem toList_eq (s:ByteArray):s.toList=bytes s:=by
 obtain ⟨⟨l⟩⟩:=s
 exact ByteArray.toList_mk l
theorem ab5 (s t:ByteArray):(s.toList==t.toList)=decide (bytes s=bytes t):=by
 rw [toList_eq,toList_eq]
 by_cases h:bytes s=bytes t <;> simp [h]
theorem xi (s:ByteArray):s.size=(bytes s).length:=by simp [bytes]
theorem abX (s t:ByteArray):s++t=⟨(bytes s++bytes t).toArray⟩:=by
 apply ByteArray.ext
 apply ext'
 simp [bytes]
section
variable (P : Program) (w : World)
theorem aoQ {op:BinOp} {k:IntKind} {a b:Int} {v:Value} (t:TypeId) (bX:op≠ .shl) (ahP:op≠ .shr) (h:gU op k a b=some v):
  (binOp op t (.int k a) (.int k b)).run P w=.ok v w:=by
 cases op <;> simp [gU] at h <;> simp at bX ahP <;> (first | subst h | (obtain ⟨hb,h⟩:=h;subst h)) <;>
  simp_all [binOp,Op.intArith,Op.intDiv,Op.intBits,Op.intCmp]
 ·rw [Bool.eq_iff_iff];simp
 ·rw [Bool.eq_iff_iff];simp
theorem Xs {op:BinOp} {k k':IntKind} {a b:Int} {v:Value} (t:TypeId) (bX:op=.shl∨op=.shr) (h:mM op k a b=some v):
  (binOp op t (.int k a) (.int k' b)).run P w=.ok v w:=by
 unfold mM at h
 by_cases hb:b<0
 ·rw [if_pos hb] at h;cases h
 ·rw [if_neg hb] at h
  rcases bX with rfl | rfl <;> simp at h <;> subst h <;> simp [binOp,Op.shift,hb]
theorem ao4 {op:BinOp} {s s':ByteArray} {v:Value} (t:TypeId) (h:rF op (bytes s) (bytes s')=some v):
  (binOp op t (.string s) (.string s')).run P w=.ok v w:=by
 have e1:=ab5 s s'
 have hl:IntKind.i64.max=9223372036854775807:=rfl
 cases op <;> simp [rF] at h <;> (first | subst h | (obtain ⟨hb,h⟩:=h;subst h)) <;> simp only [binOp,Op.stringOp]
 all_goals first
  | (rw [e1];simp [toList_eq];done)
  | (simp [toList_eq];done)
  | skip
 ·unfold maxLen at hb
  rw [if_neg (by rw [hl,xi,xi];omega)]
  rw [abX]
  rfl
theorem aow (op:BinOp) (t:TypeId) (x y:Operand) (k k':IntKind) (a b:Int):(eqGuard op t x y (.int k a) (.int k' b)).run P w=.ok () w:=by
 unfold eqGuard
 cases op <;> simp
theorem aoy (op:BinOp) (t:TypeId) (x y:Operand) (a b:ByteArray):(eqGuard op t x y (.string a) (.string b)).run P w=.ok () w:=by
 unfold eqGuard
 cases op <;> simp
theorem aov (op:BinOp) (t:TypeId) (x y:Operand) (a b:Bool):(eqGuard op t x y (.bool a) (.bool b)).run P w=.ok () w:=by
 unfold eqGuard
 cases op <;> simp
theorem aox (op:BinOp) (t:TypeId) (x y:Operand) (a b:Option Addr) (n m c d:Nat):(eqGuard op t x y (.slice a n c) (.slice b m d)).run P w=.ok () w:=by
 unfold eqGuard
 cases op <;> simp
theorem aoE {ρ:aD} {op:BinOp} {x y x' y' v:Value} (t:TypeId) (ox oy:Operand) (h:ai op x y=some v) (hx:au ρ x x') (hy:au ρ y y'):
  (do eqGuard op t ox oy x' y';binOp op t x' y':Sem Value).run P w=.ok v w/\au ρ v v:=by
 unfold ai at h
 split at h
 ·rename_i k a k' b
  rw [hx.iw,hy.iw]
  have hv:(binOp op t (.int k a) (.int k' b)).run P w=.ok v w/\au ρ v v:=by
   split at h
   ·refine ⟨Xs P w t (.inl rfl) h,?_⟩
    unfold mM at h
    split at h <;> simp at h
    subst h;exact .int _ _
   ·refine ⟨Xs P w t (.inr rfl) h,?_⟩
    unfold mM at h
    split at h <;> simp at h
    subst h;exact .int _ _
   ·rename_i h1 h2
    split at h
    ·rename_i hk
     subst hk
     refine ⟨aoQ P w t h1 h2 h,?_⟩
     cases op <;> simp [gU] at h <;> (first | subst h | (obtain ⟨_,h⟩:=h;subst h)) <;> first | exact .int _ _ | exact .bool _
    ·cases h
  simp only [Sem.run_bind,aow,Result.andThen_ok]
  exact hv
 ·rename_i s s'
  rw [hx.pf,hy.pf]
  simp only [Sem.run_bind,aoy,Result.andThen_ok]
  refine ⟨ao4 P w t h,?_⟩
  cases op <;> simp [rF] at h <;> (first | subst h | (obtain ⟨_,h⟩:=h;subst h)) <;> first | exact .string _ | exact .bool _
 ·cases h
theorem Xl {ρ:aD} {neg:Bool} {op:BinOp} {x y x' y' v:Value} (t:TypeId) (ox oy:Operand) (ht:P.underlying t=some .bool) (bX:op=if neg then .neq else .eql)
  (h:lk neg x y=some v) (hx:au ρ x x') (hy:au ρ y y'):
  (do eqGuard op t ox oy x' y';binOp op t x' y':Sem Value).run P w=.ok v w/\au ρ v v:=by
 unfold lk at h
 split at h
 ·rename_i a b
  rw [hx.qF,hy.qF]
  simp only [Sem.run_bind,aov,Result.andThen_ok]
  simp at h
  subst h
  refine ⟨?_,.bool _⟩
  cases neg <;> simp at bX <;> subst bX
  ·exact run_eql_bool w t a b ht
  ·exact run_neq_bool w t a b ht
 ·cases h
theorem Xm {ρ:aD} {neg:Bool} {op:BinOp} {x y x' y' v:Value} {e:TypeId} (t:TypeId) (ox oy:Operand) (ht:P.underlying t=some (.slice e)) (bX:op=if neg then .neq else .eql)
  (h:GI neg x y=some v) (hx:au ρ x x') (hy:au ρ y y'):
  (do eqGuard op t ox oy x' y';binOp op t x' y':Sem Value).run P w=.ok v w/\au ρ v v:=by
 unfold GI at h
 split at h
 ·rename_i a b ha hb
  split at h
  ·rename_i j2
   simp at h
   subst h
   refine ⟨?_,.bool _⟩
   cases hx <;> simp [A5] at ha <;> cases hy <;> simp [A5] at hb <;> subst ha <;> subst hb <;> simp at j2
   all_goals
    simp only [Sem.run_bind,aox,Result.andThen_ok]
    cases neg <;> simp at bX <;> subst bX <;> simp only [Lib.run_eql_slice_nil w t e _ _ _ _ _ ht,run_neq_slice_nil_any w t e _ _ _ _ _ ht,run_eql_nil_slice w t e _ _ _ _ _ ht,run_neq_nil_slice w t e _ _ _ _ _ ht] <;> simp
  ·cases h
 ·cases h
theorem ao5 {ρ:aD} {op:UnOp} {x x' v:Value} (h:fG op x=some v) (hx:au ρ x x'):(Op.unary op x').run P w=.ok v w/\au ρ v v:=by
 unfold fG at h
 split at h
 ·rw [hx.iw];simp at h;subst h;exact ⟨by simp [Op.unary,Op.intArith],.int _ _⟩
 ·rw [hx.qF];simp at h;subst h;exact ⟨by simp [Op.unary],.bool _⟩
 ·rw [hx.iw];simp only [Option.some.injEq] at h;subst h;exact ⟨rfl,.int _ _⟩
 ·cases h
end
end
section
section
variable {P : Program} (w : World)
theorem ai1 {t:TypeId} (h:fk P t=true):∃i,P.info? t=some i:=by
 unfold fk at h
 exact Option.isSome_iff_exists.1 h
theorem lB {t:TypeId} (h:fk P t=true):(sizeOf t).run P w=.ok (P.cellsOf t) w:=by
 obtain ⟨i,hi⟩:=ai1 h
 exact run_sizeOf w hi
theorem JQ {t:TypeId} {d:TypeDesc} (h:P.underlying t=some d):(isAgg t).run P w=.ok (jN d) w:=by
 cases d <;> simp [isAgg,run_underlying h,jN]
theorem akJ {mx:Bool} {k:IntKind} {x:Int} {y v:Value} (h:max2 mx (.int k x) y=some v):∃k' b,y=.int k' b/\∃z,v=.int k z:=by
 unfold max2 at h
 split at h
 ·rename_i k2 x2 k3 y2 e
  cases e
  simp at h
  exact ⟨k3,y2,rfl,_,h.symm⟩
 ·cases h
theorem JR {ρ:aD} {mx:Bool}:∀{xs dv:List Value} {k:IntKind} {x:Int} {v:Value},xs.foldlM (max2 mx) (.int k x)=some v->bg ρ xs dv->
  (dv.foldlM (if mx then Builtin.max2 else Builtin.min2) (.int k x):Sem Value).run P w=.ok v w/\au ρ v v
 | [],dv,k,x,v,h,hs=>by
  cases hs
  simp at h
  subst h
  exact ⟨rfl,.int _ _⟩
 | y::xs,dv,k,x,v,h,hs=>by
  cases hs with
  | cons hy hs=>
   simp only [List.foldlM_cons,Option.bind_eq_bind,bind_eq_some_iff] at h
   obtain ⟨u,hu,h⟩:=h
   obtain ⟨k',b,rfl,z,rfl⟩:=akJ hu
   have ih:=JR (ρ:=ρ) h hs
   refine ⟨?_,ih.2⟩
   rw [hy.iw]
   simp only [List.foldlM_cons,Sem.run_bind]
   simp only [max2,Option.some.injEq,Value.int.injEq,true_and] at hu
   cases mx
   ·simp at hu⊢
    simp only [Builtin.min2,Sem.run_pure,Result.andThen_ok,hu]
    simpa using ih.1
   ·simp at hu⊢
    simp only [Builtin.max2,Sem.run_pure,Result.andThen_ok,gt_iff_lt,hu]
    simpa using ih.1
theorem aoP {ρ:aD} {t:TypeId} {x i x' i' v:Value} (ht:P.underlying t=some .string) (h:ja x i=some v) (hx:au ρ x x') (hi:au ρ i i'):
  (Instr.index t x' i').run P w=.ok v w/\au ρ v v:=by
 unfold ja at h
 split at h
 ·rename_i s k j
  rw [hx.pf,hi.iw]
  split at h
  ·rename_i h0
   simp only [map_eq_some_iff] at h
   obtain ⟨b,hb,rfl⟩:=h
   refine ⟨?_,.int _ _⟩
   have hQ:s[j.toNat]?=some b:=by
    have ar:=(ba hb).1
    have:j.toNat<s.size:=by rw [xi];exact ar
    rw [getElem?_pos s j.toNat this]
    have e:=(ba hb).2
    simp only [bytes,Array.getElem_toList] at e
    rw [<-e]
    rfl
   simp [Instr.index,asIntOf,run_underlying ht,h0,hQ]
  ·cases h
 ·cases h
theorem aiI {ρ:aD} {agg:Bool} {off sz:Nat} {cs:List Value} {fe:Array Value} {v:Value} (h:cU agg off sz cs=some v) (hs:bg ρ cs fe.toList) (h1:∀x∈cs,ep x=true):
  ∃v',(if agg then some (.agg (fe.extract off (off+sz))) else fe[off]?)=some v'/\au ρ v v':=by
 unfold cU at h
 cases agg
 ·simp at h⊢
  obtain ⟨y,hy,hr⟩:=hs.get h
  exact ⟨y,by simpa using hy,hr⟩
 ·simp at h⊢
  obtain ⟨hl,rfl⟩:=h
  have:=((hs.drop off).take sz)
  have e:(fe.extract off (off+sz))=((fe.toList.drop off).take sz).toArray:=by
   apply ext'
   simp [List.take_drop]
  rw [e]
  exact .uT this (λx hx=>h1 x (List.mem_of_mem_drop (List.mem_of_mem_take hx)))
theorem Xr {ρ:aD} {t:TypeId} {d:TypeDesc} {off:Nat} {cs:List Value} {fe:Array Value} {v:Value} (ht:P.underlying t=some d) (hk:fk P t=true)
  (h:cU (jN d) off (P.cellsOf t) cs=some v) (hs:bg ρ cs fe.toList) (h1:∀x∈cs,ep x=true):
  ∃v',(part t fe off).run P w=.ok v' w/\au ρ v v':=by
 obtain ⟨v',hv,hr⟩:=aiI h hs h1
 refine ⟨v',?_,hr⟩
 unfold part
 simp only [Sem.run_bind,JQ w ht,Result.andThen_ok]
 cases hd:jN d
 ·rw [hd] at hv
  simp at hv⊢
  rw [hv]
  rfl
 ·rw [hd] at hv
  simp at hv⊢
  simp only [lB w hk,Result.andThen_ok,hv]
theorem au.MZ {ρ:aD} {cs:Array Value} {x':Value} (h:au ρ (.agg cs) x'):∃fe,x'=.agg fe/\bg ρ cs.toList fe.toList/\∀x∈cs.toList,ep x=true:=by
 cases h with
 | agg hs h1 h=>exact ⟨_,rfl,bg.m6 hs h,h1⟩
theorem aoO {ρ:aD} {t e:TypeId} {d:TypeDesc} {n:Nat} {x i x' i' v:Value} (ht:P.underlying t=some (.array n e)) (he:P.underlying e=some d) (hk:fk P e=true)
  (h:GK n (P.cellsOf e) (jN d) x i=some v) (hx:au ρ x x') (hi:au ρ i i'):
  ∃v',(Instr.index t x' i').run P w=.ok v' w/\au ρ v v':=by
 unfold GK at h
 split at h
 ·rename_i cs k j
  obtain ⟨fe,rfl,hs,h1⟩:=hx.MZ
  rw [hi.iw]
  split at h
  ·rename_i h0
   obtain ⟨v',hr,hv⟩:=Xr w he hk h hs h1
   refine ⟨v',?_,hv⟩
   simp [Instr.index,asIntOf,run_underlying ht,h0,lB w hk,hr]
  ·cases h
 ·cases h
theorem aoN {ρ:aD} {t:TypeId} {fs:Array Field} {f:Nat} {fd:Field} {d:TypeDesc} {x x' v:Value} (ht:P.underlying t=some (.struct fs)) (hf:fs[f]?=some fd) (he:P.underlying fd.type=some d)
  (hk:fk P fd.type=true) (h:GJ (jN d) fd.offset (P.cellsOf fd.type) x=some v) (hx:au ρ x x'):
  ∃v',(Instr.field t x' f).run P w=.ok v' w/\au ρ v v':=by
 unfold GJ at h
 split at h
 ·rename_i cs
  obtain ⟨fe,rfl,hs,h1⟩:=hx.MZ
  obtain ⟨v',hr,hv⟩:=Xr w he hk h hs h1
  refine ⟨v',?_,hv⟩
  simp [Instr.field,run_underlying ht,hf,asAgg,hr]
 ·cases h
theorem aoA {ρ:aD} {t e:TypeId} {x i x' i' v:Value} (ht:P.underlying t=some (.slice e)) (hk:fk P e=true)
  (h:aI (P.cellsOf e) x i=some v) (hx:au ρ x x') (hi:au ρ i i'):
  ∃v',(Instr.indexAt t x' i').run P w=.ok v' w/\au ρ v v':=by
 unfold aI at h
 split at h
 ·rename_i id o e' n c k j
  split at h
  ·rename_i h0
   simp at h
   subst h
   rw [hi.iw]
   cases hx with
   | slice hr ho hn hc hb=>
    rename_i o' c' r
    have cr:o'=r.sh+o:=by
     rcases ho with ho | ⟨h1,h2,h3⟩
     ·exact ho
     ·omega
    subst cr
    refine ⟨_,?_,au.ptr hr⟩
    simp [Instr.indexAt,asIntOf,run_underlying ht,h0,lB w hk,Addr.add_lit,Nat.add_assoc]
  ·cases h
 ·cases h
theorem au.w4 {ρ:aD} {id o:Nat} {x':Value} (h:au ρ (.pointer (some ⟨id,o,none⟩)) x'):∃r,ρ id=some r/\x'=.pointer (some ⟨r.aY,r.sh+o,none⟩):=by
 cases h with
 | ptr hr=>exact ⟨_,hr,rfl⟩
theorem aoz {ρ:aD} {t e:TypeId} {n:Nat} {x i x' i' v:Value} (ht:P.underlying t=some (.array n e)) (hk:fk P e=true)
  (h:tL n (P.cellsOf e) x i=some v) (hx:au ρ x x') (hi:au ρ i i'):
  ∃v',(Instr.indexAt t x' i').run P w=.ok v' w/\au ρ v v':=by
 unfold tL at h
 split at h
 ·rename_i id o k j
  split at h
  ·rename_i h0
   simp at h
   subst h
   rw [hi.iw]
   obtain ⟨r,hr,rfl⟩:=hx.w4
   refine ⟨_,?_,au.ptr hr⟩
   simp [Instr.indexAt,asIntOf,run_underlying ht,h0,lB w hk,Instr.sureAddr,Addr.add_lit,Nat.add_assoc]
  ·cases h
 ·cases h
theorem aoM {ρ:aD} {t:TypeId} {fs:Array Field} {f:Nat} {fd:Field} {x x' v:Value} (ht:P.underlying t=some (.struct fs)) (hf:fs[f]?=some fd) (hk:fk P fd.type=true)
  (hz:P.cellsOf fd.type≠0) (h:bD fd.offset x=some v) (hx:au ρ x x'):
  ∃v',(Instr.fieldAt t x' f).run P w=.ok v' w/\au ρ v v':=by
 unfold bD at h
 split at h
 ·rename_i id o
  simp at h
  subst h
  obtain ⟨r,hr,rfl⟩:=hx.w4
  refine ⟨_,?_,au.ptr hr⟩
  simp [Instr.fieldAt,run_underlying ht,hf,Instr.sureAddr,fieldPlace,lB w hk,hz,Addr.add_lit,Nat.add_assoc]
 ·cases h
theorem SG {ρ:aD} {v v':Value} {n:Nat} (h:lQ v=some n) (hv:au ρ v v'):∃k i,v'=.int k i/\0<=i/\i.toNat=n:=by
 unfold lQ at h
 split at h
 ·rename_i k i
  rw [hv.iw]
  split at h
  ·rename_i h0
   simp at h
   exact ⟨k,i,rfl,h0,h⟩
  ·cases h
 ·cases h
def qu (ρ:aD):Option Value->Option Value->Prop
 | none,none=>True
 | some a,some b=>au ρ a b
 | _,_=>False
theorem JP {ρ:aD} {n cap:Nat} {isSlice:Bool} {lo hi kc dE:Option Value} {l h:Nat} (he:lj n lo hi=some (l,h)) (hc:n<=cap) (dX:qu ρ lo kc) (pO:qu ρ hi dE):
  (Instr.sliceBounds isSlice n cap kc dE none).run P w=.ok (l,h,cap) w/\l<=h/\h<=n:=by
 unfold lj at he
 split at he
 ·rename_i l1 h1 hl hh
  split at he
  ·rename_i hb
   simp at he
   obtain ⟨rfl,rfl⟩:=he
   refine ⟨?_,hb.1,hb.2⟩
   have bh:∀(v:Value),dE=some v->∃k i,v=.int k i/\0<=i/\i.toNat=h1:=by
    intro v hv
    subst hv
    cases hi with
    | none=>exact pO.elim
    | some u=>exact SG hh pO
   have bh0:dE=none->h1=n:=by
    intro hv
    subst hv
    cases hi with
    | none=>simpa using hh.symm
    | some u=>exact pO.elim
   have bl:∀(v:Value),kc=some v->∃k i,v=.int k i/\0<=i/\i.toNat=l1:=by
    intro v hv
    subst hv
    cases lo with
    | none=>exact dX.elim
    | some u=>exact SG hl dX
   have Na:kc=none->l1=0:=by
    intro hv
    subst hv
    cases lo with
    | none=>simpa using hl.symm
    | some u=>exact dX.elim
   unfold Instr.sliceBounds
   cases dE with
   | none=>
    obtain rfl:=bh0 rfl
    cases kc with
    | none=>obtain rfl:=Na rfl;simp
    | some v=>
     obtain ⟨k,i,rfl,h0,rfl⟩:=bl v rfl
     have:i<=(h1:Int):=by omega
     simp [Instr.sliceBound,asIntOf,h0,this]
   | some u=>
    obtain ⟨k,i,rfl,h0,rfl⟩:=bh u rfl
    have vL:i<=(cap:Int):=by omega
    cases kc with
    | none=>obtain rfl:=Na rfl;simp [Instr.sliceBound,asIntOf,h0,vL]
    | some v=>
     obtain ⟨k2,j,rfl,h2,rfl⟩:=bl v rfl
     have:j<=i:=by omega
     simp [Instr.sliceBound,asIntOf,h0,vL,h2,this,Int.toNat_of_nonneg h0]
  ·cases he
 ·cases he
theorem af0 (s:ByteArray) (l h:Nat):s.extract l h=⟨(((bytes s).take h).drop l).toArray⟩:=by
 apply ByteArray.ext
 apply ext'
 simp only [bytes,ByteArray.data_extract,Array.toList_extract,List.drop_take]
theorem ao1 {ρ:aD} {t:TypeId} {x x' v:Value} {lo hi kc dE:Option Value} (ht:P.underlying t=some .string) (h:gh x lo hi=some v) (hx:au ρ x x')
  (dX:qu ρ lo kc) (pO:qu ρ hi dE):(Instr.sliceAt t x' kc dE none).run P w=.ok v w/\au ρ v v:=by
 unfold gh at h
 split at h
 ·rename_i s
  rw [hx.pf]
  simp only [map_eq_some_iff,Prod.exists] at h
  obtain ⟨l,u,hb,rfl⟩:=h
  obtain ⟨hr,h1,h2⟩:=JP (P:=P) w (isSlice:=false) hb (le_refl _) dX pO
  refine ⟨?_,au.S _ _⟩
  rw [<-xi] at hr
  simp [Instr.sliceAt,Instr.slice,run_underlying ht,hr,S,af0]
 ·cases h
theorem ao2 {ρ:aD} {t e:TypeId} {x x' v:Value} {lo hi kc dE:Option Value} (hH:∀i r,ρ i=some r->r.aT=P.cellsOf r.elem) (ht:P.underlying t=some (.slice e)) (hk:fk P e=true)
  (h:gH e (P.cellsOf e) x lo hi=some v) (hx:au ρ x x') (dX:qu ρ lo kc) (pO:qu ρ hi dE):
  ∃v',(Instr.sliceAt t x' kc dE none).run P w=.ok v' w/\au ρ v v':=by
 unfold gH at h
 split at h
 ·simp only [map_eq_some_iff,Prod.exists] at h
  obtain ⟨l,u,hb,rfl⟩:=h
  obtain ⟨hr,h1,h2⟩:=JP (P:=P) w (isSlice:=true) hb (le_refl _) dX pO
  cases hx
  refine ⟨_,?_,.lu⟩
  obtain rfl:u=0:=by omega
  obtain rfl:l=0:=by omega
  simp [Instr.sliceAt,Instr.slice,run_underlying ht,hr,lB w hk]
 ·rename_i id o e' n c
  split at h
  ·rename_i F1
   subst F1
   simp only [map_eq_some_iff,Prod.exists] at h
   obtain ⟨l,u,hb,rfl⟩:=h
   cases hx with
   | slice hr ho hn hc ti=>
    rename_i o' c' r
    obtain ⟨ek,h1,h2⟩:=JP (P:=P) w (isSlice:=true) hb hn dX pO
    have fZ:=hH _ _ hr
    by_cases dV:c'=l
    ·refine ⟨.slice (some ⟨r.aY,o',none⟩) (u-l) (c' -l),?_,?_⟩
     ·rw [dV] at ek⊢
      simp [Instr.sliceAt,Instr.slice,run_underlying ht,ek,lB w hk]
     ·refine au.slice hr ?_ (by omega) (by omega) ?_
      ·rcases Nat.eq_zero_or_pos (l*P.cellsOf r.elem) with hz | hz
       ·rw [hz]
        rcases ho with ho | ⟨q1,q2,q3⟩
        ·exact .inl (by omega)
        ·exact .inr ⟨by omega,by omega,by omega⟩
       ·exact .inr ⟨by omega,by omega,by omega⟩
      ·have:c' -l=0:=by omega
       rw [this]
       have:o'<=o'+c'*r.aT:=Nat.le_add_right _ _
       omega
    ·refine ⟨.slice (some ⟨r.aY,o'+l*P.cellsOf r.elem,none⟩) (u-l) (c' -l),?_,?_⟩
     ·simp [Instr.sliceAt,Instr.slice,run_underlying ht,ek,lB w hk,dV,Addr.add_lit]
     ·refine au.slice hr ?_ (by omega) (by omega) ?_
      ·rcases ho with ho | ⟨q1,q2,q3⟩
       ·exact .inl (by omega)
       ·exfalso;omega
      ·rw [<-fZ]
       have e1:l*r.aT+(c' -l)*r.aT=c'*r.aT:=by rw [<-add_mul];congr 1;omega
       omega
  ·cases h
 ·cases h
theorem aoZ {ρ:aD} {o:Oper} {ox:Operand} {g':Operand->Value} {x v:Value} (ho:o.op=.nilCheck ox) (h:tN x=some v) (hx:au ρ x (g' ox)):
  ∃v',(execOp g' o).run P w=.ok (.value v') w/\au ρ v v':=by
 unfold tN at h
 split at h
 ·simp at h
  subst h
  generalize hy:g' ox=y at hx
  have cT:=hx
  cases hx with
  | ptr hr=>
   refine ⟨_,?_,cT⟩
   simp [execOp,ho,hy]
 ·simp at h
  subst h
  generalize hy:g' ox=y at hx
  have cT:=hx
  cases hx with
  | func f a b c d=>
   refine ⟨_,?_,cT⟩
   simp [execOp,ho,hy]
  | yield hr=>
   refine ⟨_,?_,cT⟩
   simp [execOp,ho,hy]
 ·cases h
theorem aoL {ρ:aD} {x x' v:Value} {i:Nat} (h:cd i x=some v) (hx:au ρ x x'):∃v',(Instr.extract x' i).run P w=.ok v' w/\au ρ v v':=by
 unfold cd at h
 split at h
 ·cases hx with
  | tuple hs hr=>
   obtain ⟨y,hy,hv⟩:=(bg.m6 hs hr).get (k:=i) (x:=v) (by simpa using h)
   refine ⟨y,?_,hv⟩
   simp only [getElem?_toList] at hy
   simp [Instr.extract,hy]
 ·cases h
end
theorem bg.rS {ρ:aD} {g g':Operand->Value} (hg:∀x,fP x=true->au ρ (g x) (g' x)):∀{xs:List Operand},xs.all fP=true->bg ρ (xs.map g) (xs.map g')
 | [],_=>.nil
 | x::xs,h=>by
  simp at h
  exact .cons (hg x h.1) (bg.rS hg (by simpa using h.2))
end
section
theorem apd (l:List Value) (o:Nat) (v:Value) (vs:List Value) (h:o<l.length):setAt (l.set o v) (o+1) vs=setAt l o (v::vs):=by
 have e:l.set o v=l.take o++v::l.drop (o+1):=by rw [List.set_eq_take_append_cons_drop,if_pos h]
 have hl:(l.take o).length=o:=by simp;omega
 unfold setAt
 have e1:(l.set o v).take (o+1)=l.take o++[v]:=by
  rw [e,List.take_append,hl,List.take_of_length_le (by omega)]
  simp
 have e2:(l.set o v).drop (o+1+vs.length)=l.drop (o+(v::vs).length):=by
  rw [List.drop_set,if_pos (by omega)]
  congr 1
  simp
  omega
 rw [e1,e2]
 simp
theorem api (vs:List Value):∀(off i:Nat) (cs:Array Value),off+i+vs.length<=cs.size->
  ((vs.zipIdx i).foldl (λcs (c,j)=>cs.setIfInBounds (off+j) c) cs).toList=setAt cs.toList (off+i) vs:=by
 induction vs with
 | nil=>intro off i cs h;simp [setAt]
 | cons v vs ih=>
  intro off i cs h
  simp only [List.zipIdx_cons,List.foldl_cons]
  rw [ih off (i+1) _ (by simp at h⊢;omega)]
  rw [Array.toList_setIfInBounds,show off+(i+1)=off+i+1 by omega]
  exact apd _ _ _ _ (by simp at h⊢;omega)
theorem apg {ρ:aD} {xs ys:List Value} (h:bg ρ xs ys) {o:Nat} {vs fU:List Value} (hv:bg ρ vs fU):bg ρ (setAt xs o vs) (setAt ys o fU):=by
 unfold setAt
 rw [<-hv.length]
 exact ((h.take o).append hv).append (h.drop _)
theorem ape {xs:List Value} {o:Nat} {vs:List Value} {p:Value->Prop} (h:∀x∈xs,p x) (hv:∀x∈vs,p x):∀x∈setAt xs o vs,p x:=by
 intro x hx
 unfold setAt at hx
 simp only [List.mem_append] at hx
 rcases hx with (hx | hx) | hx
 ·exact h x (List.mem_of_mem_take hx)
 ·exact hv x hx
 ·exact h x (List.mem_of_mem_drop hx)
inductive oa (ρ:aD) (place:Nat->Option (Nat×Nat)):List (Nat×Nat×Value)->List (Nat×Value)->Prop
 | nil:oa ρ place [] []
 | cons {o s i:Nat} {v v':Value} {ps:List (Nat×Nat×Value)} {qs:List (Nat×Value)}:place i=some (o,s)->au ρ v v'->oa ρ place ps qs->oa ρ place ((o,s,v)::ps) ((i,v')::qs)
theorem Ft {ρ:aD} {place:Nat->Option (Nat×Nat)} {ps:List (Nat×Nat×Value)} {qs:List (Nat×Value)} (hp:oa ρ place ps qs):
  ∀{xs cs:List Value} {ys:Array Value},fE xs ps=some cs->bg ρ xs ys.toList->(∀x∈xs,ep x=true)->
   ∃fe,Instr.fill place ys qs=some fe/\bg ρ cs fe.toList/\(∀x∈cs,ep x=true)/\cs.length=xs.length:=by
 induction hp with
 | nil=>
  intro xs cs ys h hs h1
  simp [fE] at h
  subst h
  exact ⟨ys,by simp [Instr.fill],hs,h1,rfl⟩
 | cons j5 hv _ ih=>
  rename_i o s i v v' ps qs _
  intro xs cs ys h hs h1
  simp only [fE] at h
  split at h
  ·rename_i hc
   obtain ⟨ht,hl,ho⟩:=hc
   have tJ:=hv.cells ht
   have kT:v'.cells.size=s:=by rw [<-hl,tJ.length];simp [bK]
   have jK:o+v'.cells.size<=ys.size:=by have:=hs.length;simp at this;omega
   have vK:=api (bK v') o 0 ys (by simp [bK];omega)
   simp only [Nat.add_zero] at vK
   have pJ:v'.cells.zipIdx.foldl (λcs x=>cs.setIfInBounds (o+x.2) x.1) ys=(setAt ys.toList o (bK v')).toArray:=by
    apply ext'
    rw [<-vK,<-Array.foldl_toList]
    simp [bK,Array.toList_zipIdx]
   obtain ⟨fe,hf,hr,h2,hlen⟩:=ih (ys:=(setAt ys.toList o (bK v')).toArray) h (by simpa using apg hs tJ) (ape h1 (hv.zS ht))
   refine ⟨fe,?_,hr,h2,?_⟩
   ·unfold Instr.fill
    simp only [j5]
    rw [if_neg (by simp [kT];omega)]
    rw [<-hf,<-pJ]
   ·rw [hlen]
    simp [setAt]
    omega
  ·cases h
theorem uI {P:Program} {t:TypeId} {zs:List Value} (h:zeroOf P t=some zs):
  ∃i z,P.info? t=some i/\i.zero=some z/\zs=bK z/\de z=true/\(∀x∈zs,iD x=true/\ep x=true)/\zs.length=i.size:=by
 unfold zeroOf at h
 split at h
 ·rename_i i hi
  split at h
  ·rename_i z hz
   split at h
   ·rename_i hc
    simp at h
    subst h
    simp only [and_eq_true,all_eq_true,sS,beq_iff_eq] at hc
    exact ⟨i,z,hi,hz,rfl,hc.1.1,λx hx=>hc.1.2 x hx,hc.2⟩
   ·cases h
  ·cases h
 ·cases h
theorem bg.closed {ρ:aD}:∀{zs:List Value},(∀x∈zs,iD x=true)->bg ρ zs zs
 | [],_=>.nil
 | x::zs,h=>.cons (iD.rel (h x (by simp))) (bg.closed λy hy=>h y (by simp [hy]))
section
variable {P : Program} (w : World)
theorem sg {t:TypeId} {i:TypeInfo} {z:Value} (hi:P.info? t=some i) (hz:i.zero=some z):(zeroValue t).run P w=.ok z w:=by
 simp [zeroValue,typeInfo,hi,hz]
theorem Xu:∀(fs:List Field),(∀f∈fs,fk P f.type=true)->
  (fs.mapM (m:=Sem) λf=>do pure (f.offset,<-sizeOf f.type)).run P w=.ok (fs.map λf=>(f.offset,P.cellsOf f.type)) w
 | [],_=>rfl
 | f::fs,h=>by
  have ih:=Xu fs (λg hg=>h g (by simp [hg]))
  simp only [List.mapM_cons,Sem.run_bind,lB w (h f (by simp)),Result.andThen_ok,Sem.run_pure,ih,List.map_cons]
end
end
section
section
variable {P : Program} (w : World) {ρ : aD} {g g' : Operand -> Value}
theorem Bs (hg:∀x,fP x=true->au ρ (g x) (g' x)) (l:Option Operand) (h:l.toArray.all fP=true):qu ρ (l.map g) (l.map g'):=by
 cases l with
 | none=>trivial
 | some x=>exact hg x (by simpa using h)
theorem Wj (hg:∀x,fP x=true->au ρ (g x) (g' x)) (place:Nat->Option (Nat×Nat)):∀(qs:List (Nat×Operand)) (ps:List (Nat×Nat×Operand)),
  qs.mapM (m:=Option) (λ(i,x)=>(place i).map λ(o,s)=>(o,s,x))=some ps->(∀q∈qs,fP q.2=true)->
  oa ρ place (ps.map λ(o,s,x)=>(o,s,g x)) (qs.map λ(i,x)=>(i,g' x))
 | [],ps,h,_=>by
  simp at h
  subst h
  exact .nil
 | (i,x)::qs,ps,h,hq=>by
  simp only [List.mapM_cons,Option.bind_eq_bind,bind_eq_some_iff] at h
  obtain ⟨p,hp,ps',tB,h⟩:=h
  simp at h
  subst h
  simp only [map_eq_some_iff] at hp
  obtain ⟨⟨o,s⟩,j5,rfl⟩:=hp
  exact .cons j5 (hg x (hq (i,x) (by simp))) (Wj hg place qs ps' tB λq hm=>hq q (by simp [hm]))
theorem I8 (hg:∀x,fP x=true->au ρ (g x) (g' x)) (pl:Nat->Nat×Nat):∀(qs:List (Nat×Operand)),(∀q∈qs,fP q.2=true)->
  oa ρ (λi=>some (pl i)) ((qs.map λ(i,x)=>((pl i).1,(pl i).2,x)).map λ(o,s,x)=>(o,s,g x)) (qs.map λ(i,x)=>(i,g' x))
 | [],_=>.nil
 | (i,x)::qs,hq=>.cons rfl (hg x (hq (i,x) (by simp))) (I8 hg pl qs λq hm=>hq q (by simp [hm]))
theorem aoH {t:TypeId} {fs:Array Field} {zs:List Value} {ps:List (Nat×Nat×Value)} {qs:Array (Nat×Value)} {v:Value} (ht:P.underlying t=some (.struct fs)) (hz:zeroOf P t=some zs)
  (hk:∀f∈fs.toList,fk P f.type=true) (hp:oa ρ ((placesOf P fs)[·]?) ps qs.toList) (h:jo zs ps=some v):
  ∃v',(Instr.build t qs).run P w=.ok v' w/\au ρ v v':=by
 obtain ⟨i,z,hi,lh,rfl,lL,dV,hlen⟩:=uI hz
 simp only [jo,map_eq_some_iff] at h
 obtain ⟨cs,hf,rfl⟩:=h
 obtain ⟨fe,tq,hr,h1,_⟩:=Ft (ys:=z.cells) hp hf (bg.closed λx hx=>(dV x hx).1) (λx hx=>(dV x hx).2)
 refine ⟨.agg fe,?_,?_⟩
 ·have hm:=Xu (P:=P) w fs.toList hk
  have fv:(fs.mapM (m:=Sem) λf=>do pure (f.offset,<-sizeOf f.type)).run P w=.ok (fs.toList.map λf=>(f.offset,P.cellsOf f.type)).toArray w:=by
   rw [Array.mapM_eq_mapM_toList]
   simp only [Sem.run_map,hm,Result.andThen_ok]
  have j5:(λ(x:Nat)=>((fs.toList.map λf=>(f.offset,P.cellsOf f.type)).toArray)[x]?)=((placesOf P fs)[·]?):=by
   funext x
   simp [placesOf]
  simp only [Instr.build,Sem.run_bind,sg w hi lh,Result.andThen_ok,run_underlying ht,fv]
  rw [j5,tq]
  simp
 ·have:=au.uT (ρ:=ρ) hr h1
  simpa using this
theorem aoG {t e:TypeId} {n:Nat} {zs:List Value} {ps:List (Nat×Nat×Value)} {qs:Array (Nat×Value)} {v:Value} (ht:P.underlying t=some (.array n e)) (hz:zeroOf P t=some zs)
  (hk:fk P e=true) (hp:oa ρ (λi=>some (i*P.cellsOf e,P.cellsOf e)) ps qs.toList) (h:jo zs ps=some v):
  ∃v',(Instr.build t qs).run P w=.ok v' w/\au ρ v v':=by
 obtain ⟨i,z,hi,lh,rfl,lL,dV,hlen⟩:=uI hz
 simp only [jo,map_eq_some_iff] at h
 obtain ⟨cs,hf,rfl⟩:=h
 obtain ⟨fe,tq,hr,h1,_⟩:=Ft (ys:=z.cells) hp hf (bg.closed λx hx=>(dV x hx).1) (λx hx=>(dV x hx).2)
 refine ⟨.agg fe,?_,?_⟩
 ·simp only [Instr.build,Sem.run_bind,sg w hi lh,Result.andThen_ok,run_underlying ht,lB w hk]
  rw [tq]
  simp
 ·have:=au.uT (ρ:=ρ) hr h1
  simpa using this
theorem af6 {fn:Func} (h:fn.name= "internal/bytealg.IndexByteString"):Extern.find fn=some Extern.BytealgIndexByte.indexByte:=by
 unfold Extern.find
 rw [h]
 rfl
theorem afZ {f:FuncId} (h:Fm P f=true):∃fn,P.funcs[f]?=some fn/\(fn.name== "runtime.NumGoroutine")=false/\fn.body.isNone=true/\Extern.findNext fn=none/\Extern.find fn=some Extern.BytealgIndexByte.indexByte:=by
 unfold Fm at h
 split at h
 ·rename_i fn hf
  simp only [and_eq_true,beq_iff_eq] at h
  obtain ⟨⟨h1,h2⟩,h3⟩:=h
  exact ⟨fn,hf,by rw [h2];decide,h1,by simpa using h3,af6 h2⟩
 ·cases h
theorem alJ {o:Oper} {po:kM} (hc:fu P o.op=some po) (aC:o.op.operands.all fP=true) (hH:∀i r,ρ i=some r->r.aT=P.cellsOf r.elem)
  (hg:∀x,fP x=true->au ρ (g x) (g' x)) {v:Value} (hi:fH po g=some v):∃v',(execOp g' o).run P w=.ok (.value v') w/\au ρ v v':=by
 cases ho:o.op with
 | move x=>
  rw [ho] at hc aC
  simp [fu] at hc;subst hc
  simp [Op.operands] at aC
  simp [fH] at hi;subst hi
  exact ⟨g' x,by simp [execOp,ho],hg x aC⟩
 | assign x=>
  rw [ho] at hc aC
  simp [fu] at hc;subst hc
  simp [Op.operands] at aC
  simp [fH] at hi;subst hi
  exact ⟨g' x,by simp [execOp,ho],hg x aC⟩
 | pick c a b=>
  rw [ho] at hc aC
  simp [fu] at hc;subst hc
  simp [Op.operands] at aC
  simp only [fH,cA] at hi
  split at hi
  ·rename_i t ht
   have QW:=hg c aC.1
   rw [ht] at QW
   simp at hi;subst hi
   refine ⟨if t then g' a else g' b,by simp [execOp,ho,QW.qF,asBool],?_⟩
   cases t
   ·simpa using hg b aC.2.2
   ·simpa using hg a aC.2.1
  ·cases hi
 | binOp op t x y yt=>
  rw [ho] at hc aC
  simp [Op.operands] at aC
  have hx:=hg x aC.1
  have hy:=hg y aC.2
  simp only [fu] at hc
  have fin:∀v',(do eqGuard op t x y (g' x) (g' y);binOp op t (g' x) (g' y):Sem Value).run P w=.ok v' w->(execOp g' o).run P w=.ok (.value v') w:=by
   intro v' h
   simp only [execOp,ho]
   simp only [Sem.run_bind] at h⊢
   rw [h]
   rfl
  split at hc
  ·simp at hc;subst hc
   obtain ⟨h1,h2⟩:=Xl P w (op:=.eql) t x y ‹_› rfl hi hx hy
   exact ⟨v,fin v h1,h2⟩
  ·simp at hc;subst hc
   obtain ⟨h1,h2⟩:=Xl P w (op:=.neq) t x y ‹_› rfl hi hx hy
   exact ⟨v,fin v h1,h2⟩
  ·simp at hc;subst hc
   obtain ⟨h1,h2⟩:=Xm P w (op:=.eql) t x y ‹_› rfl hi hx hy
   exact ⟨v,fin v h1,h2⟩
  ·simp at hc;subst hc
   obtain ⟨h1,h2⟩:=Xm P w (op:=.neq) t x y ‹_› rfl hi hx hy
   exact ⟨v,fin v h1,h2⟩
  ·simp at hc;subst hc
   obtain ⟨h1,h2⟩:=aoE P w t x y hi hx hy
   exact ⟨v,fin v h1,h2⟩
 | unOp op t x=>
  rw [ho] at hc aC
  simp [fu] at hc;subst hc
  simp [Op.operands] at aC
  obtain ⟨h1,h2⟩:=ao5 P w hi (hg x aC)
  exact ⟨v,by simp [execOp,ho,h1],h2⟩
 | convert s d x=>
  rw [ho] at hc aC
  simp [Op.operands] at aC
  simp only [fu] at hc
  split at hc
  ·rename_i k0 k hs hd
   simp at hc;subst hc
   simp only [fH,fg] at hi
   split at hi
   ·rename_i k1 n hx
    have:=hg x aC
    rw [hx] at this
    simp at hi;subst hi
    refine ⟨_,?_,.int _ _⟩
    simp [execOp,ho,this.iw,convert,run_underlying hs,run_underlying hd,Conv.intToInt]
   ·cases hi
  ·rename_i hs hd
   simp at hc;subst hc
   simp only [fH,RK] at hi
   split at hi
   ·rename_i z hx
    have:=hg x aC
    rw [hx] at this
    simp at hi;subst hi
    refine ⟨_,?_,.string _⟩
    simp [execOp,ho,this.pf,convert,run_underlying hs,run_underlying hd]
   ·cases hi
  ·rename_i k0 hs hd
   simp at hc;subst hc
   simp only [fH,RJ] at hi
   split at hi
   ·rename_i k1 n hx
    have:=hg x aC
    rw [hx] at this
    simp at hi;subst hi
    refine ⟨_,?_,.string _⟩
    simp [execOp,ho,this.iw,convert,run_underlying hs,run_underlying hd,Conv.intToString]
   ·cases hi
  ·cases hc
 | indexAddr t x i=>
  rw [ho] at hc aC
  simp [Op.operands] at aC
  simp only [fu] at hc
  split at hc
  ·rename_i e ht
   split at hc
   ·rename_i hk
    simp at hc;subst hc
    obtain ⟨v',h1,h2⟩:=aoA w ht hk hi (hg x aC.1) (hg i aC.2)
    exact ⟨v',by simp [execOp,ho,h1],h2⟩
   ·cases hc
  ·rename_i n e ht
   split at hc
   ·rename_i hk
    simp at hc;subst hc
    obtain ⟨v',h1,h2⟩:=aoz w ht hk hi (hg x aC.1) (hg i aC.2)
    exact ⟨v',by simp [execOp,ho,h1],h2⟩
   ·cases hc
  ·cases hc
 | index t x i=>
  rw [ho] at hc aC
  simp [Op.operands] at aC
  simp only [fu] at hc
  split at hc
  ·rename_i ht
   simp at hc;subst hc
   obtain ⟨h1,h2⟩:=aoP w ht hi (hg x aC.1) (hg i aC.2)
   exact ⟨v,by simp [execOp,ho,h1],h2⟩
  ·rename_i n e ht
   split at hc
   ·rename_i d hd
    split at hc
    ·rename_i hk
     simp at hc;subst hc
     simp only [and_eq_true] at hk
     obtain ⟨v',h1,h2⟩:=aoO w ht hd hk.1 hi (hg x aC.1) (hg i aC.2)
     exact ⟨v',by simp [execOp,ho,h1],h2⟩
    ·cases hc
   ·cases hc
  ·cases hc
 | fieldAddr t x f=>
  rw [ho] at hc aC
  simp [Op.operands] at aC
  simp only [fu] at hc
  split at hc
  ·rename_i fs ht
   split at hc
   ·rename_i fd hf
    split at hc
    ·rename_i hk
     simp at hc;subst hc
     simp only [and_eq_true,bne_iff_ne] at hk
     obtain ⟨v',h1,h2⟩:=aoM w ht hf hk.1 hk.2 hi (hg x aC)
     exact ⟨v',by simp [execOp,ho,h1],h2⟩
    ·cases hc
   ·cases hc
  ·cases hc
 | field t x f=>
  rw [ho] at hc aC
  simp [Op.operands] at aC
  simp only [fu] at hc
  split at hc
  ·rename_i fs ht
   split at hc
   ·rename_i fd hf
    split at hc
    ·rename_i d hd
     split at hc
     ·rename_i hk
      simp at hc;subst hc
      simp only [and_eq_true] at hk
      obtain ⟨v',h1,h2⟩:=aoN w ht hf hd hk.1 hi (hg x aC)
      exact ⟨v',by simp [execOp,ho,h1],h2⟩
     ·cases hc
    ·cases hc
   ·cases hc
  ·cases hc
 | slice t x lo dE mx=>
  rw [ho] at hc aC
  simp only [fu] at hc
  split at hc
  ·rename_i ht
   simp at hc;subst hc
   simp only [Op.operands,Array.all_append,and_eq_true] at aC
   obtain ⟨⟨⟨h0,h1⟩,h2⟩,_⟩:=aC
   obtain ⟨k1,k2⟩:=ao1 w ht hi (hg x (by simpa using h0)) (Bs hg lo h1) (Bs hg dE h2)
   exact ⟨v,by simp [execOp,ho,k1],k2⟩
  ·rename_i e ht
   split at hc
   ·rename_i hk
    simp at hc;subst hc
    simp only [Op.operands,Array.all_append,and_eq_true] at aC
    obtain ⟨⟨⟨h0,h1⟩,h2⟩,_⟩:=aC
    obtain ⟨v',k1,k2⟩:=ao2 w hH ht hk hi (hg x (by simpa using h0)) (Bs hg lo h1) (Bs hg dE h2)
    exact ⟨v',by simp [execOp,ho,k1],k2⟩
   ·cases hc
  ·cases hc
 | nilCheck x=>
  rw [ho] at hc aC
  simp [fu] at hc;subst hc
  simp [Op.operands] at aC
  exact aoZ w ho hi (hg x aC)
 | makeFunc fn first captured=>
  rw [ho] at hc aC
  cases fn with
  | func f=>
   simp [fu] at hc;subst hc
   simp only [Op.operands,Array.all_append,and_eq_true] at aC
   simp [fH] at hi;subst hi
   have h1:=bg.rS hg (xs:=first.toList) (by simpa using aC.1)
   have h2:=bg.rS hg (xs:=captured.toList) (by simpa using aC.2)
   refine ⟨.func (.func f) (first.map g') (captured.map g'),by simp [execOp,ho,Instr.makeFunc],?_⟩
   refine .func f (by simp) (by simp) ?_ ?_
   ·have:=h1.ofList
    simpa using this
   ·have:=h2.ofList
    simpa using this
  | _=>simp [fu] at hc
 | extract x i=>
  rw [ho] at hc aC
  simp [fu] at hc;subst hc
  simp [Op.operands] at aC
  obtain ⟨v',h1,h2⟩:=aoL (P:=P) w hi (hg x aC)
  exact ⟨v',by simp [execOp,ho,h1],h2⟩
 | build t parts=>
  rw [ho] at hc aC
  simp only [fu] at hc
  simp only [Op.operands] at aC
  have hq:∀q∈parts.toList,fP q.2=true:=by
   intro q hm
   rw [Array.all_eq_true'] at aC
   exact aC q.2 (by simp;exact ⟨q.1,by simpa using hm⟩)
  split at hc
  ·rename_i fs zs ht hz
   split at hc
   ·rename_i hk
    split at hc
    ·rename_i ps tB
     simp at hc;subst hc
     have hp:=Wj hg ((placesOf P fs)[·]?) parts.toList ps tB hq
     have bO:∀f∈fs.toList,fk P f.type=true:=by
      rw [Array.all_eq_true'] at hk
      intro f hf
      exact hk f (by simpa using hf)
     obtain ⟨v',h1,h2⟩:=aoH w ht hz bO (qs:=parts.map λ(i,x)=>(i,g' x)) (by simpa using hp) hi
     exact ⟨v',by simp [execOp,ho,h1],h2⟩
    ·cases hc
   ·cases hc
  ·rename_i n e zs ht hz
   split at hc
   ·rename_i hk
    simp at hc;subst hc
    have hp:=I8 hg (λi=>(i*P.cellsOf e,P.cellsOf e)) parts.toList hq
    obtain ⟨v',h1,h2⟩:=aoG w ht hz hk (qs:=parts.map λ(i,x)=>(i,g' x)) (by simpa using hp) hi
    exact ⟨v',by simp [execOp,ho,h1],h2⟩
   ·cases hc
  ·cases hc
 | call c=>
  rw [ho] at hc aC
  obtain ⟨callee,args,argTypes⟩:=c
  cases callee with
  | builtin b=>
   simp only [Op.operands,Call.operands,Array.empty_append] at aC
   have mj:=bg.rS hg (xs:=args.toList) (by simpa using aC)
   have fin:∀v',(∀sU,(builtin b argTypes o.type sU (args.map g')).run P w=.ok (.value v') w)->(execOp g' o).run P w=.ok (.value v') w:=by
    intro v' h
    simp [execOp,ho,resolve,invoke,h]
   cases b with
   | len=>
    simp only [fu] at hc
    split at hc
    ·rename_i x t hx rC
     obtain rfl:args=#[x]:=ext' hx
     obtain rfl:argTypes=#[t]:=ext' rC
     simp at aC
     have hr:=hg x aC
     split at hc
     ·rename_i ht
      simp at hc;subst hc
      simp only [fH,dN] at hi
      split at hi
      ·rename_i s hs
       rw [hs] at hr
       simp at hi;subst hi
       refine ⟨_,fin _ ?_,.int _ _⟩
       intro sU
       simp [builtin,Builtin.len_,run_underlying ht,hr.pf,goInt,xi]
      ·cases hi
     ·rename_i e ht
      simp at hc;subst hc
      simp only [fH,aZ] at hi
      split at hi
      ·rename_i a n c hs
       rw [hs] at hr
       simp at hi;subst hi
       refine ⟨_,fin _ ?_,.int _ _⟩
       intro sU
       generalize hy:g' x=y at hr
       cases hr <;> simp [builtin,Builtin.len_,run_underlying ht,hy,goInt]
      ·cases hi
     ·rename_i n e ht
      simp at hc;subst hc
      simp [fH] at hi;subst hi
      refine ⟨_,fin _ ?_,.int _ _⟩
      intro sU
      simp [builtin,Builtin.len_,run_underlying ht,goInt]
     ·cases hc
    ·cases hc
   | min=>
    simp [fu] at hc;subst hc
    simp only [fH,oS] at hi
    split at hi
    ·rename_i k n rest hl
     rw [hl] at mj
     generalize hy:args.toList.map g'=ys at mj
     cases mj with
     | cons h1 h2=>
      rename_i y0 ys0
      have e:=h1.iw
      subst e
      obtain ⟨k1,k2⟩:=JR (P:=P) w hi h2
      refine ⟨v,fin v ?_,k2⟩
      intro sU
      simp only [builtin,Sem.run_bind,Builtin.min_,Array.toList_map,hy]
      simp at k1
      rw [k1]
      rfl
    ·cases hi
   | max=>
    simp [fu] at hc;subst hc
    simp only [fH,oS] at hi
    split at hi
    ·rename_i k n rest hl
     rw [hl] at mj
     generalize hy:args.toList.map g'=ys at mj
     cases mj with
     | cons h1 h2=>
      rename_i y0 ys0
      have e:=h1.iw
      subst e
      obtain ⟨k1,k2⟩:=JR (P:=P) w hi h2
      refine ⟨v,fin v ?_,k2⟩
      intro sU
      simp only [builtin,Sem.run_bind,Builtin.max_,Array.toList_map,hy]
      simp at k1
      rw [k1]
      rfl
    ·cases hi
   | _=>simp [fu] at hc
  | value y=>
   cases y with
   | func f=>
    simp only [fu] at hc
    split at hc
    ·rename_i x c hx
     split at hc
     ·rename_i hf
      simp at hc;subst hc
      obtain rfl:args=#[x,c]:=ext' hx
      simp [Op.operands,Call.operands] at aC
      simp only [fH] at hi
      split at hi
      ·rename_i f' a b hgf
       split at hi
       ·rename_i j2
        obtain ⟨rfl,ha,hb⟩:=j2
        obtain rfl:=Array.eq_empty_of_size_eq_zero ha
        obtain rfl:=Array.eq_empty_of_size_eq_zero hb
        have h0:=hg (.func f') aC.1
        rw [hgf] at h0
        generalize hy:g' (.func f')=y at h0
        cases h0 with
        | func _ s1 s2 _ _=>
         rename_i dv sB
         obtain rfl:=Array.eq_empty_of_size_eq_zero s1.symm
         obtain rfl:=Array.eq_empty_of_size_eq_zero s2.symm
         simp only [RH] at hi
         split at hi
         ·rename_i s n hs hn
          injection hi with hi
          subst hi
          have h1:=hg x aC.2.1
          have h2:=hg c aC.2.2
          rw [hs] at h1
          rw [hn] at h2
          have e1:=h1.pf
          have e2:=h2.iw
          refine ⟨_,?_,.int _ _⟩
          obtain ⟨fn,q1,q2,q3,q4,q5⟩:=afZ hf
          have:=run_callFunc_extern (P:=P) q1 q2 q3 q4 q5 #[.string s,.int .u8 n] w
          simp [execOp,ho,resolve,Deferred.ofValue,invoke,hy,e1,e2]
          rw [this,Lib.run_indexByteString]
          rfl
         ·cases hi
       ·cases hi
      ·cases hi
     ·cases hc
    ·cases hc
   | _=>simp [fu] at hc
  | _=>simp [fu] at hc
 | _=>rw [ho] at hc;simp [fu] at hc
end
end
section
theorem eu.mono {ρ aq:aD} (h:ρ.le aq) {c:Array Value} {sh:Nat} {xs:List Value} (hc:eu ρ c sh xs):eu aq c sh xs:=by
 intro j x hj
 obtain ⟨h1,y,hy,hr⟩:=hc j x hj
 exact ⟨h1,y,hy,hr.mono h⟩
theorem iN.mono {ρ aq:aD} {w w':World} {r:RI} {o:ax} (hle:ρ.le aq) (hw:w'.heap[r.aY]?=w.heap[r.aY]?) (h:iN ρ w r o):iN aq w' r o:=by
 cases o with
 | ro e xs=>
  obtain ⟨h1,c,t,fr,h2,h3,h4⟩:=h
  exact ⟨h1,c,t,fr,by rw [hw];exact h2,h3,h4.mono hle⟩
 | arr e xs=>
  obtain ⟨h1,h0,c,h2,h3,h4⟩:=h
  exact ⟨h1,h0,c,by rw [hw];exact h2,h3,h4.mono hle⟩
 | smap es=>
  obtain ⟨aG,clock,h1,h2,h3⟩:=h
  refine ⟨aG,clock,by rw [hw];exact h1,h2,?_⟩
  intro j k v hj
  obtain ⟨en,he,hk,hv⟩:=h3 j k v hj
  exact ⟨en,he,hk,hv.mono hle⟩
 | iK kd es=>
  obtain ⟨aG,clock,h1,h2,h3⟩:=h
  refine ⟨aG,clock,by rw [hw];exact h1,h2,?_⟩
  intro j k v hj
  obtain ⟨en,he,hk,hv⟩:=h3 j k v hj
  exact ⟨en,he,hk,hv.mono hle⟩
 | cp g c es=>
  obtain ⟨h0,aG,h1,h2,h3⟩:=h
  refine ⟨h0,aG,by rw [hw];exact h1,h2,?_⟩
  intro j b k v hj
  obtain ⟨hg,en,he,hk,hb,hv⟩:=h3 j b k v hj
  exact ⟨hg,en,he,hk,hb,hv.mono hle⟩
 | iter m s n l=>
  obtain ⟨h0,rm,h1,h2⟩:=h
  exact ⟨h0,rm,hle _ _ h1,by rw [hw];exact h2⟩
 | loop c ls vs=>
  obtain ⟨rec,h1,h2,h3,h4,h5,h6,h7,h8⟩:=h
  exact ⟨rec,by rw [hw];exact h1,h2,h3,h4,h5,h6,h7,λt=>(h8 t).mono hle⟩
 | dead=>trivial
def aD.add (ρ:aD) (i:Nat) (r:RI):aD:=λj=>if j=i then some r else ρ j
theorem aD.oV {ρ:aD} {i:Nat} {r:RI} (h:ρ i=none):ρ.le (ρ.add i r):=by
 intro j s hj
 unfold aD.add
 split
 ·rename_i e;subst e;rw [h] at hj;cases hj
 ·exact hj
theorem aL.none {P:Program} {ρ:aD} {h:ae} {w:World} (H:aL P ρ h w):ρ h.length=none:=by
 cases hr:ρ h.length with
 | none=>rfl
 | some r=>exact absurd (H.lt hr) (Nat.lt_irrefl _)
theorem tW {P:Program} {ρ:aD} {h:ae} {w:World} (H:aL P ρ h w) {i:Nat} {r:RI} (hi:ρ i=some r) (hl:cZ h i):r.aY<w.heap.size:=by
 obtain ⟨o,ho,hr⟩:=H.obj i r hi
 obtain ⟨o',cr,aU⟩:=hl
 rw [ho] at cr
 cases cr
 have key:∀{x:Obj},w.heap[r.aY]?=some x->r.aY<w.heap.size:=λh=>(Array.getElem?_eq_some_iff.1 h).1
 cases o with
 | ro e xs=>obtain ⟨_,c,_,fr,h2,_⟩:=hr;exact key h2
 | arr e xs=>obtain ⟨_,_,c,h2,_⟩:=hr;exact key h2
 | smap es=>obtain ⟨aG,clock,h1,_⟩:=hr;exact key h1
 | iK kd es=>obtain ⟨aG,clock,h1,_⟩:=hr;exact key h1
 | cp g c es=>obtain ⟨_,aG,h1,_⟩:=hr;exact key h1
 | iter m s n l=>obtain ⟨_,rm,_,h1⟩:=hr;exact key h1
 | loop c ls vs=>obtain ⟨rec,h1,_⟩:=hr;exact key h1
 | dead=>exact absurd rfl aU
structure fV (w:World) (b:Obj) (w':World):Prop where
 heap:w'.heap=w.heap.push b
 os:w'.os=w.os
 tape:w'.tape=w.tape
 output:w'.output=w.output
theorem fV.alloc (w:World) (b:Obj):fV w b (w.alloc b):=⟨rfl,rfl,rfl,rfl⟩
theorem fV.drew (w:World) (b:Obj):fV w b (w.drew.alloc b):=⟨rfl,rfl,rfl,rfl⟩
theorem fV.old {w w':World} {b:Obj} (n:fV w b w') {k:Nat} (h:k<w.heap.size):w'.heap[k]?=w.heap[k]?:=by
 rw [n.heap,Array.getElem?_push,if_neg (by omega)]
theorem fV.new {w w':World} {b:Obj} (n:fV w b w'):w'.heap[w.heap.size]?=some b:=by
 rw [n.heap,Array.getElem?_push,if_pos rfl]
theorem fV.size {w w':World} {b:Obj} (n:fV w b w'):w'.heap.size=w.heap.size+1:=by
 rw [n.heap];simp
theorem aL.new {P:Program} {ρ:aD} {h h₀:ae} {w w':World} {b:Obj} {r:RI} {o:ax} (H:aL P ρ h w) (nb:fV w b w') (hb:r.aY=w.heap.size) (he:r.aT=P.cellsOf r.elem)
  (hk:h₀.length=h.length) (hd:∀i:Nat,h₀[i]?=h[i]?∨h₀[i]?=some ax.dead)
  (ho:iN (ρ.add h.length r) w' r o):aL P (ρ.add h.length r) (h₀++[o]) w'/\Tr ρ h w (ρ.add h.length r) (h₀++[o]) w':=by
 have hle:=aD.oV (r:=r) H.none
 have fF:∀i,i<h.length->bH (h₀++[o]) i->bH h i:=by
  intro i hi hm
  unfold bH at hm⊢
  rw [getElem?_append_left (by omega)] at hm
  rcases hd i with e | e <;> rw [e] at hm
  ·exact hm
  ·rcases hm with ⟨_,_,hm⟩ | ⟨_,hm⟩ | ⟨_,_,_,hm⟩ | ⟨_,_,hm⟩ | ⟨_,_,_,hm⟩ | ⟨_,_,_,_,hm⟩ <;> cases hm
 have re:∀i,i<h.length->cZ (h₀++[o]) i->cZ h i:=by
  intro i hi hm
  unfold cZ at hm⊢
  rw [getElem?_append_left (by omega)] at hm
  rcases hd i with e | e <;> rw [e] at hm
  ·exact hm
  ·obtain ⟨o',h1,h2⟩:=hm;cases h1;exact absurd rfl h2
 have aY:∀i s,ρ i=some s->cZ (h₀++[o]) i->s.aY<w.heap.size:=λi s hi hl=>tW H hi (re i (H.lt hi) hl)
 constructor
 ·constructor
  ·intro i s hi
   unfold aD.add at hi
   split at hi
   ·rename_i e
    subst e
    cases hi
    refine ⟨o,?_,ho⟩
    rw [<-hk]
    simp
   ·obtain ⟨o',cr,hr⟩:=H.obj i s hi
    have ar:=H.lt hi
    rw [getElem?_append_left (by omega)]
    rcases hd i with e | e
    ·refine ⟨o',by rw [e];exact cr,?_⟩
     by_cases pL:o'=.dead
     ·subst pL;trivial
     ·exact hr.mono hle (nb.old (tW H hi ⟨o',cr,pL⟩))
    ·exact ⟨.dead,e,trivial⟩
  ·intro i j s t hi hj dI hm hl
   unfold aD.add at hi hj
   split at hi <;> split at hj
   ·omega
   ·rename_i e1 e2
    cases hi
    have:=aY j t hj hl
    omega
   ·rename_i e1 e2
    cases hj
    have:=aY i s hi hm.live
    omega
   ·exact H.inj i j s t hi hj dI (fF i (H.lt hi) hm) (re j (H.lt hj) hl)
  ·intro i s hi
   unfold aD.add at hi
   split at hi
   ·cases hi;exact he
   ·exact H.aT i s hi
 ·exact {
   ext:=hle
   len:=by simp;omega
   fK:=λi s hi=>H.lt hi
   kinds:=fF
   fresh:=by
    intro i s hi hn
    unfold aD.add at hi
    split at hi
    ·rename_i e;cases hi;exact ⟨by omega,.inl (by omega)⟩
    ·rw [hn] at hi;cases hi
   eP:=by rw [nb.size];omega
   ey:=λk bO _=>nb.old bO
   os:=nb.os
   tape:=nb.tape
   output:=nb.output }
structure iV (w:World) (k:Nat) (b:Obj) (w':World):Prop where
 here:w'.heap[k]?=some b
 other:∀j,j≠k->w'.heap[j]?=w.heap[j]?
 size:w'.heap.size=w.heap.size
 os:w'.os=w.os
 tape:w'.tape=w.tape
 output:w'.output=w.output
theorem iV.row {w:World} {g:Nat} {c:Array Value} {e:TypeId} {fr:Nat×Nat} (hg:w.heap[g]?=some (.cells c e fr)) (c':Array Value):iV w g (.cells c' e fr) (w.setRow g c') where
 here:=by simp [World.setRow,Array.getElem?_modify,hg]
 other:=by intro j hj;simp [World.setRow,Array.getElem?_modify,Ne.symm hj]
 size:=by simp [World.setRow]
 os:=rfl
 tape:=rfl
 output:=rfl
theorem aL.set {P:Program} {ρ:aD} {h:ae} {w w':World} {b:Obj} {i:Nat} {r:RI} {o:ax} (H:aL P ρ h w) (hi:ρ i=some r) (hm:bH h i) (sb:iV w r.aY b w')
  (ho:iN ρ w' r o):aL P ρ (h.set i o) w'/\Tr ρ h w ρ (h.set i o) w':=by
 have ar:=H.lt hi
 have fF:∀j,bH (h.set i o) j->bH h j:=by
  intro j hj
  by_cases e:j=i
  ·subst e;exact hm
  ·unfold bH at hj⊢
   rw [getElem?_set_ne (Ne.symm e)] at hj
   exact hj
 have re:∀j,cZ (h.set i o) j->cZ h j:=by
  intro j hj
  by_cases e:j=i
  ·subst e;exact hm.live
  ·unfold cZ at hj⊢
   rw [getElem?_set_ne (Ne.symm e)] at hj
   exact hj
 constructor
 ·constructor
  ·intro j s hj
   by_cases e:j=i
   ·subst e
    rw [hi] at hj
    cases hj
    exact ⟨o,by rw [List.getElem?_set_self ar],ho⟩
   ·obtain ⟨o',cr,hr⟩:=H.obj j s hj
    refine ⟨o',by rw [getElem?_set_ne (Ne.symm e)];exact cr,?_⟩
    by_cases pL:o'=.dead
    ·subst pL;trivial
    ·refine hr.mono (.refl _) (sb.other _ ?_)
     intro hb
     exact e (H.inj i j r s hi hj hb.symm hm ⟨o',cr,pL⟩).symm
  ·intro j k s t hj hk dI fv hl
   exact H.inj j k s t hj hk dI (fF j fv) (re k hl)
  ·exact H.aT
 ·exact {
   ext:=.refl _
   len:=by simp
   fK:=λj s hj=>H.lt hj
   kinds:=λj _ hj=>fF j hj
   fresh:=λj s h1 h2=>by rw [h1] at h2;cases h2
   eP:=by rw [sb.size];exact le_refl _
   ey:=λk _ cL=>sb.other k λe=>cL i r hi e.symm hm
   os:=sb.os
   tape:=sb.tape
   output:=sb.output }
theorem aL.akM {P:Program} {ρ:aD} {h:ae} {w w':World} {b:Obj} {i:Nat} {r r':RI} {o:ax} (H:aL P ρ h w) (hi:ρ i=some r) (hm:bH h i) (sb:iV w r.aY b w')
  (hQ:r'.aY=r.aY) (dD:r'.aT=P.cellsOf r'.elem) (ho:iN (ρ.add h.length r') w' r' o):aL P (ρ.add h.length r') (h.set i .dead++[o]) w'/\Tr ρ h w (ρ.add h.length r') (h.set i .dead++[o]) w':=by
 have ar:=H.lt hi
 have hle:=aD.oV (r:=r') H.none
 have get:∀j,j<h.length->j≠i->(h.set i .dead++[o])[j]?=h[j]?:=by
  intro j hj e
  rw [getElem?_append_left (by simpa using hj),getElem?_set_ne (Ne.symm e)]
 have FK:(h.set i .dead++[o])[i]?=some .dead:=by
  rw [getElem?_append_left (by simpa using ar),List.getElem?_set_self ar]
 have fF:∀j,j<h.length->bH (h.set i .dead++[o]) j->bH h j/\j≠i:=by
  intro j hj fv
  have aU:j≠i:=by
   intro e
   subst e
   unfold bH at fv
   rw [FK] at fv
   rcases fv with ⟨_,_,h1⟩ | ⟨_,h1⟩ | ⟨_,_,_,h1⟩ | ⟨_,_,h1⟩ | ⟨_,_,_,h1⟩ | ⟨_,_,_,_,h1⟩ <;> cases h1
  refine ⟨?_,aU⟩
  unfold bH at fv⊢
  rw [get j hj aU] at fv
  exact fv
 have re:∀j,j<h.length->cZ (h.set i .dead++[o]) j->cZ h j/\j≠i:=by
  intro j hj fv
  have aU:j≠i:=by
   intro e
   subst e
   obtain ⟨o',h1,h2⟩:=fv
   rw [FK] at h1
   cases h1
   exact h2 rfl
  refine ⟨?_,aU⟩
  unfold cZ at fv⊢
  rw [get j hj aU] at fv
  exact fv
 constructor
 ·constructor
  ·intro j s hj
   unfold aD.add at hj
   split at hj
   ·rename_i e
    subst e
    cases hj
    exact ⟨o,by rw [getElem?_append_right (by simp)];simp,ho⟩
   ·by_cases e:j=i
    ·subst e
     exact ⟨.dead,FK,trivial⟩
    ·obtain ⟨o',cr,hr⟩:=H.obj j s hj
     refine ⟨o',by rw [get j (H.lt hj) e];exact cr,?_⟩
     by_cases pL:o'=.dead
     ·subst pL;trivial
     ·refine hr.mono hle (sb.other _ ?_)
      intro hb
      exact e (H.inj i j r s hi hj hb.symm hm ⟨o',cr,pL⟩).symm
  ·intro j k s t hj hk dI fv hl
   unfold aD.add at hj hk
   split at hj <;> split at hk
   ·omega
   ·cases hj
    rw [hQ] at dI
    obtain ⟨h1,h2⟩:=re k (H.lt hk) hl
    exact absurd (H.inj i k r t hi hk dI hm h1).symm h2
   ·cases hk
    rw [hQ] at dI
    obtain ⟨h1,h2⟩:=fF j (H.lt hj) fv
    exact absurd (H.inj j i s r hj hi dI h1 hm.live) h2
   ·exact H.inj j k s t hj hk dI (fF j (H.lt hj) fv).1 (re k (H.lt hk) hl).1
  ·intro j s hj
   unfold aD.add at hj
   split at hj
   ·cases hj;exact dD
   ·exact H.aT j s hj
 ·exact {
   ext:=hle
   len:=by simp
   fK:=λj s hj=>H.lt hj
   kinds:=λj hj fv=>(fF j hj fv).1
   fresh:=by
    intro j s hj hn
    unfold aD.add at hj
    split at hj
    ·rename_i e;cases hj;exact ⟨by omega,.inr ⟨i,r,hi,hQ.symm,hm⟩⟩
    ·rw [hn] at hj;cases hj
   eP:=by rw [sb.size];exact le_refl _
   ey:=λk _ cL=>sb.other k λe=>cL i r hi e.symm hm
   os:=sb.os
   tape:=sb.tape
   output:=sb.output }
end
section
inductive kr where
 | load (agg:Bool) (n:Nat) (a:Operand)
 | qC (x:Operand)
 | lookup (ok:Bool) (zero:Value) (m k:Operand)
 | Bg (kd:IntKind) (ok:Bool) (zero:Value) (m k:Operand)
 | Be (g:dZ) (ok:Bool) (zero:Value) (m k:Operand)
 | entry (it:Operand)
 | obj (x:Operand)
inductive iT where
 | alloc (e:TypeId) (zs:List Value)
 | ju (e:TypeId) (n:Nat) (zs:List Value) (parts:List (Nat×Nat×Operand))
 | make (e:TypeId) (bytes:Nat) (zs:List Value) (l c:Operand)
 | kf (g:dZ)
inductive kn where
 | fl (a:iT)
 | store (n:Nat) (a v:Operand)
 | box (e:TypeId) (x:Operand)
 | alloc (e:TypeId) (zs:List Value)
 | ju (e:TypeId) (n:Nat) (zs:List Value) (parts:List (Nat×Nat×Operand))
 | make (e:TypeId) (bytes:Nat) (zs:List Value) (l c:Operand)
 | app (e:TypeId) (aT bytes:Nat) (s x:Operand)
 | mkMap
 | Bj (kd:IntKind)
 | kf (g:dZ)
 | Hm (g:dZ) (m k v:Operand)
 | E8 (g:dZ) (m k:Operand)
 | JD (x:Operand)
 | next (it:Operand)
 | die
 | Hn (kd:IntKind) (m k v:Operand)
 | Hl (m k v:Operand)
 | copy (d s:Operand)
def bn (h:ae) (i:Nat):Option (List Value):=
 match h[i]? with
 | some (.ro _ xs)=>some xs
 | some (.arr _ xs)=>some xs
 | _=>none
def af (agg:Bool) (n:Nat) (h:ae) (a:Value):Option Value:=
 match a with
 | .pointer (some ⟨i,o,none⟩)=>(bn h i).bind λxs=>cU agg o n xs
 | _=>none
def uW:Value->Option UInt8
 | .int .u8 n=>some (UInt8.ofNat n.toNat)
 | _=>none
def eX (h:ae) (aT:Nat) (x:Value):Option (List Value):=
 match x with
 | .slice none 0 0=>some []
 | .slice (some ⟨i,o,some _⟩) n _=>
  if n=0 then some [] else (bn h i).bind λxs=>if o+n*aT<=xs.length then some ((xs.drop o).take (n*aT)) else none
 | _=>none
def mL (h:ae) (x:Value):Option Value:=(eX h 1 x).bind λcs=>(cs.mapM uW).map S
def ow (k:ByteArray):List (ByteArray×Value)->Option Value
 | []=>none
 | (k',v)::es=>if k=k' then some v else ow k es
def mX (k:ByteArray) (v:Value):List (ByteArray×Value)->List (ByteArray×Value)
 | []=>[(k,v)]
 | (k',v')::es=>if k=k' then (k',v)::es else (k',v')::mX k v es
def ov (k:Int):List (Int×Value)->Option Value
 | []=>none
 | (k',v)::es=>if k=k' then some v else ov k es
def mW (k:Int) (v:Value):List (Int×Value)->List (Int×Value)
 | []=>[(k,v)]
 | (k',v')::es=>if k=k' then (k',v)::es else (k',v')::mW k v es
def A1 (kd:IntKind) (ok:Bool) (zero:Value) (h:ae) (m k:Value):Option Value:=
 match m,k with
 | .map (some i),.int tS k=>
  match h[i]? with
  | some (.iK jt es)=>if tS=kd/\jt=kd then some (if ok then .tuple #[(ov k es).getD zero,.bool (ov k es).isSome] else (ov k es).getD zero) else none
  | _=>none
 | _,_=>none
def rK:Value->Value->Bool
 | .int k a,.int k' b=>decide (k=k')&&decide (a=b)
 | _,_=>false
def tQ:List Value->List Value->Bool
 | [],[]=>true
 | a::od,b::bs=>rK a b&&tQ od bs
 | _,_=>false
def nD:Value->Value->Bool
 | .string a,.string b=>decide (bytes a=bytes b)
 | .agg od,.agg bs=>tQ od.toList bs.toList
 | a,b=>rK a b
def jv (k:Value):List (Nat×Value×Value)->Option Nat
 | []=>none
 | (_,k',_)::es=>if nD k k'=true then some 0 else (jv k es).map (·+1)
def ou (k:Value) (es:List (Nat×Value×Value)):Option Value:=(jv k es).bind λj=>(es[j]?).map λe=>e.2.2
def nU (c:Nat) (k v:Value) (es:List (Nat×Value×Value)):List (Nat×Value×Value):=
 match jv k es with
 | some j=>es.modify j λe=>(e.1,k,v)
 | none=>es++[(c,k,v)]
def ny (c:Nat) (k:Value) (es:List (Nat×Value×Value)):Nat:=match jv k es with | some _=>c | none=>c+1
def qM (k:Value) (es:List (Nat×Value×Value)):List (Nat×Value×Value):=
 match jv k es with
 | some j=>es.eraseIdx j
 | none=>es
def jq (g:dZ) (ok:Bool) (zero:Value) (h:ae) (m k:Value):Option Value:=
 match m with
 | .map (some i)=>
  match h[i]? with
  | some (.cp g' _ es)=>if g'=g/\dm g k=true then some (if ok then .tuple #[(ou k es).getD zero,.bool (ou k es).isSome] else (ou k es).getD zero) else none
  | _=>none
 | _=>none
def tM (g:dZ) (h:ae) (m k v:Value):Option ae:=
 match m with
 | .map (some i)=>
  match h[i]? with
  | some (.cp g' c es)=>if g'=g/\dm g k=true/\de v=true then some (h.set i (.cp g (ny c k es) (nU c k v es))) else none
  | _=>none
 | _=>none
def GH (g:dZ) (h:ae) (m k:Value):Option ae:=
 match m with
 | .map (some i)=>
  match h[i]? with
  | some (.cp g' c es)=>if g'=g/\dm g k=true then some (h.set i (.cp g c (qM k es))) else none
  | _=>none
 | _=>none
def tO (h:ae) (x:Value):Option (Value×ae):=
 match x with
 | .map (some i)=>
  match h[i]? with
  | some (.cp _ c _)=>some (.pointer (some ⟨h.length,0,none⟩),h++[.iter i c [] c])
  | _=>none
 | _=>none
def wx (h:ae) (it:Value):Option Value:=
 match it with
 | .pointer (some ⟨j,0,none⟩)=>
  match h[j]? with
  | some (.iter i _ seen last)=>
   match h[i]?,seen.getLast? with
   | some (.cp _ c es),some b=>if c=last then (es.find? λe=>e.1==b).map λe=>.tuple #[e.2.1,e.2.2] else none
   | _,_=>none
  | _=>none
 | _=>none
def wI:Value->Bool
 | .bool _ | .int .. | .string _ | .nilFunc | .nilIface=>true
 | .pointer none | .map none=>true
 | .slice none 0 0=>true
 | _=>false
def vq:dZ->Value
 | .int k=>.int k 0
 | .str=>.bool true
 | .ints n k=>.agg #[.int k n]
def gY (i:Nat) (x:Value):Bool:=
 wI x||(match x with | .slice (some ⟨k,_,_⟩) _ _=>decide (k<i) | _=>false)
@[simp] theorem arS (i : Nat) (k : IntKind) (z : Int) : gY i (.int k z) = true := rfl
@[simp] theorem arR (i : Nat) (b : Bool) : gY i (.bool b) = true := rfl
@[simp] theorem arU (i : Nat) (s) : gY i (.string s) = true := rfl
@[simp] theorem arT (i : Nat) : gY i (.slice none 0 0) = true := rfl
def jY (i:Nat):ax->Option Value
 | .arr e xs=>if xs.all (gY i) then some (.agg (.int .i64 e::xs).toArray) else none
 | .cp g c es=>if c=0/\es.isEmpty=true then some (.tuple #[vq g]) else none
 | _=>none
def rG:Value->Option Nat
 | .pointer (some ⟨i,_,none⟩)=>some i
 | .slice (some ⟨i,_,_⟩) _ _=>some i
 | .map (some i)=>some i
 | _=>none
def cF (h:ae) (x:Value):Option Value:=(rG x).bind λi=>(h[i]?).bind (jY i)
def rV (h:ae) (it:Value):Option (List (Value×ae)):=
 match it with
 | .pointer (some ⟨j,0,none⟩)=>
  match h[j]? with
  | some (.iter i gJ seen last)=>
   match h[i]? with
   | some (.cp _ c es)=>
    if (!seen.isEmpty&& !es.isEmpty&&es.all λe=>decide (last<=e.1))=true then none else
    let left:=es.filter λe=> !seen.contains e.1
    let old:=left.filter λe=>decide (e.1<gJ)
    let new:=left.filter λe=>decide (gJ<=e.1)
    some ((if old.isEmpty=true then [(.tuple #[.bool false],h)] else [])++(old++new).map λe=>(.tuple #[.bool true,e.2.1,e.2.2],h.set j (.iter i gJ (seen++[e.1]) c)))
   | _=>none
  | _=>none
 | _=>none
def A0 (ok:Bool) (zero:Value) (h:ae) (m k:Value):Option Value:=
 match m,k with
 | .map (some i),.string k=>
  match h[i]? with
  | some (.smap es)=>some (if ok then .tuple #[(ow k es).getD zero,.bool (ow k es).isSome] else (ow k es).getD zero)
  | _=>none
 | _,_=>none
def dJ (o:kr) (g:Operand->Value) (h:ae):Option Value:=
 match o with
 | .load agg n a=>af agg n h (g a)
 | .qC x=>mL h (g x)
 | .lookup ok zero m k=>A0 ok zero h (g m) (g k)
 | .Bg kd ok zero m k=>A1 kd ok zero h (g m) (g k)
 | .Be kd ok zero m k=>jq kd ok zero h (g m) (g k)
 | .entry it=>wx h (g it)
 | .obj x=>cF h (g x)
def oT (n:Nat) (h:ae) (a v:Value):Option ae:=
 match a with
 | .pointer (some ⟨i,o,none⟩)=>
  match h[i]? with
  | some (.arr e xs)=>if de v/\(bK v).length=n/\o+n<=xs.length then some (h.set i (.arr e (setAt xs o (bK v)))) else none
  | _=>none
 | _=>none
def tV (h:ae):Value:=.pointer (some ⟨h.length,0,none⟩)
def sl (e:TypeId) (i o n:Nat):Value:=.slice (some ⟨i,o,some e⟩) n n
def cQ (e:TypeId) (h:ae) (x:Value):Option (Value×ae):=if de x then some (tV h,h++[.arr e (bK x)]) else none
def dt (zs:List Value) (n:Nat):List Value:=(List.replicate n zs).flatten
def bq (e:TypeId) (n:Nat) (zs:List Value) (h:ae) (ps:List (Nat×Nat×Value)):Option (Value×ae):=
 (fE (dt zs n) ps).map λcs=>(sl e h.length 0 n,h++[.arr e cs])
def jM (e:TypeId) (bytes:Nat) (zs:List Value) (h:ae) (l c:Value):Option (Value×ae):=
 match l,c with
 | .int _ l,.int _ c=>if 0<=l/\l<=c/\(bytes:Int)*c<=281474976710656/\c<=9223372036854775807 then some (sl e h.length 0 l.toNat,h++[.arr e (dt zs l.toNat)]) else none
 | _,_=>none
def iM:Value->Option Nat
 | .slice none 0 0=>some 0
 | .slice (some _) n _=>some n
 | _=>none
def cE (e:TypeId) (aT bytes:Nat) (h:ae) (s x:Value):Option (Value×ae):=
 match eX h aT x,iM x with
 | some news,some m=>
  match s with
  | .slice none 0 0=>
   if m=0 then some (s,h) else
   if m*bytes<=140737488355328/\m<=maxLen then some (sl e h.length 0 m,h++[.arr e news]) else none
  | .slice (some ⟨i,o,some e'⟩) n _=>
   match h[i]? with
   | some (.arr P2 xs)=>
    if e'=e/\P2=e/\xs.length=o+n*aT/\(n+m)*bytes<=140737488355328/\n+m<=maxLen then
     if m=0 then some (s,h) else some (sl e h.length 0 (n+m),h.set i .dead++[.arr e (xs.drop o++news)])
    else none
   | _=>none
  | _=>none
 | _,_=>none
def GL (h:ae) (m k v:Value):Option ae:=
 match m,k with
 | .map (some i),.string k=>
  match h[i]? with
  | some (.smap es)=>some (h.set i (.smap (mX k v es)))
  | _=>none
 | _,_=>none
def GM (kd:IntKind) (h:ae) (m k v:Value):Option ae:=
 match m,k with
 | .map (some i),.int tS k=>
  match h[i]? with
  | some (.iK jt es)=>if tS=kd/\jt=kd then some (h.set i (.iK kd (mW k v es))) else none
  | _=>none
 | _,_=>none
def rX (kd:dZ) (h:ae) (m k v:Value):Option (Value×ae):=(tM kd h m k v).map λh'=>(undef,h')
def A2 (kd:dZ) (h:ae):Option (Value×ae):=some (.map (some h.length),h++[.cp kd 0 []])
def bE (n:Nat) (h:ae) (a v:Value):Option (Value×ae):=(oT n h a v).map λh'=>(undef,h')
def cH (e:TypeId) (zs:List Value) (h:ae):Option (Value×ae):=some (tV h,h++[.arr e zs])
def GG (h:ae) (d s:Value):Option (Value×ae):=
 match iM d,iM s,eX h 1 s with
 | some n,some m,some cs=>
  if Nat.min m n=0 then some (.int .i64 0,h) else
  match d with
  | .slice (some ⟨i,o,some _⟩) _ _=>
   match h[i]? with
   | some (.arr e xs)=>if o+Nat.min m n<=xs.length then some (.int .i64 (Nat.min m n:Nat),h.set i (.arr e (setAt xs o (cs.take (Nat.min m n))))) else none
   | _=>none
  | _=>none
 | _,_,_=>none
def dY (o:kn) (g:Operand->Value) (h:ae):Option (Value×ae):=
 match o with
 | .fl a=>match a with
  | .alloc e zs=>some (tV h,h++[.arr e zs])
  | .ju e n zs ps=>bq e n zs h (ps.map λ(o,s,x)=>(o,s,g x))
  | .make e bytes zs l c=>jM e bytes zs h (g l) (g c)
  | .kf kd=>some (.map (some h.length),h++[.cp kd 0 []])
 | .store n a v=>(oT n h (g a) (g v)).map λh'=>(undef,h')
 | .box e x=>cQ e h (g x)
 | .alloc e zs=>some (tV h,h++[.arr e zs])
 | .ju e n zs ps=>bq e n zs h (ps.map λ(o,s,x)=>(o,s,g x))
 | .make e bytes zs l c=>jM e bytes zs h (g l) (g c)
 | .app e aT bytes s x=>cE e aT bytes h (g s) (g x)
 | .mkMap=>some (.map (some h.length),h++[.smap []])
 | .Hl m k v=>(GL h (g m) (g k) (g v)).map λh'=>(undef,h')
 | .Bj kd=>some (.map (some h.length),h++[.iK kd []])
 | .die=>none
 | .next _=>none
 | .kf kd=>some (.map (some h.length),h++[.cp kd 0 []])
 | .Hm kd m k v=>(tM kd h (g m) (g k) (g v)).map λh'=>(undef,h')
 | .E8 kd m k=>(GH kd h (g m) (g k)).map λh'=>(.tuple #[],h')
 | .JD x=>tO h (g x)
 | .Hn kd m k v=>(GM kd h (g m) (g k) (g v)).map λh'=>(undef,h')
 | .copy d s=>GG h (g d) (g s)
def iT.Ck:iT->kn
 | .alloc e zs=>.alloc e zs
 | .ju e n zs ps=>.ju e n zs ps
 | .make e b zs l c=>.make e b zs l c
 | .kf g=>.kf g
def kn.Cj:kn->Option iT
 | .alloc e zs=>some (.alloc e zs)
 | .ju e n zs ps=>some (.ju e n zs ps)
 | .make e b zs l c=>some (.make e b zs l c)
 | .kf g=>some (.kf g)
 | _=>none
def ie (a:iT) (g:Operand->Value):Option ((Nat->Value)×ax):=
 match a with
 | .alloc e zs=>some (λi=>.pointer (some ⟨i,0,none⟩),.arr e zs)
 | .ju e n zs ps=>(fE (dt zs n) (ps.map λ(o,s,x)=>(o,s,g x))).map λcs=>(λi=>sl e i 0 n,.arr e cs)
 | .make e bytes zs l c=>
  match g l,g c with
  | .int _ l,.int _ c=>if 0<=l/\l<=c/\(bytes:Int)*c<=281474976710656/\c<=9223372036854775807 then some (λi=>sl e i 0 l.toNat,.arr e (dt zs l.toNat)) else none
  | _,_=>none
 | .kf g=>some (λi=>.map (some i),.cp g 0 [])
theorem RQ (a:iT) (g:Operand->Value) (h:ae):dY (.fl a) g h=(ie a g).map λp=>(p.1 h.length,h++[p.2]):=by
 cases a with
 | alloc e zs=>rfl
 | ju e n zs ps=>simp only [dY,ie,bq,Option.map_map];rfl
 | make e b zs l c=>
  simp only [dY,ie,jM]
  split
  ·split <;> rfl
  ·rfl
 | kf g=>rfl
theorem aiS (a:iT) (g:Operand->Value) (h:ae):dY a.Ck g h=dY (.fl a) g h:=by cases a <;> rfl
theorem XY {e:kn} {a:iT} (h:e.Cj=some a):a.Ck=e:=by
 cases e <;> simp [kn.Cj] at h <;> subst h <;> rfl
theorem El {a:iT} {g:Operand->Value} {V:Nat->Value} {o:ax} (h:ie a g=some (V,o)):∀i,rG (V i)=some i:=by
 cases a with
 | kf g=>simp [ie] at h;obtain ⟨rfl,_⟩:=h;intro i;rfl
 | alloc e zs=>simp [ie] at h;obtain ⟨rfl,_⟩:=h;intro i;rfl
 | ju e n zs ps=>simp only [ie,map_eq_some_iff,Prod.mk.injEq] at h;obtain ⟨_,_,rfl,_⟩:=h;intro i;rfl
 | make e b zs l c=>
  simp only [ie] at h
  split at h
  ·split at h
   ·simp at h;obtain ⟨rfl,_⟩:=h;intro i;rfl
   ·cases h
  ·cases h
def uH (P:Program) (t:TypeId):Option Value:=
 match P.info? t with
 | some i=>match i.zero with
  | some z=>if sS z then some z else none
  | none=>none
 | none=>none
def isString (P:Program) (t:TypeId):Bool:=match P.underlying t with | some .string=>true | _=>false
def rM (P:Program) (t:TypeId):Option IntKind:=match P.underlying t with | some (.int k)=>some k | _=>none
def sC:Value->Bool
 | .agg cs=>cs.toList.all sS
 | v=>iD v
def CD (P:Program) (t:TypeId):Option Value:=
 match P.info? t with
 | some i=>match i.zero with
  | some z=>if sC z then some z else none
  | none=>none
 | none=>none
def lH (P:Program) (t:TypeId):Option dZ:=
 match P.underlying t with
 | some (.map kt et)=>
  match P.underlying et with
  | some (.int _)=>none
  | _=>
   match P.underlying kt with
   | some .string=>some .str
   | some (.int k)=>some (.int k)
   | some (.array n e)=>
    match P.underlying e with
    | some (.int k)=>if (P.cellsOf e==1&&P.cellsOf kt==n&& !(P.types.size==0))=true then some (.ints n k) else none
    | _=>none
   | _=>none
 | _=>none
def oh (P:Program):Op->Option kr
 | .load t a=>
  match P.underlying t with
  | some d=>if fk P t&&(jN d||P.cellsOf t==1) then some (.load (jN d) (P.cellsOf t) a) else none
  | none=>none
 | .entry it=>some (.entry it)
 | .convert s d x=>
  match P.underlying s,P.underlying d with
  | some (.slice e),some .string=>match P.underlying e with | some (.int .u8)=>some (.qC x) | _=>none
  | _,_=>none
 | .lookup t m k ok=>
  match lH P t with
  | some g=>match P.underlying t with
   | some (.map _ et)=>(CD P et).map λz=>.Be g ok z m k
   | _=>none
  | none=>
  match P.underlying t with
  | some (.map kt et)=>if isString P kt then (uH P et).map λz=>.lookup ok z m k else (rM P kt).bind λkd=>(uH P et).map λz=>.Bg kd ok z m k
  | _=>none
 | _=>none
def fc (P:Program):Op->Option kn
 | .store t a v=>if fk P t then some (.store (P.cellsOf t) a v) else none
 | .box e x=>some (.box e x)
 | .alloc e=>(zeroOf P e).map λzs=>.alloc e zs
 | .buildSlice t n ps=>
  match P.underlying t with
  | some (.slice e)=>
   match zeroOf P e with
   | some zs=>if n*P.cellsOf e<=16777216/\P.cellsOf e≠0 then some (.ju e n zs (ps.toList.map λ(i,x)=>(i*P.cellsOf e,P.cellsOf e,x))) else none
   | none=>none
  | _=>none
 | .makeSlice t l c=>
  match P.underlying t with
  | some (.slice e)=>
   match zeroOf P e with
   | some zs=>some (.make e (P.bytesOf e) zs l c)
   | none=>none
  | _=>none
 | .call { callee:=.builtin .append,args,argTypes }=>
  match args.toList,argTypes.toList with
  | [s,x],[t,t']=>
   if t=t' then
    match P.underlying t with
    | some (.slice e)=>
     match zeroOf P e with
     | some _=>some (.app e (P.cellsOf e) (P.bytesOf e) s x)
     | none=>none
    | _=>none
   else none
  | _,_=>none
 | .makeMap t none=>
  match lH P t with
  | some g=>some (.kf g)
  | none=>
  match P.underlying t with
  | some (.map kt _)=>some (match rM P kt with | some kd=>.Bj kd | none=>.mkMap)
  | _=>some .mkMap
 | .mapUpdate t m k v | .insert t m k v=>
  match lH P t with
  | some g=>some (.Hm g m k v)
  | none=>
  match P.underlying t with
  | some (.map kt _)=>if isString P kt then some (.Hl m k v) else (rM P kt).map λkd=>.Hn kd m k v
  | _=>none
 | .call { callee:=.builtin .delete,args,argTypes }=>
  match args.toList,argTypes[0]? with
  | [m,k],some t=>(lH P t).map λg=>.E8 g m k
  | _,_=>none
 | .call { callee:=.builtin .copy,args,argTypes }=>
  match args.toList,argTypes.toList with
  | [d,s],[t,_]=>
   match P.underlying t with
   | some (.slice e)=>if (P.info? e).map (·.size)=some 1 then some (.copy d s) else none
   | _=>none
  | _,_=>none
 | .range t x=>(lH P t).map λ_=>.JD x
 | .next it false=>some (.next it)
 | .panic _ | .makeInterface .. =>some .die
 | _=>none
end
section
theorem XO {ρ:aD} {i o n:Nat} {e:TypeId} {y:Value} (h:au ρ (.slice (some ⟨i,o,some e⟩) n n) y):
  ∃r o' c',ρ i=some r/\r.elem=e/\y=.slice (some ⟨r.aY,o',none⟩) n c'/\(o'=r.sh+o∨(n=0/\0<o/\c'=0))/\n<=c'/\c'<=maxLen/\o'+c'*r.aT<=r.size:=by
 cases h with
 | slice hr a b c d=>exact ⟨_,_,_,hr,rfl,rfl,a,b,c,d⟩
theorem au.down {ρ aq:aD} (hle:ρ.le aq) {x y0:Value} (h0:au ρ x y0):∀{y:Value},au aq x y->au ρ x y:=by
 have same:∀{i:Nat} {r r':RI},ρ i=some r->aq i=some r'->r'=r:=λh h'=>by rw [hle _ _ h] at h';cases h';rfl
 induction h0 with
 | bool b=>intro y h;cases h;exact .bool b
 | int k n=>intro y h;cases h;exact .int k n
 | string s=>intro y h;cases h;exact .string s
 | nilPtr=>intro y h;cases h;exact .nilPtr
 | lu=>intro y h;cases h;exact .lu
 | nP=>intro y h;cases h;exact .nP
 | nilFunc=>intro y h;cases h;exact .nilFunc
 | nilIface=>intro y h;cases h;exact .nilIface
 | ptr hi=>intro y h;cases h with | ptr dE=>cases same hi dE;exact .ptr hi
 | slice hi a b c d=>
  intro y h
  obtain ⟨r',o',c',h1,h2,rfl,h3,h4,h5,h6⟩:=XO h
  cases same hi h1
  exact .slice hi h3 h4 h5 h6
 | void a=>intro y h;cases h;exact .void _
 | map hi=>intro y h;cases h with | map dE=>cases same hi dE;exact .map hi
 | yield hi=>intro y h;cases h with | yield dE=>cases same hi dE;exact .yield hi
 | func f s1 s2 _ _ GV GW=>
  intro y h
  cases h with
  | func _ t1 t2 q1 q2=>
   refine .func f t1 t2 (λk x x' e e'=>?_) (λk x x' e e'=>?_)
   ·obtain ⟨z,hz⟩:∃z,_=some z:=⟨_,getElem?_eq_getElem (by rw [<-s1];exact (Array.getElem?_eq_some_iff.1 e).1)⟩
    exact GV k x z e hz (q1 k x x' e e')
   ·obtain ⟨z,hz⟩:∃z,_=some z:=⟨_,getElem?_eq_getElem (by rw [<-s2];exact (Array.getElem?_eq_some_iff.1 e).1)⟩
    exact GW k x z e hz (q2 k x x' e e')
 | agg s1 hc _ ih=>
  intro y h
  cases h with
  | agg t1 _ q1=>
   refine .agg t1 hc (λk x x' e e'=>?_)
   obtain ⟨z,hz⟩:∃z,_=some z:=⟨_,getElem?_eq_getElem (by rw [<-s1];exact (Array.getElem?_eq_some_iff.1 e).1)⟩
   exact ih k x z e hz (q1 k x x' e e')
 | any v=>intro y _;exact .any y
 | tuple s1 _ ih=>
  intro y h
  cases h with
  | tuple t1 q1=>
   refine .tuple t1 (λk x x' e e'=>?_)
   obtain ⟨z,hz⟩:∃z,_=some z:=⟨_,getElem?_eq_getElem (by rw [<-s1];exact (Array.getElem?_eq_some_iff.1 e).1)⟩
   exact ih k x z e hz (q1 k x x' e e')
theorem eu.down {ρ aq:aD} (hle:ρ.le aq) {c c':Array Value} {sh XH:Nat} {xs:List Value} (h0:eu ρ c sh xs) (h:eu aq c' XH xs):eu ρ c' XH xs:=by
 intro j x hj
 obtain ⟨_,y0,_,r0⟩:=h0 j x hj
 obtain ⟨c1,y,hy,r⟩:=h j x hj
 exact ⟨c1,y,hy,r0.down hle r⟩
theorem iN.down {ρ aq:aD} (hle:ρ.le aq) {w w':World} {r:RI} {o:ax} (h0:iN ρ w r o) (h:iN aq w' r o):iN ρ w' r o:=by
 cases o with
 | ro e xs=>
  obtain ⟨_,_,_,_,_,_,b4⟩:=h0
  obtain ⟨a1,c,t,fr,a2,a3,a4⟩:=h
  exact ⟨a1,c,t,fr,a2,a3,b4.down hle a4⟩
 | arr e xs=>
  obtain ⟨_,_,_,_,_,b4⟩:=h0
  obtain ⟨a1,a0,c,a2,a3,a4⟩:=h
  exact ⟨a1,a0,c,a2,a3,b4.down hle a4⟩
 | smap es=>
  obtain ⟨_,_,_,_,b3⟩:=h0
  obtain ⟨aG,clock,a1,a2,a3⟩:=h
  refine ⟨aG,clock,a1,a2,λj k v hj=>?_⟩
  obtain ⟨_,_,_,r0⟩:=b3 j k v hj
  obtain ⟨en,e1,e2,e3⟩:=a3 j k v hj
  exact ⟨en,e1,e2,r0.down hle e3⟩
 | iK kd es=>
  obtain ⟨_,_,_,_,b3⟩:=h0
  obtain ⟨aG,clock,a1,a2,a3⟩:=h
  refine ⟨aG,clock,a1,a2,λj k v hj=>?_⟩
  obtain ⟨_,_,_,r0⟩:=b3 j k v hj
  obtain ⟨en,e1,e2,e3⟩:=a3 j k v hj
  exact ⟨en,e1,e2,r0.down hle e3⟩
 | cp g c es=>
  obtain ⟨_,_,_,_,b3⟩:=h0
  obtain ⟨a0,aG,a1,a2,a3⟩:=h
  refine ⟨a0,aG,a1,a2,λj b k v hj=>?_⟩
  obtain ⟨_,_,_,_,_,r0⟩:=b3 j b k v hj
  obtain ⟨e0,en,e1,e2,vh,e3⟩:=a3 j b k v hj
  exact ⟨e0,en,e1,e2,vh,r0.down hle e3⟩
 | iter m s n l=>
  obtain ⟨_,rm0,b1,_⟩:=h0
  obtain ⟨a0,rm,a1,a2⟩:=h
  have:=hle _ _ b1
  rw [a1] at this
  cases this
  exact ⟨a0,rm0,b1,a2⟩
 | loop c ls vs=>
  obtain ⟨_,_,_,_,_,_,_,_,b8⟩:=h0
  obtain ⟨rec,a1,a2,a3,a4,a5,a6,a7,a8⟩:=h
  exact ⟨rec,a1,a2,a3,a4,a5,a6,a7,λt=>(b8 t).down hle (a8 t)⟩
 | dead=>trivial
theorem wI.rel {ρ aq:aD} {v v':Value} (h:wI v=true) (hv:au ρ v v'):au aq v v':=by
 unfold wI at h
 split at h
 ·cases hv;exact .bool _
 ·cases hv;exact .int _ _
 ·cases hv;exact .string _
 ·cases hv;exact .nilFunc
 ·cases hv;exact .nilIface
 ·cases hv;exact .nilPtr
 ·cases hv;exact .nP
 ·cases hv;exact .lu
 ·cases h
theorem aL.Ap {P:Program} {ρ:aD} {h:ae} {w:World} (H:aL P ρ h w) (os:ae):aL P ρ (h++os) w where
 obj i r hi:=by
  obtain ⟨o,ho,hr⟩:=H.obj i r hi
  exact ⟨o,by rw [getElem?_append_left (H.lt hi)];exact ho,hr⟩
 inj i j r s hi hj hb hm hl:=by
  refine H.inj i j r s hi hj hb ?_ ?_
  ·unfold bH at hm⊢;rw [getElem?_append_left (H.lt hi)] at hm;exact hm
  ·unfold cZ at hl⊢;rw [getElem?_append_left (H.lt hj)] at hl;exact hl
 aT:=H.aT
theorem Tr.Ap {P:Program} {ρ:aD} {h:ae} {w:World} (H:aL P ρ h w) (os:ae):Tr ρ h w ρ (h++os) w where
 ext:=.refl _
 len:=by simp
 fK:=λ_ _ hi=>H.lt hi
 kinds:=λi hi hm=>by unfold bH at hm⊢;rw [getElem?_append_left hi] at hm;exact hm
 fresh:=λi r h1 h2=>by rw [h1] at h2;cases h2
 eP:=le_refl _
 ey:=λ_ _ _=>rfl
 os:=rfl
 tape:=rfl
 output:=rfl
theorem aiU {lo:kr} {g:Operand->Value} {h:ae} {v:Value} (os:ae) (hl:dJ lo g h=some v):dJ lo g (h++os)=some v:=by
 have get:∀{i:Nat} {o:ax},h[i]?=some o->(h++os)[i]?=some o:=by
  intro i o hi
  rw [getElem?_append_left (ba hi).1];exact hi
 have cells:∀{i:Nat} {xs:List Value},bn h i=some xs->bn (h++os) i=some xs:=by
  intro i xs hc
  unfold bn at hc⊢
  split at hc
  ·rename_i e ys hq;rw [get hq];exact hc
  ·rename_i e ys hq;rw [get hq];exact hc
  ·cases hc
 cases lo with
 | load agg n a=>
  simp only [dJ,af] at hl⊢
  split at hl
  ·rename_i i o _
   cases hc:bn h i with
   | none=>rw [hc] at hl;cases hl
   | some xs=>rw [hc] at hl;rw [cells hc];exact hl
  ·cases hl
 | qC x=>
  have sc:∀{cs:List Value},eX h 1 (g x)=some cs->eX (h++os) 1 (g x)=some cs:=by
   intro cs hc
   unfold eX at hc⊢
   split at hc
   ·exact hc
   ·rename_i i o e n c hx
    split at hc
    ·rename_i h0;rw [if_pos h0];exact hc
    ·rename_i h0
     rw [if_neg h0]
     cases qX:bn h i with
     | none=>rw [qX] at hc;cases hc
     | some xs=>rw [qX] at hc;rw [cells qX];exact hc
   ·cases hc
  simp only [dJ,mL] at hl⊢
  cases hc:eX h 1 (g x) with
  | none=>rw [hc] at hl;cases hl
  | some cs=>rw [hc] at hl;rw [sc hc];exact hl
 | lookup ok z m k=>
  simp only [dJ,A0] at hl⊢
  split at hl
  ·rename_i i key hm hk
   split at hl
   ·rename_i es he;rw [get he];exact hl
   ·cases hl
  ·cases hl
 | Bg kd ok z m k=>
  simp only [dJ,A1] at hl⊢
  split at hl
  ·rename_i i tS key hm hk
   split at hl
   ·rename_i jt es he;rw [get he];exact hl
   ·cases hl
  ·cases hl
 | Be gk ok z m k=>
  simp only [dJ,jq] at hl⊢
  split at hl
  ·rename_i i hm
   split at hl
   ·rename_i g' c es he;rw [get he];exact hl
   ·cases hl
  ·cases hl
 | entry it=>
  simp only [dJ,wx] at hl⊢
  split at hl
  ·rename_i j hj
   split at hl
   ·rename_i i si seen last ra
    rw [get ra]
    simp only
    split at hl
    ·rename_i gg c es b fZ hb
     rw [get fZ,hb]
     exact hl
    ·cases hl
   ·cases hl
  ·cases hl
 | obj x=>
  simp only [dJ,cF] at hl⊢
  cases hx:rG (g x) with
  | none=>rw [hx] at hl;cases hl
  | some i=>
   rw [hx] at hl
   simp only [Option.bind_some] at hl⊢
   cases ho:h[i]? with
   | none=>rw [ho] at hl;cases hl
   | some o=>rw [ho] at hl;rw [get ho];exact hl
end
section
section
variable {P : Program} {w : World} {ρ : aD} {h : ae}
theorem aL.cells (H:aL P ρ h w) {i:Nat} {r:RI} {xs:List Value} (hi:ρ i=some r) (hx:bn h i=some xs):
  ∃c t fr,w.heap[r.aY]?=some (.cells c t fr)/\eu ρ c r.sh xs:=by
 obtain ⟨o,ho,hr⟩:=H.obj i r hi
 unfold bn at hx
 rw [ho] at hx
 cases o with
 | ro e ys=>
  simp at hx;subst hx
  obtain ⟨h1,c,t,fr,h2,h3,h4⟩:=hr
  exact ⟨c,t,fr,h2,h4⟩
 | arr e ys=>
  simp at hx;subst hx
  obtain ⟨h1,h0,c,h2,h3,h4⟩:=hr
  subst h1
  exact ⟨c,_,(0,0),h2,h4⟩
 | smap es=>simp at hx
 | iK kd es=>simp at hx
 | cp g c es=>simp at hx
 | iter m s n l=>simp at hx
 | loop c ls vs=>simp at hx
 | dead=>simp at hx
theorem eu.Kb {c:Array Value} {sh o n:Nat} {xs:List Value} (hc:eu ρ c sh xs) (hl:o+n<=xs.length):
  ∃ys:List Value,bg ρ ((xs.drop o).take n) ys/\ys.length=n/\(∀x∈(xs.drop o).take n,ep x=true)/\∀j v,ys[j]?=some v->c[sh+o+j]?=some v:=by
 have key:∀j,j<n->∃x y,((xs.drop o).take n)[j]?=some x/\c[sh+o+j]?=some y/\au ρ x y/\ep x=true:=by
  intro j hj
  have hx:xs[o+j]?=some (xs[o+j]'(by omega)):=List.getElem?_eq_getElem _
  obtain ⟨h1,y,hy,hr⟩:=hc (o+j) _ hx
  refine ⟨_,y,?_,by rw [<-hy];congr 1;omega,hr,h1⟩
  rw [List.getElem?_take,if_pos hj,List.getElem?_drop]
  exact hx
 have hlen:((xs.drop o).take n).length=n:=by simp;omega
 refine ⟨(List.range n).map λj=>c.getD (sh+o+j) Go.undef,?_,by simp,?_,?_⟩
 ·refine bg.Bp (by simp;omega) ?_
  intro k x y hx hy
  have hk:k<n:=by have:=(ba hx).1;omega
  obtain ⟨x',y',h1,h2,h3,_⟩:=key k hk
  rw [h1] at hx;cases hx
  simp [hk] at hy
  subst hy
  simpa [Array.getD,Array.getElem?_eq_some_iff.1 h2 |>.1,(Array.getElem?_eq_some_iff.1 h2).2] using h3
 ·intro x hx
  obtain ⟨k,hk⟩:=List.getElem?_of_mem hx
  have bO:k<n:=by have:=(ba hk).1;omega
  obtain ⟨x',y',h1,h2,h3,h4⟩:=key k bO
  rw [h1] at hk;cases hk
  exact h4
 ·intro j v hv
  by_cases hj:j<n
  ·obtain ⟨x',y',h1,h2,h3,_⟩:=key j hj
   simp [hj] at hv
   rw [h2,<-hv]
   simp [Array.getElem?_eq_some_iff.1 h2 |>.1,(Array.getElem?_eq_some_iff.1 h2).2]
  ·simp [hj] at hv
theorem zR {g o:Nat} {c:Array Value} {t:TypeId} {fr:Nat×Nat} (hg:w.heap[g]?=some (.cells c t fr)):w.cell? ⟨g,o,none⟩=c[o]?:=by
 simp [World.cell?,hg]
theorem ao6 {g o n:Nat} {c:Array Value} {t:TypeId} {fr:Nat×Nat} {ys:List Value} (hg:w.heap[g]?=some (.cells c t fr)) (hl:ys.length=n) (hy:∀j v,ys[j]?=some v->c[o+j]?=some v):
  (loadCells ⟨g,o,none⟩ n).run P w=.ok ys.toArray w:=by
 subst hl
 exact run_loadCells_list w _ ys λj v hj=>by rw [Addr.add_lit,zR hg];exact hy j v hj
theorem Xn (H:aL P ρ h w) {t:TypeId} {d:TypeDesc} {a a' v:Value} (ht:P.underlying t=some d) (hk:fk P t=true) (hi:af (jN d) (P.cellsOf t) h a=some v) (ha:au ρ a a'):
  ∃v',(Instr.loadAt t a').run P w=.ok v' w/\au ρ v v':=by
 unfold af at hi
 split at hi
 ·rename_i i o
  obtain ⟨r,hr,rfl⟩:=ha.w4
  simp only [bind_eq_some_iff] at hi
  obtain ⟨xs,hx,hp⟩:=hi
  obtain ⟨c,_,fr,hb,hc⟩:=H.cells hr hx
  unfold cU at hp
  cases hd:jN d
  ·rw [hd] at hp
   simp at hp
   obtain ⟨h1,y,hy,hv⟩:=hc o v hp
   refine ⟨y,?_,hv⟩
   have:w.cell? ⟨r.aY,r.sh+o,none⟩=some y:=by rw [zR hb,hy]
   simp [Instr.loadAt,Instr.sureAddr,loadVar,JQ w ht,hd,this]
  ·rw [hd] at hp
   simp at hp
   obtain ⟨hl,rfl⟩:=hp
   obtain ⟨ys,h1,h2,h3,h4⟩:=hc.Kb hl
   refine ⟨.agg ys.toArray,?_,.uT h1 h3⟩
   simp [Instr.loadAt,Instr.sureAddr,loadVar,JQ w ht,hd,lB w hk,ao6 (P:=P) hb h2 h4]
 ·cases hi
theorem Cf (H:aL P ρ h w) {aT:Nat} {x x':Value} {cs:List Value} (hs:eX h aT x=some cs) (hx:au ρ x x'):
  (x'=.slice none 0 0/\cs=[])∨(∃b o n c',x'=.slice (some ⟨b,o,none⟩) n c'/\iM x=some n/\cs.length=n*aT/\(∀v∈cs,ep v=true)/\
   ∃ys,bg ρ cs ys/\∀j v,ys[j]?=some v->w.cell? ⟨b,o+j,none⟩=some v):=by
 unfold eX at hs
 split at hs
 ·simp at hs;subst hs
  cases hx
  exact .inl ⟨rfl,rfl⟩
 ·rename_i i o e n c
  cases hx with
  | slice hr ho hn hc hb=>
   rename_i o' c' r
   split at hs
   ·rename_i h0
    simp at hs;subst hs;subst h0
    exact .inr ⟨_,_,_,_,rfl,rfl,by simp,by simp,[],.nil,by simp⟩
   ·rename_i h0
    simp only [bind_eq_some_iff] at hs
    obtain ⟨xs,hx,hl⟩:=hs
    split at hl
    ·rename_i hle
     simp at hl;subst hl
     obtain ⟨c,_,fr,mu,hc⟩:=H.cells hr hx
     obtain ⟨ys,h1,h2,h3,h4⟩:=hc.Kb hle
     have cr:o'=r.sh+o:=by
      rcases ho with ho | ⟨q1,q2,q3⟩
      ·exact ho
      ·omega
     subst cr
     refine .inr ⟨_,_,_,_,rfl,rfl,by simp;omega,h3,ys,h1,?_⟩
     intro j v hj
     rw [zR mu]
     exact h4 j v hj
    ·cases hl
 ·cases hs
theorem Sx:∀{cs:List Value} {l:List UInt8},cs.mapM uW=some l->∃ns:List Int,cs=ns.map (Value.int .u8)/\l=ns.map λn=>UInt8.ofNat n.toNat
 | [],l,h=>by simp at h;subst h;exact ⟨[],rfl,rfl⟩
 | c::cs,l,h=>by
  simp only [List.mapM_cons,Option.bind_eq_bind,bind_eq_some_iff] at h
  obtain ⟨b,hb,bs,hbs,h⟩:=h
  simp at h;subst h
  obtain ⟨ns,rfl,rfl⟩:=Sx hbs
  unfold uW at hb
  split at hb
  ·rename_i n
   simp at hb;subst hb
   exact ⟨n::ns,rfl,rfl⟩
  ·cases hb
theorem bg.ints {ns:List Int} {k:IntKind} {ys:List Value} (h:bg ρ (ns.map (Value.int k)) ys):ys=ns.map (Value.int k):=by
 induction ns generalizing ys with
 | nil=>cases h;rfl
 | cons n ns ih=>
  cases h with
  | cons a b=>rw [a.iw,ih b];rfl
theorem alK (ns:List Int):∀(s:ByteArray),ns.foldl (λr n=>r.push (UInt8.ofNat n.toNat)) s=⟨(bytes s++ns.map λn=>UInt8.ofNat n.toNat).toArray⟩:=by
 induction ns with
 | nil=>intro s;simp [wF]
 | cons n ns ih=>
  intro s
  rw [List.foldl_cons,ih]
  simp [bytes]
theorem aoD (H:aL P ρ h w) {x x' v:Value} (hi:mL h x=some v) (hx:au ρ x x'):(Conv.bytesToString x').run P w=.ok v w/\au ρ v v:=by
 unfold mL at hi
 simp only [bind_eq_some_iff,map_eq_some_iff] at hi
 obtain ⟨cs,hs,l,hl,rfl⟩:=hi
 refine ⟨?_,au.S _ _⟩
 obtain ⟨ns,rfl,rfl⟩:=Sx hl
 rcases Cf H hs hx with ⟨rfl,h0⟩ | ⟨b,o,n,c',rfl,_,hlen,_,ys,hy,nF⟩
 ·have:ns=[]:=by simpa using h0
  subst this
  simp [Conv.bytesToString,S]
  rfl
 ·have e:=hy.ints
  subst e
  simp at hlen
  have hld:(loadCells ⟨b,o,none⟩ n).run P w=.ok (ns.map (Value.int .u8)).toArray w:=by
   have:=run_loadCells_list (P:=P) w ⟨b,o,none⟩ (ns.map (Value.int .u8)) (λj v hj=>by rw [Addr.add_lit];exact nF j v hj)
   simpa [hlen] using this
  rw [run_bytesToString w _ n c' ns hld,alK]
  rfl
end
end
section
theorem RW {a b:Value} (h:rK a b=true):a=b:=by
 unfold rK at h
 split at h
 ·simp only [and_eq_true,decide_eq_true_eq] at h;rw [h.1,h.2]
 ·cases h
theorem RY:∀{a b:List Value},tQ a b=true->a=b
 | [],[],_=>rfl
 | a::od,b::bs,h=>by
  simp only [tQ,and_eq_true] at h
  rw [RW h.1,RY h.2]
 | [],_::_,h=>by cases h
 | _::_,[],h=>by cases h
theorem RZ {k:IntKind}:∀{a:List Value},(∀v∈a,hU k v=true)->tQ a a=true
 | [],_=>rfl
 | a::od,h=>by
  simp only [tQ,and_eq_true]
  refine ⟨?_,RZ λv hv=>h v (by simp [hv])⟩
  have:=h a (by simp)
  unfold hU at this
  split at this
  ·simp [rK]
  ·cases this
theorem Qw {a b:Value} (h:nD a b=true):a=b:=by
 unfold nD at h
 split at h
 ·rename_i s t
  simp at h
  have:=wF s
  rw [h,wF] at this
  rw [this]
 ·rw [ext' (RY h)]
 ·exact RW h
theorem ago {g:dZ} {a:Value} (h:dm g a=true):nD a a=true:=by
 unfold dm at h
 split at h
 ·unfold hU at h
  split at h
  ·simp [nD,rK]
  ·cases h
 ·simp [nD]
 ·simp only [and_eq_true,all_eq_true] at h
  exact RZ λv hv=>(h.2 v hv).1
 ·cases h
theorem agn {g:dZ} {a b:Value} (h:dm g a=true):nD a b=true↔a=b:=⟨Qw,λe=>e ▸ ago h⟩
theorem BQ {g:dZ} {k:Value} (hk:dm g k=true):∀es:List (Nat×Value×Value),(jv k es=none/\∀e∈es,e.2.1≠k)∨∃j e,jv k es=some j/\es[j]?=some e/\e.2.1=k
 | []=>.inl ⟨rfl,by simp⟩
 | (b,k',v)::es=>by
  simp only [jv]
  by_cases h:nD k k'=true
  ·rw [if_pos h]
   exact .inr ⟨0,(b,k',v),rfl,rfl,(Qw h).symm⟩
  ·rw [if_neg h]
   rcases BQ hk es with ⟨h1,h2⟩ | ⟨j,e,h1,h2,h3⟩
   ·refine .inl ⟨by rw [h1];rfl,?_⟩
    intro e he
    rcases List.mem_cons.1 he with rfl | he
    ·intro e'
     exact h ((agn hk).2 e'.symm)
    ·exact h2 e he
   ·exact .inr ⟨j+1,e,by rw [h1];rfl,by simpa using h2,h3⟩
structure yl (P:Program) (kt:TypeId) (g:dZ):Prop where
 check:∀(w:World) (em:Bool) (v:Value),dm g v=true->(Instr.checkKey em 10000 kt v).run P w=.ok () w
 find:∀(w:World) (x:Value),dm g x=true->∀es:List MapEntry,(∀e∈es,dm g e.key=true)->
  ((Instr.findKey kt x es).run P w=.ok none w/\∀e∈es,e.key≠x)∨∃j e,(Instr.findKey kt x es).run P w=.ok (some (j,e.val)) w/\es[j]?=some e/\e.key=x
 stays:∀(w:World) (v:Value),dm g v=true->(Instr.keyThatStays v v).run P w=.ok v w
theorem Wn {P:Program} {kt:TypeId} {g:dZ} {d:TypeDesc} (hd:P.underlying kt=some d) (hg:∀v,dm g v=true->MapKept.IsKey d v):yl P kt g where
 check w em v hv:=MapKept.run_checkKey hd (hg v hv) em 9999
 find w x hx es fZ:=by
  rcases MapKept.findNow_spec (hg x hx) es 0 (λe he=>hg _ (fZ e he)) with ⟨h1,h2⟩ | ⟨j,e,h1,h2,h3⟩
  ·exact .inl ⟨MapKept.run_findKey hd h1,h2⟩
  ·exact .inr ⟨j,e,by simpa using MapKept.run_findKey hd h1,h2,h3⟩
 stays w v hv:=MapKept.run_keyThatStays (hg v hv)
section
variable {P : Program}
theorem R4 {k:IntKind} {e:TypeId} {D:Nat} (he:P.underlying e=some (.int k)) (hc:P.cellsOf e=1) (cs:List Value) (h:∀v∈cs,(hU k v&&GX k v)=true):
  ∀m,m<=cs.length->∃ls,((List.range m).mapM λi=>P.keyLits (D+1) e ((cs.drop (i*P.cellsOf e)).take (P.cellsOf e)))=some ls
 | 0,_=>⟨[],rfl⟩
 | m+1,hm=>by
  obtain ⟨ls,Gg⟩:=R4 he hc cs h m (by omega)
  have Rf:m<cs.length:=by omega
  have hv:=h cs[m] (List.getElem_mem Rf)
  rw [and_eq_true] at hv
  have h1:(cs.drop (m*P.cellsOf e)).take (P.cellsOf e)=[cs[m]]:=by
   rw [hc,Nat.mul_one]
   apply List.ext_getElem?
   intro i
   rw [List.getElem?_take]
   cases i with
   | zero=>simp [Rf]
   | succ i=>simp
  generalize cs[m]=v at hv h1
  obtain ⟨k',n,rfl⟩:∃k' n,v=.int k' n:=by
   cases v <;> first | exact ⟨_,_,rfl⟩ | simp [hU] at hv
  have hk:k'=k:=by simpa [hU] using hv.1
  subst hk
  have hr:k'.min<=n/\n<=k'.max:=by simpa [GX] using hv.2
  have hw:(Lit.int k' n).wf=true:=by simp [Lit.wf,hr]
  refine ⟨ls++[[.int k' n]],?_⟩
  rw [List.range_succ,List.mapM_append,Gg]
  simp [h1,Program.keyLits,he,hw]
theorem ai4 {kt e:TypeId} {n:Nat} {k:IntKind} (hu:P.underlying kt=some (.array n e)) (he:P.underlying e=some (.int k)) (QU:P.cellsOf e=1) (F0:P.cellsOf kt=n) (jK:P.types.size≠0):yl P kt (.ints n k):=by
 have A:WideMaps.ArrKey P kt e n:=⟨hu,by simp [Program.plainKey,he],QU,F0⟩
 have key:∀v,dm (.ints n k) v=true->∃l,keyOf P kt v=some l:=by
  intro v hv
  cases v <;> simp [dm] at hv
  rename_i cs
  obtain ⟨h1,h2⟩:=hv
  have hkt:=A.keyType ⟨P.types.size-1,by omega⟩
  obtain ⟨D,hD⟩:∃D,P.types.size=D+1:=⟨P.types.size-1,by omega⟩
  obtain ⟨ls,Gg⟩:=R4 (D:=D) he QU cs.toList (λv hv=>by obtain ⟨i,hi,e⟩:=List.mem_iff_getElem.1 hv;have:=h2 i (by simpa using hi);rw [<-e];simpa using this) n (by simp [h1])
  refine ⟨.string (keyBytes ls.flatten),?_⟩
  unfold keyOf
  rw [hu]
  have hf:(Value.agg cs).formed P kt=true:=by simp [Value.formed,hu,F0,h1]
  simp only [hkt,hf,Bool.and_self,if_true]
  unfold Program.keyLits
  rw [hu]
  have hl:(Value.agg cs).cells.toList.length=P.cellsOf kt:=by simp [Value.cells,F0,h1]
  simp only [hl,if_true,hD]
  have:(Value.agg cs).cells.toList=cs.toList:=rfl
  rw [this,Gg]
  rfl
 have K:=A.law
 exact {
  check:=λw em v hv=>let ⟨l,hl⟩:=key v hv;K.check w em hl
  find:=λw x hx es fZ=>let ⟨l,hl⟩:=key x hx;K.find w hl es λe he=>key _ (fZ e he)
  stays:=λw v hv=>let ⟨l,hl⟩:=key v hv;K.stays w hl }
theorem At {t:TypeId} {g:dZ} (h:lH P t=some g):∃kt et,P.underlying t=some (.map kt et)/\yl P kt g:=by
 unfold lH at h
 split at h
 ·rename_i kt et ht
  refine ⟨kt,et,ht,?_⟩
  split at h
  ·cases h
  ·split at h
   ·rename_i hk
    simp at h;subst h
    exact Wn hk λv hv=>by cases v <;> simp [dm] at hv;trivial
   ·rename_i k hk
    simp at h;subst h
    exact Wn hk λv hv=>by cases v <;> simp [dm,hU] at hv;exact hv
   ·rename_i n e hk
    split at h
    ·rename_i k he
     split at h
     ·rename_i hc
      simp at h;subst h
      simp at hc
      exact ai4 hk he hc.1.1 hc.1.2 (by rw [Ne,Array.size_eq_zero_iff];exact hc.2)
     ·cases h
    ·cases h
   ·cases h
 ·cases h
end
section
variable {P : Program} {w : World} {ρ : aD} {h : ae}
structure lZ (ρ:aD) (g:dZ) (es:List (Nat×Value×Value)) (aG:Array MapEntry):Prop where
 size:aG.size=es.length
 nodup:(es.map λe=>e.2.1).Nodup
 get:∀(j b:Nat) (k v:Value),es[j]?=some (b,k,v)->dm g k=true/\∃en,aG[j]?=some en/\en.key=k/\en.born=b/\au ρ v en.val
theorem aL.sW (H:aL P ρ h w) {i:Nat} {r:RI} {g:dZ} {c:Nat} {es:List (Nat×Value×Value)} (hi:ρ i=some r) (he:h[i]?=some (.cp g c es)):
  ∃aG,w.heap[r.aY]?=some (.map aG c)/\lZ ρ g es aG:=by
 obtain ⟨o,ho,hr⟩:=H.obj i r hi
 rw [he] at ho
 cases ho
 obtain ⟨h0,aG,h1,h2,h3⟩:=hr
 exact ⟨aG,h1,h2,h0,h3⟩
theorem lZ.inv {g:dZ} {es:List (Nat×Value×Value)} {aG:Array MapEntry} (E:lZ ρ g es aG) {j:Nat} {en:MapEntry} (hj:aG[j]?=some en):∃v,es[j]?=some (en.born,en.key,v)/\dm g en.key=true/\au ρ v en.val:=by
 have ar:j<es.length:=by rw [<-E.size];exact (Array.getElem?_eq_some_iff.1 hj).1
 obtain ⟨b,k,v⟩:Nat×Value×Value:=es[j]
 have fZ:=List.getElem?_eq_getElem ar
 generalize he:es[j]=x at fZ
 obtain ⟨b,k,v⟩:=x
 obtain ⟨g1,P5,g2,g3,g4,g5⟩:=E.get j b k v fZ
 rw [hj] at g2
 cases g2
 subst g3;subst g4
 exact ⟨v,fZ,g1,g5⟩
theorem JO {g:dZ} {kt:TypeId} {es:List (Nat×Value×Value)} {aG:Array MapEntry} (L:yl P kt g) (E:lZ ρ g es aG) {k:Value} (hk:dm g k=true):
  ((jv k es=none/\(∀e∈es,e.2.1≠k))/\(Instr.findKey kt k aG.toList).run P w=.ok none w)∨
  ∃j b v en,jv k es=some j/\es[j]?=some (b,k,v)/\aG[j]?=some en/\en.key=k/\en.born=b/\au ρ v en.val/\(Instr.findKey kt k aG.toList).run P w=.ok (some (j,en.val)) w:=by
 have gP:∀e∈aG.toList,dm g e.key=true:=by
  intro e he
  obtain ⟨j,hj,e'⟩:=List.mem_iff_getElem.1 he
  have:aG[j]?=some e:=by
   rw [<-getElem?_toList,List.getElem?_eq_getElem hj,e']
  exact (E.inv this).choose_spec.2.1
 rcases L.find w k hk aG.toList gP with ⟨h1,h2⟩ | ⟨j,en,h1,h2,h3⟩
 ·rcases BQ hk es with ⟨p1,p2⟩ | ⟨j,e,p1,p2,p3⟩
  ·exact .inl ⟨⟨p1,p2⟩,h1⟩
  ·exfalso
   obtain ⟨b,k',v⟩:=e
   obtain ⟨_,en,q1,q2,_⟩:=E.get j b k' v p2
   have hm:en∈aG.toList:=by
    rw [<-getElem?_toList] at q1
    exact mem_of_getElem? q1
   exact h2 en hm (q2.trans p3)
 ·have QC:aG[j]?=some en:=by rw [<-getElem?_toList];exact h2
  obtain ⟨v,q1,q2,q3⟩:=E.inv QC
  rcases BQ hk es with ⟨p1,p2⟩ | ⟨j',e,p1,p2,p3⟩
  ·exact absurd h3 (p2 _ (mem_of_getElem? q1))
  ·have hj:j'=j:=by
    have hn:=List.pairwise_iff_getElem.1 E.nodup
    have l1:j<es.length:=(ba q1).1
    have l2:j'<es.length:=(ba p2).1
    have k1:(es.map λe=>e.2.1)[j]'(by simpa using l1)=k:=by
     have:=(ba q1).2
     simp [this,h3]
    have k2:(es.map λe=>e.2.1)[j']'(by simpa using l2)=k:=by
     have:=(ba p2).2
     simp [this,p3]
    rcases Nat.lt_trichotomy j j' with ar | heq | ar
    ·exact absurd (k1.trans k2.symm) (hn j j' _ _ ar)
    ·exact heq.symm
    ·exact absurd (k2.trans k1.symm) (hn j' j _ _ ar)
   subst hj
   exact .inr ⟨_,_,v,en,p1,by rw [q1,h3],QC,h3,rfl,q3,h1⟩
theorem sC.rel {z:Value} (h:sC z=true):au ρ z z:=by
 unfold sC at h
 split at h
 ·rename_i cs
  rw [all_eq_true] at h
  have cl:∀x∈cs.toList,iD x=true/\ep x=true:=λx hx=>by have:=h x hx;simpa [sS] using this
  refine .agg rfl (λx hx=>(cl x hx).2) (λk x x' hx cT=>?_)
  rw [hx] at cT
  cases cT
  exact iD.rel (cl x (by rw [<-getElem?_toList] at hx;exact mem_of_getElem? hx)).1
 ·exact iD.rel h
theorem aoK (H:aL P ρ h w) {it wz v:Value} (hi:wx h it=some v) (hv:au ρ it wz):∃v',(Instr.entry wz).run P w=.ok v' w/\au ρ v v':=by
 unfold wx at hi
 split at hi
 ·rename_i j
  split at hi
  ·rename_i i gJ seen last ra
   split at hi
   ·rename_i g c es b fZ hb
    split at hi
    ·rename_i dV
     subst dV
     cases hv with
     | ptr hr=>
      rename_i r
      obtain ⟨o,ho,jm⟩:=H.obj j r hr
      rw [ra] at ho
      cases ho
      obtain ⟨AW,rm,AV,mu⟩:=jm
      obtain ⟨aG,hm,E⟩:=H.sW AV fZ
      rw [AW]
      rw [map_eq_some_iff] at hi
      obtain ⟨e,he,rfl⟩:=hi
      have ag4:∃en,aG.find? (λx=>x.born==b)=some en/\en.key=e.2.1/\dm g e.2.1=true/\au ρ e.2.2 en.val:=by
       rw [<-Array.find?_toList]
       have key:∀(l1:List (Nat×Value×Value)) (l2:List MapEntry),l2.length=l1.length->(∀(j b:Nat) (k v:Value),l1[j]?=some (b,k,v)->dm g k=true/\∃en,l2[j]?=some en/\en.key=k/\en.born=b/\au ρ v en.val)->
         l1.find? (λx=>x.1==b)=some e->∃en,l2.find? (λx=>x.born==b)=some en/\en.key=e.2.1/\dm g e.2.1=true/\au ρ e.2.2 en.val:=by
        intro l1
        induction l1 with
        | nil=>intro l2 _ _ h;simp at h
        | cons x l1 ih=>
         intro l2 hl gP hf
         obtain ⟨bx,kx,vx⟩:=x
         cases l2 with
         | nil=>simp at hl
         | cons y l2=>
          obtain ⟨g1,en,g2,g3,g4,g5⟩:=gP 0 bx kx vx rfl
          simp at g2
          subst g2
          rw [List.find?_cons] at hf⊢
          by_cases tj:(bx==b)=true
          ·simp only [tj] at hf
           cases hf
           rw [g4]
           simp only [tj]
           exact ⟨y,rfl,g3,g1,g5⟩
          ·have tj:(bx==b)=false:=by simpa using tj
           simp only [tj] at hf
           rw [g4]
           simp only [tj]
           exact ih l2 (by simpa using hl) (λj b k v hj=>by simpa using gP (j+1) b k v (by simpa using hj)) hf
       exact key es aG.toList (by simp [E.size]) (λj b k v hj=>by simpa using E.get j b k v hj) he
      obtain ⟨en,f1,f2,f3,f4⟩:=ag4
      have bA:(getObj r.aY).run P w=.ok (.mapIter (some rm.aY) gJ seen.toArray c) w:=by simp [getObj,Sem.run,mu]
      have F7:(getObj rm.aY).run P w=.ok (.map aG c) w:=by simp [getObj,Sem.run,hm]
      have qW:seen.toArray.back?=some b:=by simpa using hb
      refine ⟨.tuple #[en.key,en.val],?_,?_⟩
      ·unfold Instr.entry
       simp [bA,F7,hb,f1]
      ·rw [f2]
       have Ge:au ρ e.2.1 e.2.1:=by
        have ints:∀{kd:IntKind} {v:Value},hU kd v=true->au ρ v v/\ep v=true:=by
         intro kd v hv
         cases v <;> simp [hU] at hv
         exact ⟨.int _ _,rfl⟩
        cases vP:e.2.1 with
        | int kd n=>exact .int _ _
        | string s=>exact .string _
        | agg cs=>
         rw [vP] at f3
         cases g with
         | ints n kd=>
          simp only [dm,and_eq_true,all_eq_true] at f3
          refine .agg rfl (λx hx=>(ints (f3.2 x hx).1).2) (λk x x' hx cT=>?_)
          rw [hx] at cT
          cases cT
          exact (ints (f3.2 x (by rw [<-getElem?_toList] at hx;exact mem_of_getElem? hx)).1).1
         | int _=>simp [dm,hU] at f3
         | str=>simp [dm] at f3
        | _=>rw [vP] at f3;cases g <;> simp [dm,hU] at f3
       exact au.lV (.cons Ge (.cons f4 .nil))
    ·cases hi
   ·cases hi
  ·cases hi
 ·cases hi
theorem arq {t:TypeId} {z:Value} (hz:CD P t=some z):(∀w,(zeroValue t).run P w=.ok z w)/\sC z=true:=by
 unfold CD at hz
 split at hz
 ·rename_i i hi
  split at hz
  ·rename_i z' pV
   split at hz
   ·rename_i hc
    simp at hz;subst hz
    exact ⟨λw=>sg w hi pV,hc⟩
   ·cases hz
  ·cases hz
 ·cases hz
theorem au.key {g:dZ} {k k':Value} (hk:dm g k=true) (h:au ρ k k'):k'=k:=by
 have ints:∀{kd:IntKind} {v v':Value},hU kd v=true->au ρ v v'->v'=v:=by
  intro kd v v' hv hr
  cases hr <;> first | rfl | simp [hU] at hv
 cases h with
 | int=>rfl
 | string=>rfl
 | agg hs _ gP=>
  rename_i xs dv _
  cases g with
  | ints n kd=>
   simp only [dm,and_eq_true,all_eq_true] at hk
   congr 1
   apply Array.ext
   ·exact hs.symm
   ·intro i h1 h2
    exact ints (hk.2 xs[i] (by simp)).1 (gP i _ _ (getElem?_eq_getElem h2) (getElem?_eq_getElem h1))
  | int _=>simp [dm,hU] at hk
  | str=>simp [dm] at hk
 | _=>cases g <;> simp [dm,hU] at hk
theorem aoS (H:aL P ρ h w) {t kt et:TypeId} {g:dZ} {ok:Bool} {z m m' k k' v:Value} (hg:lH P t=some g) (ht:P.underlying t=some (.map kt et)) (hz:CD P et=some z)
  (hi:jq g ok z h m k=some v) (hm:au ρ m m') (du:au ρ k k'):∃v',(Instr.lookup t m' k' ok).run P w=.ok v' w/\au ρ v v':=by
 obtain ⟨kt',et',Rv,L⟩:=At hg
 rw [ht] at Rv
 cases Rv
 unfold jq at hi
 split at hi
 ·rename_i i
  cases hm with
  | map hr=>
   rename_i r
   split at hi
   ·rename_i g' c es he
    split at hi
    ·rename_i j4
     obtain ⟨rfl,hk⟩:=j4
     rw [du.key hk]
     have Xk:∀{aG:Array MapEntry} {clock:Nat},w.heap[r.aY]?=some (.map aG clock)->(getObj r.aY).run P w=.ok (.map aG clock) w:=by
      intro aG clock hb
      simp [getObj,Sem.run,hb]
     obtain ⟨aG,hb,E⟩:=H.sW hr he
     obtain ⟨wv,pW⟩:=arq hz
     rcases JO (w:=w) L E hk with ⟨⟨e1,_⟩,e2⟩ | ⟨j,b,u,en,e1,e2,e3,e4,e5,e6,e7⟩
     ·have:ou k es=none:=by simp [ou,e1]
      rw [this] at hi
      simp at hi
      have ek:(Instr.lookup t (.map (some r.aY)) k ok).run P w=.ok (if ok then .tuple #[z,.bool false] else z) w:=by
       simp [Instr.lookup,run_underlying ht,Xk hb,L.check w _ k hk,e2,wv]
      refine ⟨_,ek,?_⟩
      subst hi
      cases ok
      ·exact sC.rel pW
      ·exact au.lV (.cons (sC.rel pW) (.cons (.bool _) .nil))
     ·have:ou k es=some u:=by simp [ou,e1,e2]
      rw [this] at hi
      simp at hi
      have ek:(Instr.lookup t (.map (some r.aY)) k ok).run P w=.ok (if ok then .tuple #[en.val,.bool true] else en.val) w:=by
       simp [Instr.lookup,run_underlying ht,Xk hb,L.check w _ k hk,e7]
      refine ⟨_,ek,?_⟩
      subst hi
      cases ok
      ·exact e6
      ·exact au.lV (.cons e6 (.cons (.bool _) .nil))
    ·cases hi
   ·cases hi
 ·cases hi
end
end
section
inductive jT (ρ:aD):List (ByteArray×Value)->List MapEntry->Prop
 | nil:jT ρ [] []
 | cons {k:ByteArray} {v:Value} {en:MapEntry} {es:List (ByteArray×Value)} {aG:List MapEntry}:en.key=.string k->au ρ v en.val->jT ρ es aG->jT ρ ((k,v)::es) (en::aG)
theorem jT.of {ρ:aD}:∀{es:List (ByteArray×Value)} {aG:List MapEntry},aG.length=es.length->
  (∀(j:Nat) (k:ByteArray) (v:Value),es[j]?=some (k,v)->∃en,aG[j]?=some en/\en.key=.string k/\au ρ v en.val)->jT ρ es aG
 | [],[],_,_=>.nil
 | (k,v)::es,en::aG,hl,h=>by
  obtain ⟨P5,h1,h2,h3⟩:=h 0 k v rfl
  simp at h1;subst h1
  exact .cons h2 h3 (jT.of (by simpa using hl) λj k' v' hj=>by simpa using h (j+1) k' v' (by simpa using hj))
theorem jT.to {ρ:aD} {es:List (ByteArray×Value)} {aG:List MapEntry} (h:jT ρ es aG):
  aG.length=es.length/\∀(j:Nat) (k:ByteArray) (v:Value),es[j]?=some (k,v)->∃en,aG[j]?=some en/\en.key=.string k/\au ρ v en.val:=by
 induction h with
 | nil=>exact ⟨rfl,λj k v hj=>by simp at hj⟩
 | cons h1 h2 _ ih=>
  refine ⟨by simp [ih.1],?_⟩
  intro j k v hj
  cases j with
  | zero=>simp at hj;obtain ⟨rfl,rfl⟩:=hj;exact ⟨_,rfl,h1,h2⟩
  | succ j=>simp at hj;simpa using ih.2 j k v hj
theorem af7 {ρ:aD} {es:List (ByteArray×Value)} {aG:List MapEntry} (h:jT ρ es aG) (k:ByteArray):∀i:Nat,
  (ow k es=none/\Instr.findNow .string (.string k) aG i=some none)∨
  (∃v v' j,ow k es=some v/\Instr.findNow .string (.string k) aG i=some (some (i+j,v'))/\au ρ v v'/\(∃en,aG[j]?=some en/\en.key=.string k)):=by
 induction h with
 | nil=>intro i;exact .inl ⟨rfl,rfl⟩
 | cons h1 h2 _ ih=>
  rename_i k0 v0 en es aG _
  intro i
  by_cases hk:k=k0
  ·subst hk
   refine .inr ⟨v0,en.val,0,by simp [ow],?_,h2,en,rfl,h1⟩
   have hb:(k==k)=true:=(MapKept.bytes_beq k k).2 rfl
   simp [Instr.findNow,h1,Instr.sameNow,hb]
  ·have hb:(k==k0)=false:=by
    rw [Bool.eq_false_iff]
    exact λe=>hk ((MapKept.bytes_beq k k0).1 e)
   rcases ih (i+1) with ⟨e1,e2⟩ | ⟨v,v',j,e1,e2,e3,e4⟩
   ·refine .inl ⟨by simp [ow,hk,e1],?_⟩
    simp [Instr.findNow,h1,Instr.sameNow,hb,e2]
   ·refine .inr ⟨v,v',j+1,by simp [ow,hk,e1],?_,e3,?_⟩
    ·simp [Instr.findNow,h1,Instr.sameNow,hb,e2];omega
    ·simpa using e4
inductive jU (kd:IntKind) (ρ:aD):List (Int×Value)->List MapEntry->Prop
 | nil:jU kd ρ [] []
 | cons {k:Int} {v:Value} {en:MapEntry} {es:List (Int×Value)} {aG:List MapEntry}:en.key=.int kd k->au ρ v en.val->jU kd ρ es aG->jU kd ρ ((k,v)::es) (en::aG)
theorem jU.of {kd:IntKind} {ρ:aD}:∀{es:List (Int×Value)} {aG:List MapEntry},aG.length=es.length->
  (∀(j:Nat) (k:Int) (v:Value),es[j]?=some (k,v)->∃en,aG[j]?=some en/\en.key=.int kd k/\au ρ v en.val)->jU kd ρ es aG
 | [],[],_,_=>.nil
 | (k,v)::es,en::aG,hl,h=>by
  obtain ⟨P5,h1,h2,h3⟩:=h 0 k v rfl
  simp at h1;subst h1
  exact .cons h2 h3 (jU.of (by simpa using hl) λj k' v' hj=>by simpa using h (j+1) k' v' (by simpa using hj))
theorem jU.to {kd:IntKind} {ρ:aD} {es:List (Int×Value)} {aG:List MapEntry} (h:jU kd ρ es aG):
  aG.length=es.length/\∀(j:Nat) (k:Int) (v:Value),es[j]?=some (k,v)->∃en,aG[j]?=some en/\en.key=.int kd k/\au ρ v en.val:=by
 induction h with
 | nil=>exact ⟨rfl,λj k v hj=>by simp at hj⟩
 | cons h1 h2 _ ih=>
  refine ⟨by simp [ih.1],?_⟩
  intro j k v hj
  cases j with
  | zero=>simp at hj;obtain ⟨rfl,rfl⟩:=hj;exact ⟨_,rfl,h1,h2⟩
  | succ j=>simp at hj;simpa using ih.2 j k v hj
theorem af8 {kd:IntKind} {ρ:aD} {es:List (Int×Value)} {aG:List MapEntry} (h:jU kd ρ es aG) (k:Int):∀i:Nat,
  (ov k es=none/\Instr.findNow (.int kd) (.int kd k) aG i=some none)∨
  (∃v v' j,ov k es=some v/\Instr.findNow (.int kd) (.int kd k) aG i=some (some (i+j,v'))/\au ρ v v'/\(∃en,aG[j]?=some en/\en.key=.int kd k)):=by
 induction h with
 | nil=>intro i;exact .inl ⟨rfl,rfl⟩
 | cons h1 h2 _ ih=>
  rename_i k0 v0 en es aG _
  intro i
  by_cases hk:k=k0
  ·subst hk
   refine .inr ⟨v0,en.val,0,by simp [ov],?_,h2,en,rfl,h1⟩
   have hb:(k==k)=true:=beq_self_eq_true k
   simp [Instr.findNow,h1,Instr.sameNow]
  ·have hb:(k==k0)=false:=by
    exact beq_false_of_ne hk
   rcases ih (i+1) with ⟨e1,e2⟩ | ⟨v,v',j,e1,e2,e3,e4⟩
   ·refine .inl ⟨by simp [ov,hk,e1],?_⟩
    simp [Instr.findNow,h1,Instr.sameNow,hb,e2]
   ·refine .inr ⟨v,v',j+1,by simp [ov,hk,e1],?_,e3,?_⟩
    ·simp [Instr.findNow,h1,Instr.sameNow,hb,e2];omega
    ·simpa using e4
section
variable {P : Program} {w : World} {ρ : aD} {h : ae}
theorem R9 {t:TypeId} (h:isString P t=true):P.underlying t=some .string:=by
 unfold isString at h
 split at h
 ·assumption
 ·cases h
theorem run_checkKey (b:Bool) {kt:TypeId} (hk:P.underlying kt=some .string) (k:ByteArray):(Instr.checkKey b 10000 kt (.string k)).run P w=.ok () w:=by
 rw [show (10000:Nat)=9999+1 from rfl,Instr.checkKey]
 simp [run_underlying hk]
theorem run_findKey {kt:TypeId} (hk:P.underlying kt=some .string) (k:ByteArray) (aG:List MapEntry) {r:Option (Nat×Value)} (hr:Instr.findNow .string (.string k) aG 0=some r):
  (Instr.findKey kt (.string k) aG).run P w=.ok r w:=by
 simp [Instr.findKey,run_underlying hk,hr]
theorem B5 (b:Bool) {kt:TypeId} {kd:IntKind} (hk:P.underlying kt=some (.int kd)) (k:Int):(Instr.checkKey b 10000 kt (.int kd k)).run P w=.ok () w:=by
 rw [show (10000:Nat)=9999+1 from rfl,Instr.checkKey]
 simp [run_underlying hk]
theorem B6 {kt:TypeId} {kd:IntKind} (hk:P.underlying kt=some (.int kd)) (k:Int) (aG:List MapEntry) {r:Option (Nat×Value)} (hr:Instr.findNow (.int kd) (.int kd k) aG 0=some r):
  (Instr.findKey kt (.int kd k) aG).run P w=.ok r w:=by
 simp [Instr.findKey,run_underlying hk,hr]
theorem aL.aG (H:aL P ρ h w) {i:Nat} {r:RI} {es:List (ByteArray×Value)} (hi:ρ i=some r) (he:h[i]?=some (.smap es)):
  ∃aG clock,w.heap[r.aY]?=some (.map aG clock)/\jT ρ es aG.toList:=by
 obtain ⟨o,ho,hr⟩:=H.obj i r hi
 rw [he] at ho
 cases ho
 obtain ⟨aG,clock,h1,h2,h3⟩:=hr
 exact ⟨aG,clock,h1,jT.of (by simpa using h2) (by simpa using h3)⟩
theorem aL.P6 (H:aL P ρ h w) {i:Nat} {r:RI} {kd:IntKind} {es:List (Int×Value)} (hi:ρ i=some r) (he:h[i]?=some (.iK kd es)):
  ∃aG clock,w.heap[r.aY]?=some (.map aG clock)/\jU kd ρ es aG.toList:=by
 obtain ⟨o,ho,hr⟩:=H.obj i r hi
 rw [he] at ho
 cases ho
 obtain ⟨aG,clock,h1,h2,h3⟩:=hr
 exact ⟨aG,clock,h1,jU.of (by simpa using h2) (by simpa using h3)⟩
theorem run_getObj_map {b:Nat} {aG:Array MapEntry} {clock:Nat} (hb:w.heap[b]?=some (.map aG clock)):(getObj b).run P w=.ok (.map aG clock) w:=by
 simp [getObj,Sem.run,hb]
theorem Yh {t:TypeId} {z:Value} (hz:uH P t=some z):(∀w,(zeroValue t).run P w=.ok z w)/\iD z=true:=by
 unfold uH at hz
 split at hz
 ·rename_i i hi
  split at hz
  ·rename_i z' pV
   split at hz
   ·rename_i hc
    simp at hz;subst hz
    simp [sS] at hc
    exact ⟨λw=>sg w hi pV,hc.1⟩
   ·cases hz
  ·cases hz
 ·cases hz
theorem aoR (H:aL P ρ h w) {t kt et:TypeId} {ok:Bool} {z m m' k k' v:Value} (ht:P.underlying t=some (.map kt et)) (hk:isString P kt=true) (hz:uH P et=some z)
  (hi:A0 ok z h m k=some v) (hm:au ρ m m') (du:au ρ k k'):∃v',(Instr.lookup t m' k' ok).run P w=.ok v' w/\au ρ v v':=by
 unfold A0 at hi
 split at hi
 ·rename_i i key
  rw [du.pf]
  cases hm with
  | map hr=>
   rename_i r
   split at hi
   ·rename_i es he
    obtain ⟨aG,clock,hb,q8⟩:=H.aG hr he
    obtain ⟨wv,pW⟩:=Yh hz
    have iG:=R9 hk
    rcases af7 q8 key 0 with ⟨e1,e2⟩ | ⟨u,u',j,e1,e2,e3,_⟩
    ·rw [e1] at hi
     simp at hi
     have ek:(Instr.lookup t (.map (some r.aY)) (.string key) ok).run P w=.ok (if ok then .tuple #[z,.bool false] else z) w:=by
      simp [Instr.lookup,run_underlying ht,run_getObj_map hb,run_checkKey _ iG,run_findKey iG key _ e2,wv]
     refine ⟨_,ek,?_⟩
     subst hi
     cases ok
     ·exact iD.rel pW
     ·exact au.lV (.cons (iD.rel pW) (.cons (.bool _) .nil))
    ·rw [e1] at hi
     simp at hi
     have ek:(Instr.lookup t (.map (some r.aY)) (.string key) ok).run P w=.ok (if ok then .tuple #[u',.bool true] else u') w:=by
      simp [Instr.lookup,run_underlying ht,run_getObj_map hb,run_checkKey _ iG,run_findKey iG key _ e2]
     refine ⟨_,ek,?_⟩
     subst hi
     cases ok
     ·exact e3
     ·exact au.lV (.cons e3 (.cons (.bool _) .nil))
   ·cases hi
 ·cases hi
theorem R7 {t:TypeId} {kd:IntKind} (h:rM P t=some kd):P.underlying t=some (.int kd):=by
 unfold rM at h
 split at h
 ·simp at h;subst h;assumption
 ·cases h
theorem aoT (H:aL P ρ h w) {t kt et:TypeId} {kd:IntKind} {ok:Bool} {z m m' k k' v:Value} (ht:P.underlying t=some (.map kt et)) (hk:rM P kt=some kd) (hz:uH P et=some z)
  (hi:A1 kd ok z h m k=some v) (hm:au ρ m m') (du:au ρ k k'):∃v',(Instr.lookup t m' k' ok).run P w=.ok v' w/\au ρ v v':=by
 unfold A1 at hi
 split at hi
 ·rename_i i tS key
  rw [du.iw]
  cases hm with
  | map hr=>
   rename_i r
   split at hi
   ·rename_i jt es he
    split at hi
    ·rename_i j4
     obtain ⟨rfl,rfl⟩:=j4
     obtain ⟨aG,clock,hb,q8⟩:=H.P6 hr he
     obtain ⟨wv,pW⟩:=Yh hz
     have iG:=R7 hk
     rcases af8 q8 key 0 with ⟨e1,e2⟩ | ⟨u,u',j,e1,e2,e3,_⟩
     ·rw [e1] at hi
      simp at hi
      have ek:(Instr.lookup t (.map (some r.aY)) (.int jt key) ok).run P w=.ok (if ok then .tuple #[z,.bool false] else z) w:=by
       simp [Instr.lookup,run_underlying ht,run_getObj_map hb,B5 _ iG,B6 iG key _ e2,wv]
      refine ⟨_,ek,?_⟩
      subst hi
      cases ok
      ·exact iD.rel pW
      ·exact au.lV (.cons (iD.rel pW) (.cons (.bool _) .nil))
     ·rw [e1] at hi
      simp at hi
      have ek:(Instr.lookup t (.map (some r.aY)) (.int jt key) ok).run P w=.ok (if ok then .tuple #[u',.bool true] else u') w:=by
       simp [Instr.lookup,run_underlying ht,run_getObj_map hb,B5 _ iG,B6 iG key _ e2]
      refine ⟨_,ek,?_⟩
      subst hi
      cases ok
      ·exact e3
      ·exact au.lV (.cons e3 (.cons (.bool _) .nil))
    ·cases hi
   ·cases hi
 ·cases hi
theorem akz {o:Oper} {lo:kr} {g g':Operand->Value} (hc:oh P o.op=some lo) (aC:o.op.operands.all fP=true) (H:aL P ρ h w)
  (hg:∀x,fP x=true->au ρ (g x) (g' x)) {v:Value} (hi:dJ lo g h=some v):∃v',(execOp g' o).run P w=.ok (.value v') w/\au ρ v v':=by
 cases ho:o.op with
 | load t a=>
  rw [ho] at hc aC
  simp [Op.operands] at aC
  simp only [oh] at hc
  split at hc
  ·rename_i d ht
   split at hc
   ·rename_i hk
    simp at hc;subst hc
    simp only [and_eq_true] at hk
    obtain ⟨v',h1,h2⟩:=Xn H ht hk.1 hi (hg a aC)
    exact ⟨v',by simp [execOp,ho,h1],h2⟩
   ·cases hc
  ·cases hc
 | entry it=>
  rw [ho] at hc aC
  simp [Op.operands] at aC
  simp [oh] at hc;subst hc
  obtain ⟨v',h1,h2⟩:=aoK H hi (hg it aC)
  exact ⟨v',by simp [execOp,ho,h1],h2⟩
 | convert s d x=>
  rw [ho] at hc aC
  simp [Op.operands] at aC
  simp only [oh] at hc
  split at hc
  ·rename_i e hs hd
   split at hc
   ·rename_i he
    simp at hc;subst hc
    have hx:=hg x aC
    obtain ⟨h1,h2⟩:=aoD H hi hx
    refine ⟨v,?_,h2⟩
    have:(convert s d (g' x)).run P w=.ok v w:=by
     simp only [dJ,mL,bind_eq_some_iff] at hi
     obtain ⟨cs,vB,_⟩:=hi
     rcases Cf H vB hx with ⟨e1,_⟩ | ⟨b,o',n,c',e1,_⟩
     ·rw [e1] at h1⊢;rw [run_convert_bytes_string w s d e _ _ _ hs he hd];exact h1
     ·rw [e1] at h1⊢;rw [run_convert_bytes_string w s d e _ _ _ hs he hd];exact h1
    simp [execOp,ho,this]
   ·cases hc
  ·cases hc
 | lookup t m k ok=>
  rw [ho] at hc aC
  simp [Op.operands] at aC
  simp only [oh] at hc
  split at hc
  ·rename_i g gQ
   split at hc
   ·rename_i kt et ht
    simp only [map_eq_some_iff] at hc
    obtain ⟨z,hz,rfl⟩:=hc
    obtain ⟨v',h1,h2⟩:=aoS H gQ ht hz hi (hg m aC.1) (hg k aC.2)
    exact ⟨v',by simp [execOp,ho,h1],h2⟩
   ·cases hc
  split at hc
  ·rename_i kt et ht
   split at hc
   ·rename_i hk
    simp only [map_eq_some_iff] at hc
    obtain ⟨z,hz,rfl⟩:=hc
    obtain ⟨v',h1,h2⟩:=aoR H ht hk hz hi (hg m aC.1) (hg k aC.2)
    exact ⟨v',by simp [execOp,ho,h1],h2⟩
   ·simp only [bind_eq_some_iff,map_eq_some_iff] at hc
    obtain ⟨kd,j4,z,hz,rfl⟩:=hc
    obtain ⟨v',h1,h2⟩:=aoT H ht j4 hz hi (hg m aC.1) (hg k aC.2)
    exact ⟨v',by simp [execOp,ho,h1],h2⟩
  ·cases hc
 | _=>rw [ho] at hc;simp [oh] at hc
end
end
section
theorem Ca {xs:List Value} {o:Nat} {vs:List Value} (h:o+vs.length<=xs.length) (j:Nat):
  (setAt xs o vs)[j]?=if j<o then xs[j]? else if j<o+vs.length then vs[j-o]? else xs[j]?:=by
 have hl:(xs.take o).length=o:=by simp;omega
 unfold setAt
 by_cases h1:j<o
 ·rw [if_pos h1,List.append_assoc,getElem?_append_left (by omega),List.getElem?_take,if_pos h1]
 ·rw [if_neg h1]
  by_cases h2:j<o+vs.length
  ·rw [if_pos h2,List.append_assoc,getElem?_append_right (by omega),hl,getElem?_append_left (by omega)]
  ·rw [if_neg h2,getElem?_append_right (by simp;omega),List.getElem?_drop]
   congr 1
   simp
   omega
theorem JV {xs:List Value} {o:Nat} {vs:List Value} (h:o+vs.length<=xs.length):(setAt xs o vs).length=xs.length:=by
 unfold setAt
 simp
 omega
theorem eu.le {ρ:aD} {c:Array Value} {sh:Nat} {xs:List Value} (h:eu ρ c sh xs) (hs:sh<=c.size):sh+xs.length<=c.size:=by
 rcases Nat.eq_zero_or_pos xs.length with hz | hz
 ·omega
 ·have hx:xs[xs.length-1]?=some (xs[xs.length-1]'(by omega)):=List.getElem?_eq_getElem _
  obtain ⟨_,y,hy,_⟩:=h _ _ hx
  have:=(Array.getElem?_eq_some_iff.1 hy).1
  omega
theorem eu.put {ρ:aD} {c:Array Value} {sh:Nat} {xs:List Value} {o:Nat} {vs fU:List Value} (h:eu ρ c sh xs) (hs:sh<=c.size) (hv:bg ρ vs fU) (h1:∀x∈vs,ep x=true) (hl:o+vs.length<=xs.length):
  eu ρ (setAt c.toList (sh+o) fU).toArray sh (setAt xs o vs):=by
 intro j x hj
 have dV:=h.le hs
 have hlen:=hv.length
 rw [Ca hl] at hj
 have e:(setAt c.toList (sh+o) fU).toArray[sh+j]?=if sh+j<sh+o then c.toList[sh+j]? else if sh+j<sh+o+fU.length then fU[sh+j-(sh+o)]? else c.toList[sh+j]?:=by
  rw [List.getElem?_toArray,Ca (by simp;omega)]
 rw [e]
 by_cases tb:j<o
 ·rw [if_pos tb] at hj
  rw [if_pos (by omega)]
  obtain ⟨q1,y,q2,q3⟩:=h j x hj
  exact ⟨q1,y,by simpa using q2,q3⟩
 ·rw [if_neg tb] at hj
  rw [if_neg (by omega)]
  by_cases h2:j<o+vs.length
  ·rw [if_pos h2] at hj
   rw [if_pos (by omega)]
   obtain ⟨y,q2,q3⟩:=hv.get hj
   exact ⟨h1 x (mem_of_getElem? hj),y,by rw [show sh+j-(sh+o)=j-o by omega];exact q2,q3⟩
  ·rw [if_neg h2] at hj
   rw [if_neg (by omega)]
   obtain ⟨q1,y,q2,q3⟩:=h j x hj
   exact ⟨q1,y,by simpa using q2,q3⟩
theorem Qj (z:List Value) (n:Nat):∀(j:Nat),j<n*z.length->(List.replicate n z).flatten[j]?=z[j%z.length]?:=by
 induction n with
 | zero=>intro j hj;simp at hj
 | succ n ih=>
  intro j hj
  rw [List.replicate_succ,List.flatten_cons]
  by_cases h:j<z.length
  ·rw [getElem?_append_left h,Nat.mod_eq_of_lt h]
  ·have e:j%z.length=(j-z.length)%z.length:=by rw [Nat.mod_eq_sub_mod (by omega)]
   rw [getElem?_append_right (by omega),ih _ (by rw [add_mul] at hj;omega),e]
theorem Ld (z:List Value) (n:Nat):(dt z n).length=n*z.length:=by
 induction n with
 | zero=>simp [dt]
 | succ n ih=>simp only [dt,List.replicate_succ,List.flatten_cons,List.length_append] at ih⊢;rw [ih,add_mul];omega
theorem Yi {z:List Value} {n:Nat} {p:Value->Prop} (h:∀x∈z,p x):∀x∈dt z n,p x:=by
 intro x hx
 simp only [dt,List.mem_flatten,List.mem_replicate] at hx
 obtain ⟨l,⟨_,rfl⟩,hm⟩:=hx
 exact h x hm
theorem Sw (z:Array Value) (m j:Nat) (hj:j<m) (hz:0<z.size):(madeCells z m)[j]?=z[j%z.size]?:=by
 have ar:j%z.size<z.size:=Nat.mod_lt _ hz
 simp [madeCells,hj,ar]
theorem akE (z:Value) (n k:Nat) (hk:(bK z).length=k):((Array.range (n*k)).map (z.cells[·%z.cells.size]!)).toList=dt (bK z) n:=by
 have hs:z.cells.size=k:=by rw [<-hk];simp [bK]
 apply List.ext_getElem?
 intro j
 by_cases hj:j<n*k
 ·have hz:0<z.cells.size:=by
   rcases Nat.eq_zero_or_pos k with h | h
   ·subst h;simp at hj
   ·omega
  have:=Sw z.cells (n*k) j hj hz
  simp only [madeCells] at this
  rw [getElem?_toList,this,dt,Qj _ _ _ (by rw [hk];exact hj)]
  simp [bK]
 ·rw [List.getElem?_eq_none (by simp;omega),List.getElem?_eq_none (by rw [Ld,hk];omega)]
section
variable {P : Program} {w : World} {ρ : aD} {h : ae}
def gC (P:Program) (ρ:aD) (h:ae) (w:World) (v:Value) (h':ae) (s:Result Next):Prop:=
 ∃nx w' aq v',s=.ok nx w'/\(nx=.value v'∨(nx=.skip/\v'=undef))/\au aq v v'/\aL P aq h' w'/\Tr ρ h w aq h' w'
theorem aL.arr (H:aL P ρ h w) {i:Nat} {r:RI} {e:TypeId} {xs:List Value} (hi:ρ i=some r) (hx:h[i]?=some (.arr e xs)):
  r.elem=e/\r.sh<=r.size/\∃c,w.heap[r.aY]?=some (.cells c e (0,0))/\c.size=r.size/\eu ρ c r.sh xs:=by
 obtain ⟨o,ho,hr⟩:=H.obj i r hi
 rw [hx] at ho
 cases ho
 exact hr
theorem ao3 (H:aL P ρ h w) {t:TypeId} {a a' v v':Value} {h':ae} (hk:fk P t=true) (hi:oT (P.cellsOf t) h a v=some h') (ha:au ρ a a') (hv:au ρ v v'):
  ∃w',(Instr.storeAt t a' v').run P w=.ok () w'/\aL P ρ h' w'/\Tr ρ h w ρ h' w':=by
 unfold oT at hi
 split at hi
 ·rename_i i o
  obtain ⟨r,hr,rfl⟩:=ha.w4
  split at hi
  ·rename_i e xs hx
   split at hi
   ·rename_i hc
    obtain ⟨lL,hl,hle⟩:=hc
    simp at hi;subst hi
    obtain ⟨h1,h2,c,h3,h4,h5⟩:=H.arr hr hx
    have tJ:=hv.cells lL
    have kT:(bK v').length=P.cellsOf t:=by rw [<-tJ.length];exact hl
    have hs:r.sh<=c.size:=by omega
    have dI:=run_storeCells_at P r.aY (r.sh+o) e (bK v') 0 c w h3 (by have:=h5.le hs;simp;omega) (tJ.wP (hv.zS lL))
    have heq:(c.toList.take (r.sh+o+0)++bK v'++c.toList.drop (r.sh+o+0+(bK v').length)).toArray=(setAt c.toList (r.sh+o) (bK v')).toArray:=by simp [setAt]
    rw [heq] at dI
    have fF:bH h i:=.inl ⟨e,xs,hx⟩
    obtain ⟨q1,q2⟩:=H.set (o:=.arr e (setAt xs o (bK v))) hr fF (iV.row h3 (setAt c.toList (r.sh+o) (bK v')).toArray)
     ⟨h1,h2,_,(iV.row h3 _).here,by simp [JV (show r.sh+o+(bK v').length<=c.toList.length by have:=h5.le hs;simp;omega),h4],h5.put hs tJ (hv.zS lL) (by omega)⟩
    refine ⟨_,?_,q1,q2⟩
    have jK:v'.cells.size=P.cellsOf t:=by rw [<-kT];simp [bK]
    have aip:(storeCells ⟨r.aY,r.sh+o,none⟩ v'.cells.toList).run P w=.ok () (w.setRow r.aY (setAt c.toList (r.sh+o) (bK v')).toArray):=dI
    simp [Instr.storeAt,Instr.sureAddr,storeVar,lB w hk,jK,aip]
   ·cases hi
  ·cases hi
 ·cases hi
theorem wH (H:aL P ρ h w) {w':World} {e:TypeId} {c:Array Value} {xs:List Value} (nb:fV w (.cells c e) w') (hc:eu ρ c 0 xs):
  aL P (ρ.add h.length ⟨w.heap.size,0,e,P.cellsOf e,c.size⟩) (h++[.arr e xs]) w'/\Tr ρ h w (ρ.add h.length ⟨w.heap.size,0,e,P.cellsOf e,c.size⟩) (h++[.arr e xs]) w':=
 H.new nb rfl rfl rfl (λ_=>.inl rfl) ⟨rfl,Nat.zero_le _,c,nb.new,rfl,hc.mono (aD.oV H.none)⟩
theorem qz (ρ:aD) (i:Nat) (r:RI):ρ.add i r i=some r:=by simp [aD.add]
theorem SI (ρ:aD) (h:ae) (r:RI) (hs:r.sh=0):au (ρ.add h.length r) (tV h) (.pointer (some ⟨r.aY,0,none⟩)):=by
 have:=au.ptr (ρ:=ρ.add h.length r) (i:=h.length) (o:=0) (qz _ _ _)
 rw [hs] at this
 exact this
theorem Ce (ρ:aD) (i:Nat) (r:RI) (hs:r.sh=0) {n c':Nat} (hn:n<=c') (hc:c'<=maxLen) (hb:c'*r.aT<=r.size):au (ρ.add i r) (sl r.elem i 0 n) (.slice (some ⟨r.aY,0,none⟩) n c'):=
 au.slice (qz _ _ _) (.inl (by omega)) hn hc (by omega)
theorem aoF (H:aL P ρ h w) {e:TypeId} {x x' v:Value} {h':ae} (hi:cQ e h x=some (v,h')) (hx:au ρ x x'):
  ∃w' aq v',(Instr.box e x').run P w=.ok v' w'/\au aq v v'/\aL P aq h' w'/\Tr ρ h w aq h' w':=by
 unfold cQ at hi
 split at hi
 ·rename_i lL
  simp at hi
  obtain ⟨rfl,rfl⟩:=hi
  have hc:eu ρ x'.cells 0 (bK x):=eu.of (hx.cells lL) (hx.zS lL)
  obtain ⟨q1,q2⟩:=wH H (fV.alloc w (.cells x'.cells e)) hc
  exact ⟨_,_,_,by simp [Instr.box,newVar,newRow],SI _ _ _ rfl,q1,q2⟩
 ·cases hi
theorem aoB (H:aL P ρ h w) {e:TypeId} {zs:List Value} (hz:zeroOf P e=some zs):
  ∃w' aq v',(Instr.alloc e true (.tuple #[])).run P w=.ok v' w'/\au aq (tV h) v'/\aL P aq (h++[.arr e zs]) w'/\Tr ρ h w aq (h++[.arr e zs]) w':=by
 obtain ⟨i,z,hi,lh,rfl,lL,dV,hlen⟩:=uI hz
 have hc:eu ρ z.cells 0 (bK z):=eu.of (bg.closed λx hx=>(dV x hx).1) (λx hx=>(dV x hx).2)
 obtain ⟨q1,q2⟩:=wH H (fV.alloc w (.cells z.cells e)) hc
 exact ⟨_,_,_,by simp [Instr.alloc,sg w hi lh,newVar,newRow],SI _ _ _ rfl,q1,q2⟩
theorem E1 {t:TypeId} {i:TypeInfo} (hi:P.info? t=some i):P.cellsOf t=i.size:=by simp [Program.cellsOf,hi]
theorem Ng {t:TypeId} {i:TypeInfo} (hi:P.info? t=some i):P.bytesOf t=i.bytes:=by simp [Program.bytesOf,hi]
theorem aoY (H:aL P ρ h w) {t e:TypeId} {n:Nat} {zs:List Value} {ps:List (Nat×Nat×Value)} {qs:Array (Nat×Value)} {v:Value} {h':ae} (ht:P.underlying t=some (.slice e)) (hz:zeroOf P e=some zs)
  (hn:n*P.cellsOf e<=16777216) (aU:P.cellsOf e≠0) (hp:oa ρ (λi=>some (i*P.cellsOf e,P.cellsOf e)) ps qs.toList) (hi:bq e n zs h ps=some (v,h')):
  ∃w' aq v',(Instr.buildSlice t n qs).run P w=.ok v' w'/\au aq v v'/\aL P aq h' w'/\Tr ρ h w aq h' w':=by
 obtain ⟨i,z,jI,lh,rfl,lL,dV,hlen⟩:=uI hz
 have hk:fk P e=true:=by simp [fk,jI]
 have oH:=E1 jI
 simp only [bq,map_eq_some_iff,Prod.mk.injEq] at hi
 obtain ⟨cs,hf,rfl,rfl⟩:=hi
 obtain ⟨zero,mK,hzl⟩:∃zero:Array Value,(if n*P.cellsOf e=0 then (Pure.pure #[]:Sem (Array Value)) else do pure (<-zeroValue e).cells).run P w=.ok zero w/\
   ((Array.range (n*P.cellsOf e)).map (zero[·%zero.size]!)).toList=dt (bK z) n:=by
  by_cases h0:n*P.cellsOf e=0
  ·refine ⟨#[],by simp [h0],?_⟩
   have Rg:n=0:=by
    rcases Nat.mul_eq_zero.1 h0 with h | h
    ·exact h
    ·exact absurd h aU
   subst Rg
   simp [dt,Array.range_zero']
  ·exact ⟨z.cells,by simp [h0,sg w jI lh],by rw [oH];exact akE z n i.size hlen⟩
 have agQ:bg ρ (dt (bK z) n) (dt (bK z) n):=bg.closed (Yi λx hx=>(dV x hx).1)
 obtain ⟨fe,tq,hr,h1,mD⟩:=Ft (ys:=(Array.range (n*P.cellsOf e)).map (zero[·%zero.size]!)) hp hf (by rw [hzl];exact agQ) (Yi λx hx=>(dV x hx).2)
 obtain ⟨q1,q2⟩:=wH H (fV.alloc w (.cells fe e)) (eu.of hr h1)
 have jK:fe.size=n*P.cellsOf e:=by
  have:=hr.length
  rw [mD,Ld,hlen,<-oH] at this
  simpa using this.symm
 have Gk:n<=maxLen:=by
  have h1:1<=P.cellsOf e:=by omega
  have:=Nat.mul_le_mul_left n h1
  unfold maxLen
  omega
 refine ⟨_,_,.slice (some ⟨w.heap.size,0,none⟩) n n,?_,Ce ρ h.length ⟨w.heap.size,0,e,P.cellsOf e,fe.size⟩ rfl (le_refl _) Gk (by simp [jK]),q1,q2⟩
 unfold Instr.buildSlice
 simp only [Sem.run_bind,run_underlying ht,Result.andThen_ok,lB w hk]
 have h24:¬(n*P.cellsOf e>2^24):=by rw [show (2^24:Nat)=16777216 from rfl];omega
 rw [if_neg h24]
 by_cases h0:n*P.cellsOf e=0
 ·rw [if_pos h0] at mK⊢
  simp only [Sem.run_pure,Result.ok.injEq,and_true] at mK
  subst mK
  simp only [Sem.run_bind,Sem.run_pure,Result.andThen_ok,tq]
  simp [newRow]
 ·rw [if_neg h0] at mK⊢
  simp only [Sem.run_bind,Sem.run_pure] at mK⊢
  rw [sg w jI lh] at mK⊢
  simp only [Result.andThen_ok,Result.ok.injEq,and_true] at mK⊢
  subst mK
  rw [tq]
  simp [newRow]
end
end
section
section
variable {P : Program} {w : World} {ρ : aD} {h : ae}
theorem aoU (H:aL P ρ h w) {t e:TypeId} {zs:List Value} {l c l' c' v:Value} {h':ae} (ht:P.underlying t=some (.slice e)) (hz:zeroOf P e=some zs)
  (hi:jM e (P.bytesOf e) zs h l c=some (v,h')) (hl:au ρ l l') (hc:au ρ c c'):
  ∃w' aq v',(Instr.makeSlice t l' c').run P w=.ok v' w'/\au aq v v'/\aL P aq h' w'/\Tr ρ h w aq h' w':=by
 obtain ⟨i,z,jI,lh,rfl,lL,dV,hlen⟩:=uI hz
 unfold jM at hi
 split at hi
 ·rename_i k1 l k2 c
  rw [hl.iw,hc.iw]
  split at hi
  ·rename_i hb
   obtain ⟨h0,h1,h2,h3⟩:=hb
   simp at hi
   obtain ⟨rfl,rfl⟩:=hi
   rw [Ng jI] at h2
   have ek:=run_make (P:=P) w t e i z ht jI lh k1 k2 l c h0 h1 h2 h3
   have qZ:eu ρ (madeCells z.cells (c.toNat*i.size)) 0 (dt (bK z) l.toNat):=by
    intro j x hj
    have nK:j<l.toNat*i.size:=by
     have:=(ba hj).1
     rwa [Ld,hlen] at this
    have GB:z.cells.size=i.size:=by rw [<-hlen];simp [bK]
    have j6:0<z.cells.size:=by
     rcases Nat.eq_zero_or_pos i.size with q | q
     ·rw [q] at nK;simp at nK
     ·omega
    have hmul:l.toNat*i.size<=c.toNat*i.size:=Nat.mul_le_mul_right _ (by omega)
    rw [dt,Qj _ _ _ (by rw [hlen];exact nK)] at hj
    have hx:x∈bK z:=mem_of_getElem? hj
    refine ⟨(dV x hx).2,x,?_,iD.rel (dV x hx).1⟩
    rw [Nat.zero_add,Sw _ _ _ (by omega) j6]
    simpa [bK] using hj
   obtain ⟨q1,q2⟩:=wH H (fV.alloc w (.cells (madeCells z.cells (c.toNat*i.size)) e)) qZ
   refine ⟨_,_,_,ek,?_,q1,q2⟩
   exact Ce ρ h.length ⟨w.heap.size,0,e,P.cellsOf e,(madeCells z.cells (c.toNat*i.size)).size⟩ rfl (by omega) (by unfold maxLen;omega) (by simp [size_madeCells,E1 jI])
  ·cases hi
 ·cases hi
theorem Xj {t e:TypeId} {i:TypeInfo} (ht:P.underlying t=some (.slice e)) (hi:P.info? e=some i) (type:TypeId) (b:Option Addr) (n c:Nat) (x:Value) (hn:n<=c)
  (hx:x=.slice none 0 0∨∃a c2,x=.slice (some a) 0 c2):(Builtin.append_ #[t,t] type #[.slice b n c,x]).run P w=.ok (.slice b n c) w:=by
 rcases hx with rfl | ⟨a,c2,rfl⟩
 ·cases b <;> simp [Builtin.append_,run_underlying ht,sizeOf,typeInfo,hi,Builtin.lenOf,hn,Builtin.firstCells,storeCells]
 ·cases b <;> simp [Builtin.append_,run_underlying ht,sizeOf,typeInfo,hi,Builtin.lenOf,hn,Builtin.firstCells,loadCells,loadCellsFrom,storeCells]
theorem aou (w:World) (t ty e:TypeId) (i:TypeInfo) (ht:P.underlying t=some (.slice e)) (hi:P.info? e=some i) (g off n cap:Nat) (cur:Array Value) (hg:w.heap[g]?=some (.cells cur e (0,0)))
  (a:Addr) (m c:Nat) (news:List Value) (hl:news.length=m*i.size) (ahM:∀j u,news[j]?=some u->w.cell? (a.add j)=some u) (h1:∀u∈news,u.oneCell'=true)
  (rA:n+m<=cap) (tu:off+n*i.size+news.length<=cur.size):
  (Builtin.append_ #[t,t] ty #[.slice (some ⟨g,off,none⟩) n cap,.slice (some a) m c]).run P w=.ok (.slice (some ⟨g,off,none⟩) (n+m) cap)
   (w.setRow g (cur.toList.take (off+n*i.size)++news++cur.toList.drop (off+n*i.size+news.length)).toArray):=by
 have hfc:=run_firstCells_some (P:=P) w i.size m a m c news hl ahM
 have dI:=run_storeCells_at P g (off+n*i.size) e news 0 cur w hg (by simpa using tu) h1
 simp only [Nat.add_zero] at dI
 simp [Builtin.append_,run_underlying ht,sizeOf,typeInfo,hi,Builtin.lenOf,rA,hfc,Addr.add_lit,dI]
theorem PT {ρ:aD} {c:Array Value} {xs ys zs:List Value} (hx:∀(j:Nat) (x:Value),xs[j]?=some x->ep x=true/\∃y,c[j]?=some y/\au ρ x y) (hz:bg ρ zs ys) (h1:∀x∈zs,ep x=true)
  (hc:∀(j:Nat) (y:Value),ys[j]?=some y->c[xs.length+j]?=some y):eu ρ c 0 (xs++zs):=by
 intro j x hj
 by_cases ar:j<xs.length
 ·rw [getElem?_append_left ar] at hj
  simpa using hx j x hj
 ·rw [getElem?_append_right (by omega)] at hj
  obtain ⟨y,hy,hr⟩:=hz.get hj
  refine ⟨h1 x (mem_of_getElem? hj),y,?_,hr⟩
  have:=hc _ y hy
  rw [<-this]
  congr 1
  omega
theorem aoC (H:aL P ρ h w) {t e:TypeId} {zs:List Value} {type:TypeId} {s x s' x' v:Value} {h':ae} (ht:P.underlying t=some (.slice e)) (hz:zeroOf P e=some zs)
  (hi:cE e (P.cellsOf e) (P.bytesOf e) h s x=some (v,h')) (hs:au ρ s s') (hx:au ρ x x'):
  ∃w' aq v',(Builtin.append_ #[t,t] type #[s',x']).run P w=.ok v' w'/\au aq v v'/\aL P aq h' w'/\Tr ρ h w aq h' w':=by
 obtain ⟨i,z,jI,lh,rfl,lL,dV,hlen⟩:=uI hz
 have oH:=E1 jI
 have QO:=Ng jI
 have GB:z.cells.size=i.size:=by rw [<-hlen];simp [bK]
 unfold cE at hi
 split at hi
 ·rename_i news m hn hm
  have RB:=Cf H hn hx
  have mK:m=0->(x'=.slice none 0 0∨∃a c2,x'=.slice (some a) 0 c2):=by
   intro kC
   rcases RB with ⟨e1,_⟩ | ⟨b,o,n2,c2,e1,e2,_⟩
   ·exact .inl e1
   ·rw [hm] at e2;cases e2;subst kC;exact .inr ⟨_,_,e1⟩
  have Rt:0<m->∃b o c2,x'=.slice (some ⟨b,o,none⟩) m c2/\news.length=m*i.size/\(∀v∈news,ep v=true)/\
    ∃ys,bg ρ news ys/\ys.length=m*i.size/\∀j v,ys[j]?=some v->w.cell? ((⟨b,o,none⟩:Addr).add j)=some v:=by
   intro kC
   rcases RB with ⟨e1,e2⟩ | ⟨b,o,n2,c2,e1,e2,e3,e4,ys,e5,e6⟩
   ·subst e1
    cases hx
    ·simp [iM] at hm
     omega
    ·simp [iM] at hm
   ·rw [hm] at e2;cases e2
    refine ⟨b,o,c2,e1,by rw [e3,oH],e4,ys,e5,by rw [<-e5.length,e3,oH],?_⟩
    intro j v hj
    rw [Addr.add_lit]
    exact e6 j v hj
  split at hi
  ·cases hs
   split at hi
   ·rename_i kC
    simp at hi
    obtain ⟨rfl,rfl⟩:=hi
    exact ⟨w,ρ,_,Xj ht jI type none 0 0 x' (le_refl _) (mK kC),.lu,H,Tr.refl H⟩
   ·rename_i kC
    split at hi
    ·rename_i hb
     obtain ⟨Az,th⟩:=hb
     simp at hi
     obtain ⟨rfl,rfl⟩:=hi
     obtain ⟨b,o,c2,rfl,f1,f2,ys,f3,f4,f5⟩:=Rt (by omega)
     have ek:=run_append_nil (P:=P) w t type e i z ht jI lh ⟨b,o,none⟩ m c2 ys f4 f5 (by omega) (by unfold maxLen at th;omega) (by rw [<-QO];omega)
     have cY:=grownCap_ge w m 0 e
     have qZ:eu ρ (ys.toArray++Builtin.zeroCells z.cells (grownCap w m 0 e-m)) 0 news:=by
      have:=PT (ρ:=ρ) (c:=ys.toArray++Builtin.zeroCells z.cells (grownCap w m 0 e-m)) (xs:=[]) (ys:=ys) (zs:=news) (by simp) f3 f2 (by
       intro j y hj
       have ar:=(ba hj).1
       rw [Array.getElem?_append_left (by simpa using ar)]
       simpa using hj)
      simpa using this
     obtain ⟨q1,q2⟩:=wH H (fV.drew w (.cells (ys.toArray++Builtin.zeroCells z.cells (grownCap w m 0 e-m)) e)) qZ
     refine ⟨_,_,_,ek,?_,q1,q2⟩
     refine Ce ρ h.length ⟨w.heap.size,0,e,P.cellsOf e,(ys.toArray++Builtin.zeroCells z.cells (grownCap w m 0 e-m)).size⟩ rfl cY (grownCap_le_maxLen w m 0 e th) ?_
     simp only [Array.size_append,List.size_toArray,size_zeroCells,f4,GB,oH]
     rw [<-add_mul]
     exact Nat.mul_le_mul_right _ (by omega)
    ·cases hi
  ·rename_i ii oo e' n cc
   split at hi
   ·rename_i P2 xs nM
    split at hi
    ·rename_i hb
     obtain ⟨rfl,rfl,AA,hb4,QK⟩:=hb
     have hs0:=hs
     cases hs with
     | slice hr ho hnc hcm ti=>
      rename_i o' c' r
      obtain ⟨g1,g2,c,g3,g4,g5⟩:=H.arr hr nM
      have fZ:=H.aT _ _ hr
      have hsc:r.sh<=c.size:=by omega
      split at hi
      ·rename_i kC
       simp at hi
       obtain ⟨rfl,rfl⟩:=hi
       exact ⟨w,ρ,_,Xj ht jI type _ n c' x' hnc (mK kC),hs0,H,Tr.refl H⟩
      ·rename_i kC
       simp at hi
       obtain ⟨rfl,rfl⟩:=hi
       obtain ⟨b,o,c2,rfl,f1,f2,ys,f3,f4,f5⟩:=Rt (by omega)
       rw [oH] at AA
       have hoo:xs.drop oo=(xs.drop oo).take (n*i.size):=(List.take_of_length_le (by rw [List.length_drop];omega)).symm
       have pM:(xs.drop oo).length=n*i.size:=by rw [List.length_drop];omega
       have tp:r.aT=i.size:=by rw [fZ,oH]
       have fF:bH h ii:=.inl ⟨_,xs,nM⟩
       by_cases rA:n+m<=c'
       ·have cr:o'=r.sh+oo:=by
         rcases ho with ho | ⟨_,_,q⟩
         ·exact ho
         ·rw [q] at rA
          exact absurd (le_trans (Nat.le_add_left m n) rA) (Nat.not_le_of_lt (Nat.pos_of_ne_zero kC))
        subst cr
        have hmul:=Nat.mul_le_mul_right i.size rA
        rw [add_mul] at hmul
        have tu:r.sh+oo+n*i.size+ys.length<=c.size:=by
         rw [f4,g4]
         rw [tp] at ti
         omega
        have ek:=aou (P:=P) w t type r.elem i ht jI r.aY (r.sh+oo) n c' c g3 ⟨b,o,none⟩ m c2 ys f4 f5 (f3.wP f2) rA tu
        have vB:(c.toList.take (r.sh+oo+n*i.size)++ys++c.toList.drop (r.sh+oo+n*i.size+ys.length)).toArray=(setAt c.toList (r.sh+oo+n*i.size) ys).toArray:=rfl
        rw [vB] at ek
        have jK:(setAt c.toList (r.sh+oo+n*i.size) ys).toArray.size=c.size:=by simp [JV (show r.sh+oo+n*i.size+ys.length<=c.toList.length by simpa using tu)]
        have qZ:eu ρ (setAt c.toList (r.sh+oo+n*i.size) ys).toArray (r.sh+oo) (xs.drop oo++news):=by
         intro j x hj
         by_cases ar:j<(xs.drop oo).length
         ·rw [getElem?_append_left ar,List.getElem?_drop] at hj
          obtain ⟨k1,y,k2,k3⟩:=g5 _ x hj
          refine ⟨k1,y,?_,k3⟩
          rw [List.getElem?_toArray,Ca (by simpa using tu),if_pos (by omega),show r.sh+oo+j=r.sh+(oo+j) by omega]
          simpa using k2
         ·rw [getElem?_append_right (by omega)] at hj
          obtain ⟨y,hy,hr3⟩:=f3.get hj
          have dT:=(ba hy).1
          refine ⟨f2 x (mem_of_getElem? hj),y,?_,hr3⟩
          rw [List.getElem?_toArray,Ca (by simpa using tu),if_neg (by omega),if_pos (by omega),<-hy]
          congr 1
          omega
        have sb:=iV.row g3 (setAt c.toList (r.sh+oo+n*i.size) ys).toArray
        obtain ⟨q1,q2⟩:=H.akM (r':=⟨r.aY,r.sh+oo,r.elem,r.aT,r.size⟩) (o:=.arr r.elem (xs.drop oo++news)) hr fF sb rfl fZ ⟨rfl,by show r.sh+oo<=r.size;omega,_,sb.here,by rw [jK,g4],qZ.mono (aD.oV H.none)⟩
        refine ⟨_,_,_,ek,?_,q1,q2⟩
        exact au.slice (r:=⟨r.aY,r.sh+oo,r.elem,r.aT,r.size⟩) (qz _ _ _) (.inl rfl) rA hcm (by show r.sh+oo+c'*r.aT<=r.size;omega)
       ·obtain ⟨HA,o1,o2,o3,o4⟩:=g5.Kb (o:=oo) (n:=n*i.size) (by omega)
        rw [<-hoo] at o1 o3
        have ef:∀j v,HA[j]?=some v->w.cell? ((⟨r.aY,o',none⟩:Addr).add j)=some v:=by
         intro j v hj
         rcases ho with ho | ⟨q0,_,_⟩
         ·rw [Addr.add_lit,zR g3,ho]
          exact o4 j v hj
         ·have:=(ba hj).1
          rw [o2,q0] at this
          omega
        have Q0:=growslice_fits (need:=n+m) (old:=c') (bytes:=P.bytesOf r.elem) (by omega) hb4
        rw [QO] at Q0
        have ek:=run_append_grow (P:=P) w t type r.elem i z ht jI lh ⟨r.aY,o',none⟩ n c' HA o2 ef ⟨b,o,none⟩ m c2 ys f4 f5 (by omega) (by unfold maxLen at QK;omega) Q0
        have cY:=grownCap_ge w (n+m) c' r.elem
        generalize qX:HA.toArray++ys.toArray++Builtin.zeroCells z.cells (grownCap w (n+m) c' r.elem-(n+m))=cc at ek
        have agP:cc.size=n*i.size+m*i.size+(grownCap w (n+m) c' r.elem-(n+m))*i.size:=by
         rw [<-qX];simp only [Array.size_append,List.size_toArray,size_zeroCells,o2,f4,GB]
        have qZ:eu ρ cc 0 (xs.drop oo++news):=by
         refine PT (ys:=ys) ?_ f3 f2 ?_
         ·intro j x hj
          have ar:=(ba hj).1
          obtain ⟨y,k2,k3⟩:=o1.get hj
          refine ⟨o3 x (mem_of_getElem? hj),y,?_,k3⟩
          rw [<-qX,Array.append_assoc,Array.getElem?_append_left (by simp;omega)]
          simpa using k2
         ·intro j y hj
          have ar:=(ba hj).1
          rw [<-qX,Array.append_assoc,Array.getElem?_append_right (by simp;omega),Array.getElem?_append_left (by simp;omega)]
          rw [<-hj,List.getElem?_toArray]
          congr 1
          simp
          omega
        have nb:=fV.drew w (.cells cc r.elem)
        obtain ⟨q1,q2⟩:=H.new (h₀:=h.set ii .dead) (o:=.arr r.elem (xs.drop oo++news)) (r:=⟨w.heap.size,0,r.elem,P.cellsOf r.elem,cc.size⟩) nb rfl rfl (by simp) (by
          intro j
          by_cases hj:j=ii
          ·subst hj;right;rw [List.getElem?_set_self (H.lt hr)]
          ·left;rw [getElem?_set_ne (Ne.symm hj)]) ⟨rfl,Nat.zero_le _,cc,nb.new,rfl,qZ.mono (aD.oV H.none)⟩
        refine ⟨_,_,_,ek,?_,q1,q2⟩
        refine Ce ρ h.length ⟨w.heap.size,0,r.elem,P.cellsOf r.elem,cc.size⟩ rfl cY (grownCap_le_maxLen w (n+m) c' r.elem QK) ?_
        simp only [agP,oH]
        rw [<-add_mul,<-add_mul]
        exact Nat.mul_le_mul_right _ (by omega)
    ·cases hi
   ·cases hi
  ·cases hi
 ·cases hi
theorem aoI (H:aL P ρ h w) {t e tt:TypeId} {type:TypeId} {d x d' x' v:Value} {h':ae} (ht:P.underlying t=some (.slice e)) (hz:(P.info? e).map (·.size)=some 1) (hi:GG h d x=some (v,h')) (hd:au ρ d d') (hx:au ρ x x'):
  ∃w',(Builtin.copy_ #[t,tt] type #[d',x']).run P w=.ok v w'/\au ρ v v/\aL P ρ h' w'/\Tr ρ h w ρ h' w':=by
 unfold GG at hi
 split at hi
 ·rename_i n m cs hn hm vB
  have pM:∃p c,d'=.slice p n c:=by
   unfold iM at hn
   split at hn
   ·cases hd;cases hn;exact ⟨_,_,rfl⟩
   ·cases hd;cases hn;exact ⟨_,_,rfl⟩
   ·cases hn
  have jn:∃p c,x'=.slice p m c:=by
   unfold iM at hm
   split at hm
   ·cases hx;cases hm;exact ⟨_,_,rfl⟩
   ·cases hx;cases hm;exact ⟨_,_,rfl⟩
   ·cases hm
  split at hi
  ·rename_i h0
   simp at hi
   obtain ⟨rfl,rfl⟩:=hi
   obtain ⟨p,c,rfl⟩:=pM
   obtain ⟨q,c',rfl⟩:=jn
   exact ⟨w,run_copy_none (P:=P) w t tt type e p q n c m c' ht hz h0,.int _ _,H,.refl H⟩
  ·rename_i h0
   split at hi
   ·rename_i i o e' n' c0
    split at hi
    ·rename_i e2 xs hg
     split at hi
     ·rename_i hle
      simp only [Option.some.injEq,Prod.mk.injEq] at hi
      obtain ⟨rfl,rfl⟩:=hi
      cases hd with
      | slice hr ho hn2 hc hb=>
       rename_i o' c' r
       simp [iM] at hn
       subst hn
       have j6:0<n':=by
        have:Nat.min m n'<=n':=Nat.min_le_right _ _
        omega
       have cr:o'=r.sh+o:=by
        rcases ho with ho | ⟨q1,q2,q3⟩
        ·exact ho
        ·omega
       subst cr
       obtain ⟨a1,a2,c,a3,a4,a5⟩:=H.arr hr hg
       rcases Cf H vB hx with ⟨rfl,rfl⟩ | ⟨b,ob,nn,cc,rfl,hl,hlen,nF,ys,rE,ahx⟩
       ·obtain ⟨q,c',hq⟩:=jn
        cases hq
        exact absurd (Nat.zero_min n') h0
       ·rw [hm] at hl
        cases hl
        rw [Nat.mul_one] at hlen
        have aiC:=rE.length
        have ar:(ys.take (Nat.min m n')).length=Nat.min m n':=by
         rw [List.length_take,<-aiC,hlen];exact Nat.min_eq_left (Nat.min_le_left _ _)
        have hct:(cs.take (Nat.min m n')).length=Nat.min m n':=by
         rw [List.length_take,hlen];exact Nat.min_eq_left (Nat.min_le_left _ _)
        have wk:bg ρ (cs.take (Nat.min m n')) (ys.take (Nat.min m n')):=rE.take _
        have QB:∀v∈cs.take (Nat.min m n'),ep v=true:=λv hv=>nF v (List.mem_of_mem_take hv)
        have ek:=run_copy_row (P:=P) w t tt type e r.aY (r.sh+o) n' c' ⟨b,ob,none⟩ m cc c e2 (ys.take (Nat.min m n')) ht hz a3 ar
         (λj v hj=>by
          rw [List.getElem?_take] at hj
          split at hj
          ·rw [Addr.add_lit];exact ahx j v hj
          ·cases hj) (by have:=a5.le (by omega);rw [ar];omega) (wk.wP QB)
        rw [ar] at ek
        have heq:(c.toList.take (r.sh+o)++ys.take (Nat.min m n')++c.toList.drop (r.sh+o+Nat.min m n')).toArray=(setAt c.toList (r.sh+o) (ys.take (Nat.min m n'))).toArray:=by simp only [setAt,ar]
        rw [heq] at ek
        have fF:bH h i:=.inl ⟨e2,xs,hg⟩
        obtain ⟨q1,q2⟩:=H.set (o:=.arr e2 (setAt xs o (cs.take (Nat.min m n')))) hr fF (iV.row a3 (setAt c.toList (r.sh+o) (ys.take (Nat.min m n'))).toArray)
         ⟨a1,a2,_,(iV.row a3 _).here,by simp [JV (show r.sh+o+(ys.take (Nat.min m n')).length<=c.toList.length by have:=a5.le (by omega);simp only [Array.length_toList];omega),a4],a5.put (by omega) wk QB (by omega)⟩
        refine ⟨_,?_,.int _ _,q1,q2⟩
        exact ek
     ·cases hi
    ·cases hi
   ·cases hi
 ·cases hi
end
end
section
theorem iV.obj {w:World} {g:Nat} {x:Obj} (hg:w.heap[g]?=some x) (b:Obj):iV w g b { w with heap:=w.heap.setIfInBounds g b } where
 here:=by
  have:=(Array.getElem?_eq_some_iff.1 hg).1
  simp [this]
 other:=by intro j hj;simp [Ne.symm hj]
 size:=by simp
 os:=rfl
 tape:=rfl
 output:=rfl
theorem af9 {ρ:aD} {es:List (ByteArray×Value)} {aG:List MapEntry} (h:jT ρ es aG) (k:ByteArray) {v v':Value} (hv:au ρ v v') (born:Nat):∀i:Nat,
  (Instr.findNow .string (.string k) aG i=some none/\jT ρ (mX k v es) (aG++[{ key:=.string k,val:=v',born }]))∨
  (∃u j,Instr.findNow .string (.string k) aG i=some (some (i+j,u))/\(∃en,aG[j]?=some en/\en.key=.string k)/\jT ρ (mX k v es) (aG.modify j λe=>{ e with key:=.string k,val:=v' })):=by
 induction h with
 | nil=>intro i;exact .inl ⟨rfl,.cons rfl hv .nil⟩
 | cons h1 h2 h3 ih=>
  rename_i k0 v0 en es aG
  intro i
  by_cases hk:k=k0
  ·subst hk
   have hb:(k==k)=true:=(MapKept.bytes_beq k k).2 rfl
   refine .inr ⟨en.val,0,?_,⟨en,rfl,h1⟩,?_⟩
   ·simp [Instr.findNow,h1,Instr.sameNow,hb]
   ·simp only [mX,if_true,List.modify_zero_cons]
    exact .cons rfl hv h3
  ·have hb:(k==k0)=false:=by
    rw [Bool.eq_false_iff]
    exact λe=>hk ((MapKept.bytes_beq k k0).1 e)
   rcases ih (i+1) with ⟨e1,e2⟩ | ⟨u,j,e1,e2,e3⟩
   ·refine .inl ⟨?_,?_⟩
    ·simp [Instr.findNow,h1,Instr.sameNow,hb,e1]
    ·simp only [mX,if_neg hk,List.cons_append]
     exact .cons h1 h2 e2
   ·refine .inr ⟨u,j+1,?_,by simpa using e2,?_⟩
    ·simp [Instr.findNow,h1,Instr.sameNow,hb,e1];omega
    ·simp only [mX,if_neg hk,List.modify_succ_cons]
     exact .cons h1 h2 e3
theorem aga {kd:IntKind} {ρ:aD} {es:List (Int×Value)} {aG:List MapEntry} (h:jU kd ρ es aG) (k:Int) {v v':Value} (hv:au ρ v v') (born:Nat):∀i:Nat,
  (Instr.findNow (.int kd) (.int kd k) aG i=some none/\jU kd ρ (mW k v es) (aG++[{ key:=.int kd k,val:=v',born }]))∨
  (∃u j,Instr.findNow (.int kd) (.int kd k) aG i=some (some (i+j,u))/\(∃en,aG[j]?=some en/\en.key=.int kd k)/\jU kd ρ (mW k v es) (aG.modify j λe=>{ e with key:=.int kd k,val:=v' })):=by
 induction h with
 | nil=>intro i;exact .inl ⟨rfl,.cons rfl hv .nil⟩
 | cons h1 h2 h3 ih=>
  rename_i k0 v0 en es aG
  intro i
  by_cases hk:k=k0
  ·subst hk
   have hb:(k==k)=true:=beq_self_eq_true k
   refine .inr ⟨en.val,0,?_,⟨en,rfl,h1⟩,?_⟩
   ·simp [Instr.findNow,h1,Instr.sameNow]
   ·simp only [mW,if_true,List.modify_zero_cons]
    exact .cons rfl hv h3
  ·have hb:(k==k0)=false:=by
    exact beq_false_of_ne hk
   rcases ih (i+1) with ⟨e1,e2⟩ | ⟨u,j,e1,e2,e3⟩
   ·refine .inl ⟨?_,?_⟩
    ·simp [Instr.findNow,h1,Instr.sameNow,hb,e1]
    ·simp only [mW,if_neg hk,List.cons_append]
     exact .cons h1 h2 e2
   ·refine .inr ⟨u,j+1,?_,by simpa using e2,?_⟩
    ·simp [Instr.findNow,h1,Instr.sameNow,hb,e1];omega
    ·simp only [mW,if_neg hk,List.modify_succ_cons]
     exact .cons h1 h2 e3
section
variable {P : Program} {w : World} {ρ : aD} {h : ae}
theorem aoV (H:aL P ρ h w) (t:TypeId):∃w' aq v',(Instr.makeMap t none).run P w=.ok v' w'/\au aq (.map (some h.length)) v'/\aL P aq (h++[.smap []]) w'/\Tr ρ h w aq (h++[.smap []]) w':=by
 have nb:=fV.alloc w (.map #[] 0)
 obtain ⟨q1,q2⟩:=H.new (h₀:=h) (o:=.smap []) (r:=⟨w.heap.size,0,0,P.cellsOf 0,0⟩) nb rfl rfl rfl (λ_=>.inl rfl) ⟨#[],0,nb.new,rfl,λj k v hj=>by simp at hj⟩
 refine ⟨_,_,.map (some w.heap.size),?_,au.map (qz _ _ _),q1,q2⟩
 simp [Instr.makeMap]
theorem aoX (H:aL P ρ h w) (t:TypeId) (kd:IntKind):∃w' aq v',(Instr.makeMap t none).run P w=.ok v' w'/\au aq (.map (some h.length)) v'/\aL P aq (h++[.iK kd []]) w'/\Tr ρ h w aq (h++[.iK kd []]) w':=by
 have nb:=fV.alloc w (.map #[] 0)
 obtain ⟨q1,q2⟩:=H.new (h₀:=h) (o:=.iK kd []) (r:=⟨w.heap.size,0,0,P.cellsOf 0,0⟩) nb rfl rfl rfl (λ_=>.inl rfl) ⟨#[],0,nb.new,rfl,λj k v hj=>by simp at hj⟩
 refine ⟨_,_,.map (some w.heap.size),?_,au.map (qz _ _ _),q1,q2⟩
 simp [Instr.makeMap]
theorem p7 {g:Nat} {aG:Array MapEntry} {clock:Nat} (hg:w.heap[g]?=some (.map aG clock)) (o:Obj):(setObj g o).run P w=.ok () { w with heap:=w.heap.setIfInBounds g o }:=by
 simp [setObj,Sem.run,hg]
theorem Xo (H:aL P ρ h w) {t kt et:TypeId} {m m' k k' v v':Value} {h':ae} (ht:P.underlying t=some (.map kt et)) (hk:isString P kt=true)
  (hi:GL h m k v=some h') (hm:au ρ m m') (du:au ρ k k') (hv:au ρ v v'):∃w',(Instr.mapUpdate t m' k' v').run P w=.ok () w'/\aL P ρ h' w'/\Tr ρ h w ρ h' w':=by
 unfold GL at hi
 split at hi
 ·rename_i i key
  rw [du.pf]
  cases hm with
  | map hr=>
   rename_i r
   split at hi
   ·rename_i es he
    simp at hi;subst hi
    obtain ⟨aG,clock,hb,q8⟩:=H.aG hr he
    have iG:=R9 hk
    have fF:bH h i:=.inr (.inl ⟨es,he⟩)
    have mk:∀(kO:Array MapEntry) (l9:Nat),jT ρ (mX key v es) kO.toList->aL P ρ (h.set i (.smap (mX key v es))) { w with heap:=w.heap.setIfInBounds r.aY (.map kO l9) }/\
      Tr ρ h w ρ (h.set i (.smap (mX key v es))) { w with heap:=w.heap.setIfInBounds r.aY (.map kO l9) }:=by
     intro kO l9 dD
     have sb:=iV.obj hb (.map kO l9)
     have:=dD.to
     exact H.set (o:=.smap (mX key v es)) hr fF sb ⟨kO,l9,sb.here,by simpa using this.1,by simpa using this.2⟩
    rcases af9 q8 key hv clock 0 with ⟨e1,e2⟩ | ⟨u,j,e1,⟨en,e2,vh⟩,e3⟩
    ·obtain ⟨q1,q2⟩:=mk (aG.push { key:=.string key,val:=v',born:=clock }) (clock+1) (by simpa using e2)
     refine ⟨_,?_,q1,q2⟩
     simp [Instr.mapUpdate,run_underlying ht,run_getObj_map hb,run_checkKey _ iG,run_findKey iG key _ e1,p7 hb]
    ·obtain ⟨q1,q2⟩:=mk (aG.modify j λe=>{ e with key:=.string key,val:=v' }) clock (by simpa using e3)
     refine ⟨_,?_,q1,q2⟩
     have bA:aG[j]?=some en:=by simpa using e2
     have rB:Instr.sameBits 10000 (.string key) (.string key)=true:=by
      simp [Instr.sameBits,(MapKept.bytes_beq key key).2 rfl]
     have vZ:(Instr.keyThatStays (((aG[j]?).map (·.key)).getD (.string key)) (.string key)).run P w=.ok (.string key) w:=by
      rw [bA]
      simp [Instr.keyThatStays,vh,rB]
     simp only [Instr.mapUpdate,Sem.run_bind,run_underlying ht,Result.andThen_ok,run_getObj_map hb,run_checkKey _ iG,run_findKey iG key _ e1]
     simp only [Nat.zero_add,vZ,Result.andThen_ok,p7 hb]
   ·cases hi
 ·cases hi
theorem Xq (H:aL P ρ h w) {t kt et:TypeId} {kd:IntKind} {m m' k k' v v':Value} {h':ae} (ht:P.underlying t=some (.map kt et)) (hk:rM P kt=some kd)
  (hi:GM kd h m k v=some h') (hm:au ρ m m') (du:au ρ k k') (hv:au ρ v v'):∃w',(Instr.mapUpdate t m' k' v').run P w=.ok () w'/\aL P ρ h' w'/\Tr ρ h w ρ h' w':=by
 unfold GM at hi
 split at hi
 ·rename_i i tS key
  rw [du.iw]
  cases hm with
  | map hr=>
   rename_i r
   split at hi
   ·rename_i jt es he
    split at hi
    ·rename_i j4
     obtain ⟨rfl,rfl⟩:=j4
     simp at hi;subst hi
     obtain ⟨aG,clock,hb,q8⟩:=H.P6 hr he
     have iG:=R7 hk
     have fF:bH h i:=.inr (.inr (.inr (.inl ⟨_,es,he⟩)))
     have mk:∀(kO:Array MapEntry) (l9:Nat),jU jt ρ (mW key v es) kO.toList->aL P ρ (h.set i (.iK jt (mW key v es))) { w with heap:=w.heap.setIfInBounds r.aY (.map kO l9) }/\
       Tr ρ h w ρ (h.set i (.iK jt (mW key v es))) { w with heap:=w.heap.setIfInBounds r.aY (.map kO l9) }:=by
      intro kO l9 dD
      have sb:=iV.obj hb (.map kO l9)
      have:=dD.to
      exact H.set (o:=.iK jt (mW key v es)) hr fF sb ⟨kO,l9,sb.here,by simpa using this.1,by simpa using this.2⟩
     rcases aga q8 key hv clock 0 with ⟨e1,e2⟩ | ⟨u,j,e1,⟨en,e2,vh⟩,e3⟩
     ·obtain ⟨q1,q2⟩:=mk (aG.push { key:=.int jt key,val:=v',born:=clock }) (clock+1) (by simpa using e2)
      refine ⟨_,?_,q1,q2⟩
      simp [Instr.mapUpdate,run_underlying ht,run_getObj_map hb,B5 _ iG,B6 iG key _ e1,p7 hb]
     ·obtain ⟨q1,q2⟩:=mk (aG.modify j λe=>{ e with key:=.int jt key,val:=v' }) clock (by simpa using e3)
      refine ⟨_,?_,q1,q2⟩
      have bA:aG[j]?=some en:=by simpa using e2
      have rB:∀kd,Instr.sameBits 10000 (.int kd key) (.int kd key)=true:=by
       intro kd
       simp [Instr.sameBits]
      have vZ:(Instr.keyThatStays (((aG[j]?).map (·.key)).getD (.int jt key)) (.int jt key)).run P w=.ok (.int jt key) w:=by
       rw [bA]
       simp [Instr.keyThatStays,vh,rB]
      simp only [Instr.mapUpdate,Sem.run_bind,run_underlying ht,Result.andThen_ok,run_getObj_map hb,B5 _ iG,B6 iG key _ e1]
      simp only [Nat.zero_add,vZ,Result.andThen_ok,p7 hb]
    ·cases hi
   ·cases hi
 ·cases hi
theorem aoW (H:aL P ρ h w) (t:TypeId) (g:dZ):∃w' aq v',(Instr.makeMap t none).run P w=.ok v' w'/\au aq (.map (some h.length)) v'/\aL P aq (h++[.cp g 0 []]) w'/\Tr ρ h w aq (h++[.cp g 0 []]) w':=by
 have nb:=fV.alloc w (.map #[] 0)
 obtain ⟨q1,q2⟩:=H.new (h₀:=h) (o:=.cp g 0 []) (r:=⟨w.heap.size,0,0,P.cellsOf 0,0⟩) nb rfl rfl rfl (λ_=>.inl rfl) ⟨by simp,#[],nb.new,rfl,λj b k v hj=>by simp at hj⟩
 refine ⟨_,_,.map (some w.heap.size),?_,au.map (qz _ _ _),q1,q2⟩
 simp [Instr.makeMap]
theorem lZ.set {g:dZ} {c:Nat} {es:List (Nat×Value×Value)} {aG:Array MapEntry} (E:lZ ρ g es aG) {k v v':Value} (hk:dm g k=true) (hv:au ρ v v'):
  (jv k es=none->lZ ρ g (es++[(c,k,v)]) (aG.push { key:=k,val:=v',born:=c }))/\∀j b u,jv k es=some j->es[j]?=some (b,k,u)->lZ ρ g (es.modify j λe=>(e.1,k,v)) (aG.modify j λe=>{ e with key:=k,val:=v' }):=by
 constructor
 ·intro hp
  have cL:∀e∈es,e.2.1≠k:=by
   rcases BQ hk es with ⟨_,h2⟩ | ⟨j,e,h1,_⟩
   ·exact h2
   ·rw [hp] at h1;cases h1
  refine ⟨by simp [E.size],?_,?_⟩
  ·rw [List.map_append,List.nodup_append]
   refine ⟨E.nodup,by simp,?_⟩
   intro a ha b hb
   obtain ⟨e,he,rfl⟩:=List.mem_map.1 ha
   simp at hb
   subst hb
   exact cL e he
  ·intro j b k1 v1 hj
   by_cases ar:j<es.length
   ·rw [getElem?_append_left ar] at hj
    obtain ⟨g1,en,g2,g3⟩:=E.get j b k1 v1 hj
    exact ⟨g1,en,by rw [Array.getElem?_push_lt (by rw [E.size];exact ar)];rw [getElem?_eq_getElem (by rw [E.size];exact ar)] at g2;exact g2,g3⟩
   ·rw [getElem?_append_right (by omega)] at hj
    have pP:j=es.length:=by
     have:=(ba hj).1
     simp at this
     omega
    subst pP
    simp at hj
    obtain ⟨rfl,rfl,rfl⟩:=hj
    exact ⟨hk,{ key:=k,val:=v',born:=c },by rw [<-E.size];simp,rfl,rfl,hv⟩
 ·intro j b u hp hj
  have aht:((es.modify j λe=>(e.1,k,v)).map λe=>e.2.1)=es.map λe=>e.2.1:=by
   apply List.ext_getElem?
   intro i
   simp only [List.getElem?_map,List.getElem?_modify]
   by_cases fM:j=i
   ·subst fM;simp [hj]
   ·simp [fM]
  refine ⟨by simp [E.size],by rw [aht];exact E.nodup,?_⟩
  intro i b1 k1 v1 hi
  rw [List.getElem?_modify] at hi
  by_cases fM:j=i
  ·subst fM
   simp [hj] at hi
   obtain ⟨rfl,rfl,rfl⟩:=hi
   obtain ⟨g1,en,g2,g3,g4,_⟩:=E.get j b k u hj
   refine ⟨hk,{ en with key:=k,val:=v' },?_,rfl,g4,hv⟩
   rw [Array.getElem?_modify]
   simp [g2]
  ·simp [fM] at hi
   obtain ⟨g1,en,g2,g3⟩:=E.get i b1 k1 v1 hi
   refine ⟨g1,en,?_,g3⟩
   rw [Array.getElem?_modify]
   simp [fM,g2]
theorem Xp (H:aL P ρ h w) {t:TypeId} {g:dZ} {m m' k k' v v':Value} {h':ae} (hg:lH P t=some g)
  (hi:tM g h m k v=some h') (hm:au ρ m m') (du:au ρ k k') (hv:au ρ v v'):∃w',(Instr.mapUpdate t m' k' v').run P w=.ok () w'/\aL P ρ h' w'/\Tr ρ h w ρ h' w':=by
 obtain ⟨kt,et,ht,L⟩:=At hg
 unfold tM at hi
 split at hi
 ·rename_i i
  cases hm with
  | map hr=>
   rename_i r
   split at hi
   ·rename_i g' c es he
    split at hi
    ·rename_i j4
     obtain ⟨rfl,hk,_⟩:=j4
     simp at hi;subst hi
     rw [du.key hk]
     obtain ⟨aG,hb,E⟩:=H.sW hr he
     have fF:bH h i:=.inr (.inr (.inr (.inr (.inl ⟨_,_,es,he⟩))))
     obtain ⟨S1,S2⟩:=E.set (c:=c) hk hv
     rcases JO (w:=w) L E hk with ⟨⟨e1,_⟩,e2⟩ | ⟨j,b,u,en,e1,e2,e3,e4,e5,e6,e7⟩
     ·have E':=S1 e1
      have sb:=iV.obj hb (.map (aG.push { key:=k,val:=v',born:=c }) (c+1))
      have kZ:nU c k v es=es++[(c,k,v)]:=by simp [nU,e1]
      have FZ:ny c k es=c+1:=by simp [ny,e1]
      obtain ⟨q1,q2⟩:=H.set (o:=.cp g' (ny c k es) (nU c k v es)) hr fF sb (by rw [kZ,FZ];exact ⟨E'.nodup,_,sb.here,E'.size,E'.get⟩)
      refine ⟨_,?_,q1,q2⟩
      simp [Instr.mapUpdate,run_underlying ht,run_getObj_map hb,L.check w _ k hk,e2,p7 hb]
     ·have E':=S2 j b u e1 e2
      have sb:=iV.obj hb (.map (aG.modify j λe=>{ e with key:=k,val:=v' }) c)
      have kZ:nU c k v es=es.modify j λe=>(e.1,k,v):=by simp [nU,e1]
      have FZ:ny c k es=c:=by simp [ny,e1]
      obtain ⟨q1,q2⟩:=H.set (o:=.cp g' (ny c k es) (nU c k v es)) hr fF sb (by rw [kZ,FZ];exact ⟨E'.nodup,_,sb.here,E'.size,E'.get⟩)
      refine ⟨_,?_,q1,q2⟩
      have vZ:(Instr.keyThatStays (((aG[j]?).map (·.key)).getD k) k).run P w=.ok k w:=by
       rw [e3]
       simp [e4,L.stays w k hk]
      simp only [Instr.mapUpdate,Sem.run_bind,run_underlying ht,Result.andThen_ok,run_getObj_map hb,L.check w _ k hk,e7]
      simp only [vZ,Result.andThen_ok,p7 hb]
    ·cases hi
   ·cases hi
 ·cases hi
theorem lZ.era {g:dZ} {es:List (Nat×Value×Value)} {aG:Array MapEntry} (E:lZ ρ g es aG) {j:Nat} (hj:j<es.length):lZ ρ g (es.eraseIdx j) (aG.eraseIdxIfInBounds j):=by
 have ar:j<aG.size:=by rw [E.size];exact hj
 have he:aG.eraseIdxIfInBounds j=aG.eraseIdx j ar:=by simp [Array.eraseIdxIfInBounds,ar]
 rw [he]
 refine ⟨by rw [Array.size_eraseIdx,List.length_eraseIdx,if_pos hj,E.size],?_,?_⟩
 ·refine List.Nodup.sublist ?_ E.nodup
  exact (List.eraseIdx_sublist _ _).map _
 ·intro i b k v hi
  rw [List.getElem?_eraseIdx] at hi
  split at hi
  ·rename_i fM
   obtain ⟨g1,en,g2,g3⟩:=E.get i b k v hi
   exact ⟨g1,en,by rw [Array.getElem?_eraseIdx,if_pos fM];exact g2,g3⟩
  ·rename_i fM
   obtain ⟨g1,en,g2,g3⟩:=E.get (i+1) b k v hi
   exact ⟨g1,en,by rw [Array.getElem?_eraseIdx,if_neg fM];exact g2,g3⟩
theorem aoJ (H:aL P ρ h w) {t ty:TypeId} {ts:Array TypeId} {g:dZ} {m m' k k':Value} {h':ae} (Rw:ts[0]?=some t) (hg:lH P t=some g)
  (hi:GH g h m k=some h') (hm:au ρ m m') (du:au ρ k k'):∃w',(Builtin.delete_ ts ty #[m',k']).run P w=.ok (.tuple #[]) w'/\aL P ρ h' w'/\Tr ρ h w ρ h' w':=by
 obtain ⟨kt,et,ht,L⟩:=At hg
 unfold GH at hi
 split at hi
 ·rename_i i
  cases hm with
  | map hr=>
   rename_i r
   split at hi
   ·rename_i g' c es he
    split at hi
    ·rename_i j4
     obtain ⟨rfl,hk⟩:=j4
     simp at hi;subst hi
     rw [du.key hk]
     obtain ⟨aG,hb,E⟩:=H.sW hr he
     have fF:bH h i:=.inr (.inr (.inr (.inr (.inl ⟨_,_,es,he⟩))))
     rcases JO (w:=w) L E hk with ⟨⟨e1,_⟩,e2⟩ | ⟨j,b,u,en,e1,e2,e3,e4,e5,e6,e7⟩
     ·have sb:=iV.obj hb (.map aG c)
      have kZ:qM k es=es:=by simp [qM,e1]
      obtain ⟨q1,q2⟩:=H.set (o:=.cp g' c (qM k es)) hr fF sb (by rw [kZ];exact ⟨E.nodup,_,sb.here,E.size,E.get⟩)
      refine ⟨_,?_,q1,q2⟩
      simp [Builtin.delete_,Rw,run_underlying ht,run_getObj_map hb,L.check w _ k hk,e2,p7 hb]
     ·have E':=E.era (ba e2).1
      have sb:=iV.obj hb (.map (aG.eraseIdxIfInBounds j) c)
      have kZ:qM k es=es.eraseIdx j:=by simp [qM,e1]
      obtain ⟨q1,q2⟩:=H.set (o:=.cp g' c (qM k es)) hr fF sb (by rw [kZ];exact ⟨E'.nodup,_,sb.here,E'.size,E'.get⟩)
      refine ⟨_,?_,q1,q2⟩
      simp [Builtin.delete_,Rw,run_underlying ht,run_getObj_map hb,L.check w _ k hk,e7,p7 hb]
    ·cases hi
   ·cases hi
 ·cases hi
theorem ao0 (H:aL P ρ h w) {t:TypeId} {g:dZ} {x x' v:Value} {h':ae} (hg:lH P t=some g) (hi:tO h x=some (v,h')) (hx:au ρ x x'):
  ∃w' aq v',(Instr.range t x').run P w=.ok v' w'/\au aq v v'/\aL P aq h' w'/\Tr ρ h w aq h' w':=by
 obtain ⟨kt,et,ht,L⟩:=At hg
 unfold tO at hi
 split at hi
 ·rename_i i
  cases hx with
  | map hr=>
   rename_i r
   split at hi
   ·rename_i g' c es he
    simp at hi
    obtain ⟨rfl,rfl⟩:=hi
    obtain ⟨aG,hb,E⟩:=H.sW hr he
    have nb:=fV.alloc w (.mapIter (some r.aY) c #[] c)
    have aU:i≠h.length:=by
     have:=(ba he).1
     omega
    obtain ⟨q1,q2⟩:=H.new (h₀:=h) (o:=.iter i c [] c) (r:=⟨w.heap.size,0,0,P.cellsOf 0,0⟩) nb rfl rfl rfl (λ_=>.inl rfl)
     ⟨rfl,r,by simp [aD.add,aU,hr],nb.new⟩
    refine ⟨_,_,.pointer (some ⟨w.heap.size,0,none⟩),?_,?_,q1,q2⟩
    ·simp [Instr.range,run_underlying ht,run_getObj_map hb,newObj,Sem.run,Result.andThen]
    ·exact au.ptr (o:=0) (qz _ _ _)
   ·cases hi
 ·cases hi
theorem gC.val {v v':Value} {h':ae} {s:Result Next} {w':World} {aq:aD} (e:s=.ok (.value v') w') (a:au aq v v') (b:aL P aq h' w') (c:Tr ρ h w aq h' w'):gC P ρ h w v h' s:=
 ⟨_,_,_,_,e,.inl rfl,a,b,c⟩
theorem gC.skip {h':ae} {s:Result Next} {w':World} (e:s=.ok .skip w') (b:aL P ρ h' w') (c:Tr ρ h w ρ h' w'):gC P ρ h w undef h' s:=
 ⟨_,_,_,_,e,.inr ⟨rfl,rfl⟩,au.undef _,b,c⟩
theorem afQ {o:Oper} {eo:kn} {g g':Operand->Value} (hc:fc P o.op=some eo) (aC:o.op.operands.all fP=true) (H:aL P ρ h w)
  (hg:∀x,fP x=true->au ρ (g x) (g' x)) {v:Value} {h':ae} (hi:dY eo g h=some (v,h')):gC P ρ h w v h' ((execOp g' o).run P w):=by
 cases ho:o.op with
 | store t a x=>
  rw [ho] at hc aC
  simp [Op.operands] at aC
  simp only [fc] at hc
  split at hc
  ·rename_i hk
   simp at hc;subst hc
   simp only [dY,map_eq_some_iff,Prod.mk.injEq] at hi
   obtain ⟨aJ,hi,rfl,rfl⟩:=hi
   obtain ⟨w',q1,q2,q3⟩:=ao3 H hk hi (hg a aC.1) (hg x aC.2)
   exact gC.skip (w':=w') (by simp [execOp,ho,q1]) q2 q3
  ·cases hc
 | box e x=>
  rw [ho] at hc aC
  simp [Op.operands] at aC
  simp [fc] at hc;subst hc
  obtain ⟨w',aq,v',q1,q2,q3,q4⟩:=aoF H hi (hg x aC)
  exact gC.val (v':=v') (w':=w') (by simp [execOp,ho,q1]) q2 q3 q4
 | alloc e=>
  rw [ho] at hc
  simp only [fc,map_eq_some_iff] at hc
  obtain ⟨zs,hz,rfl⟩:=hc
  simp [dY] at hi
  obtain ⟨rfl,rfl⟩:=hi
  obtain ⟨w',aq,v',q1,q2,q3,q4⟩:=aoB H hz
  exact gC.val (v':=v') (w':=w') (by simp [execOp,ho,q1]) q2 q3 q4
 | buildSlice t n ps=>
  rw [ho] at hc aC
  simp only [fc] at hc
  simp only [Op.operands] at aC
  split at hc
  ·rename_i e ht
   split at hc
   ·rename_i zs hz
    split at hc
    ·rename_i hb
     simp at hc;subst hc
     have hq:∀q∈ps.toList,fP q.2=true:=by
      intro q hm
      rw [Array.all_eq_true'] at aC
      exact aC q.2 (by simp;exact ⟨q.1,by simpa using hm⟩)
     have hp:=I8 hg (λi=>(i*P.cellsOf e,P.cellsOf e)) ps.toList hq
     obtain ⟨w',aq,v',q1,q2,q3,q4⟩:=aoY H ht hz hb.1 hb.2 (qs:=ps.map λ(i,x)=>(i,g' x)) (by simpa using hp) hi
     exact gC.val (v':=v') (w':=w') (by simp [execOp,ho,q1]) q2 q3 q4
    ·cases hc
   ·cases hc
  ·cases hc
 | makeSlice t l c=>
  rw [ho] at hc aC
  simp [Op.operands] at aC
  simp only [fc] at hc
  split at hc
  ·rename_i e ht
   split at hc
   ·rename_i zs hz
    simp at hc;subst hc
    obtain ⟨w',aq,v',q1,q2,q3,q4⟩:=aoU H ht hz hi (hg l aC.1) (hg c aC.2)
    exact gC.val (v':=v') (w':=w') (by simp [execOp,ho,q1]) q2 q3 q4
   ·cases hc
  ·cases hc
 | range t x=>
  rw [ho] at hc aC
  simp [Op.operands] at aC
  simp only [fc,map_eq_some_iff] at hc
  obtain ⟨g,gQ,rfl⟩:=hc
  obtain ⟨w',aq,v',q1,q2,q3,q4⟩:=ao0 H gQ hi (hg x aC)
  exact gC.val (v':=v') (w':=w') (by simp [execOp,ho,q1]) q2 q3 q4
 | next it b=>
  rw [ho] at hc
  cases b with
  | false=>simp [fc] at hc;subst hc;simp [dY] at hi
  | true=>simp [fc] at hc
 | makeMap t r=>
  rw [ho] at hc
  cases r with
  | none=>
   cases gQ:lH P t with
   | some g=>
    simp only [fc,gQ,Option.some.injEq] at hc
    subst hc
    simp [dY] at hi
    obtain ⟨rfl,rfl⟩:=hi
    obtain ⟨w',aq,v',q1,q2,q3,q4⟩:=aoW H t g
    exact gC.val (v':=v') (w':=w') (by simp [execOp,ho,q1]) q2 q3 q4
   | none=>
   have two:eo=.mkMap∨∃kd,eo=.Bj kd:=by
    simp only [fc,gQ] at hc
    split at hc
    ·split at hc
     ·simp at hc;exact .inr ⟨_,hc.symm⟩
     ·simp at hc;exact .inl hc.symm
    ·simp at hc;exact .inl hc.symm
   rcases two with rfl | ⟨kd,rfl⟩
   ·simp [dY] at hi
    obtain ⟨rfl,rfl⟩:=hi
    obtain ⟨w',aq,v',q1,q2,q3,q4⟩:=aoV H t
    exact gC.val (v':=v') (w':=w') (by simp [execOp,ho,q1]) q2 q3 q4
   ·simp [dY] at hi
    obtain ⟨rfl,rfl⟩:=hi
    obtain ⟨w',aq,v',q1,q2,q3,q4⟩:=aoX H t kd
    exact gC.val (v':=v') (w':=w') (by simp [execOp,ho,q1]) q2 q3 q4
  | some r=>simp [fc] at hc
 | mapUpdate t m k x=>
  rw [ho] at hc aC
  simp [Op.operands] at aC
  simp only [fc] at hc
  split at hc
  ·rename_i g gQ
   simp at hc;subst hc
   simp only [dY,map_eq_some_iff,Prod.mk.injEq] at hi
   obtain ⟨aJ,hi,rfl,rfl⟩:=hi
   obtain ⟨w',q1,q2,q3⟩:=Xp H gQ hi (hg m aC.1) (hg k aC.2.1) (hg x aC.2.2)
   exact gC.skip (w':=w') (by simp [execOp,ho,q1]) q2 q3
  split at hc
  ·rename_i kt et ht
   split at hc
   ·rename_i hk
    simp at hc;subst hc
    simp only [dY,map_eq_some_iff,Prod.mk.injEq] at hi
    obtain ⟨aJ,hi,rfl,rfl⟩:=hi
    obtain ⟨w',q1,q2,q3⟩:=Xo H ht hk hi (hg m aC.1) (hg k aC.2.1) (hg x aC.2.2)
    exact gC.skip (w':=w') (by simp [execOp,ho,q1]) q2 q3
   ·simp only [map_eq_some_iff] at hc
    obtain ⟨kd,j4,rfl⟩:=hc
    simp only [dY,map_eq_some_iff,Prod.mk.injEq] at hi
    obtain ⟨aJ,hi,rfl,rfl⟩:=hi
    obtain ⟨w',q1,q2,q3⟩:=Xq H ht j4 hi (hg m aC.1) (hg k aC.2.1) (hg x aC.2.2)
    exact gC.skip (w':=w') (by simp [execOp,ho,q1]) q2 q3
  ·cases hc
 | insert t m k x=>
  rw [ho] at hc aC
  simp [Op.operands] at aC
  simp only [fc] at hc
  split at hc
  ·rename_i g gQ
   simp at hc;subst hc
   simp only [dY,map_eq_some_iff,Prod.mk.injEq] at hi
   obtain ⟨aJ,hi,rfl,rfl⟩:=hi
   obtain ⟨w',q1,q2,q3⟩:=Xp H gQ hi (hg m aC.1) (hg k aC.2.1) (hg x aC.2.2)
   exact gC.skip (w':=w') (by simp [execOp,ho,q1]) q2 q3
  split at hc
  ·rename_i kt et ht
   split at hc
   ·rename_i hk
    simp at hc;subst hc
    simp only [dY,map_eq_some_iff,Prod.mk.injEq] at hi
    obtain ⟨aJ,hi,rfl,rfl⟩:=hi
    obtain ⟨w',q1,q2,q3⟩:=Xo H ht hk hi (hg m aC.1) (hg k aC.2.1) (hg x aC.2.2)
    exact gC.skip (w':=w') (by simp [execOp,ho,q1]) q2 q3
   ·simp only [map_eq_some_iff] at hc
    obtain ⟨kd,j4,rfl⟩:=hc
    simp only [dY,map_eq_some_iff,Prod.mk.injEq] at hi
    obtain ⟨aJ,hi,rfl,rfl⟩:=hi
    obtain ⟨w',q1,q2,q3⟩:=Xq H ht j4 hi (hg m aC.1) (hg k aC.2.1) (hg x aC.2.2)
    exact gC.skip (w':=w') (by simp [execOp,ho,q1]) q2 q3
  ·cases hc
 | call c=>
  rw [ho] at hc aC
  obtain ⟨callee,args,argTypes⟩:=c
  cases callee with
  | builtin b=>
   cases b with
   | append=>
    simp only [fc] at hc
    split at hc
    ·rename_i s x t t' hx rC
     obtain rfl:args=#[s,x]:=ext' hx
     obtain rfl:argTypes=#[t,t']:=ext' rC
     simp [Op.operands,Call.operands] at aC
     split at hc
     ·rename_i hte
      subst hte
      split at hc
      ·rename_i e ht
       split at hc
       ·rename_i zs hz
        simp at hc;subst hc
        obtain ⟨w',aq,v',q1,q2,q3,q4⟩:=aoC (type:=o.type) H ht hz hi (hg s aC.1) (hg x aC.2)
        exact gC.val (v':=v') (w':=w') (by simp [execOp,ho,resolve,invoke,builtin,q1]) q2 q3 q4
       ·cases hc
      ·cases hc
     ·cases hc
    ·cases hc
   | copy=>
    simp only [fc] at hc
    split at hc
    ·rename_i d x t t' hx rC
     obtain rfl:args=#[d,x]:=ext' hx
     obtain rfl:argTypes=#[t,t']:=ext' rC
     simp [Op.operands,Call.operands] at aC
     split at hc
     ·rename_i e ht
      split at hc
      ·rename_i hz
       simp at hc;subst hc
       obtain ⟨w',q1,q2,q3,q4⟩:=aoI (tt:=t') (type:=o.type) H ht hz hi (hg d aC.1) (hg x aC.2)
       exact gC.val (v':=v) (w':=w') (by simp [execOp,ho,resolve,invoke,builtin,q1]) q2 q3 q4
      ·cases hc
     ·cases hc
    ·cases hc
   | delete=>
    simp only [fc] at hc
    split at hc
    ·rename_i m k t hx rC
     obtain rfl:args=#[m,k]:=ext' hx
     simp [Op.operands,Call.operands] at aC
     simp only [map_eq_some_iff] at hc
     obtain ⟨g,gQ,rfl⟩:=hc
     simp only [dY,map_eq_some_iff,Prod.mk.injEq] at hi
     obtain ⟨aJ,hi,rfl,rfl⟩:=hi
     obtain ⟨w',q1,q2,q3⟩:=aoJ (ty:=o.type) H rC gQ hi (hg m aC.1) (hg k aC.2)
     exact gC.val (v':=.tuple #[]) (w':=w') (by simp [execOp,ho,resolve,invoke,builtin,q1]) (au.undef _) q2 q3
    ·cases hc
   | _=>simp [fc] at hc
  | _=>simp [fc] at hc
 | panic x=>rw [ho] at hc;simp [fc] at hc;subst hc;simp [dY] at hi
 | makeInterface t x=>rw [ho] at hc;simp [fc] at hc;subst hc;simp [dY] at hi
 | _=>rw [ho] at hc;simp [fc] at hc
end
end
section
inductive eI where
 | p (o:kM)
 | l (o:kr)
 | e (o:kn)
 | call (f:FuncId) (args:List Operand)
 | hK (x:Operand) (args:List Operand)
structure ft where
 dst:Option Nat
 op:eI
 guard:Option (Nat×Bool)
structure fC where
 dst:Option Nat
 op:eI
structure bQ where
 op:ft
 pre:Nat
structure gD where
 dst:Option Nat
 op:eI
 pre:Nat
inductive dc where
 | skip
 | Ad (l:List (Option (Nat×Bool)×List gD))
 | ops (g:Option (Nat×Bool)) (l:List fC)
 | seq (a b:dc)
 | cut (ls:List Nat) (c:dc)
 | cond (c:Operand) (a b:dc)
 | block (id:Nat) (c:dc)
 | loop (ks ls:List Nat) (c:dc)
 | exit (id:Nat)
 | ret
 | range (g:Operand) (ls:List Nat) (c:uP)
abbrev FR (R:Option Nat):Fence:={ Fence.wide with round:=R }
def px (P:Program) (F:FuncId) (args:List Value) (h:ae) (v:Value) (h':ae):Prop:=
 ∀(ρ:aD) (args':Array Value) (w:World),bg ρ args args'.toList->aL P ρ h w->
  Calls P F args' w λe w'=>∃v' aq,e=.returned v'/\au aq v v'/\aL P aq h' w'/\Tr ρ h w aq h' w'
def lN (P:Program) (F:FuncId) (args:List Value) (h:ae) (K:Value->ae->Prop):Prop:=∃v h',px P F args h v h'/\K v h'
theorem lN.mono {P:Program} {F:FuncId} {args:List Value} {h:ae} {K K':Value->ae->Prop} (hc:lN P F args h K) (hk:∀v h',K v h'->K' v h'):lN P F args h K':=
 let ⟨v,h',a,b⟩:=hc;⟨v,h',a,hk v h' b⟩
def CM (P:Program) (i:Nat) (args:List Value) (h:ae) (v:Value) (h':ae):Prop:=
 ∀(ρ:aD) (r:RI) (args':Array Value) (w:World),ρ i=some r->bg ρ args args'.toList->aL P ρ h w->
  ∃fn tmps gE body,(Instr.yield r.aY args').run P w=.ok (.round r.aY fn tmps gE body) w/\
   RoundIn Fence.wide 0 P r.aY fn tmps gE body w λe w'=>∃v' aq,e=.returned v'/\au aq v v'/\aL P aq h' w'/\Tr ρ h w aq h' w'
def wA (P:Program) (i:Nat) (args:List Value) (h:ae) (K:Value->ae->Prop):Prop:=∃v h',CM P i args h v h'/\K v h'
theorem wA.mono {P:Program} {i:Nat} {args:List Value} {h:ae} {K K':Value->ae->Prop} (hc:wA P i args h K) (hk:∀v h',K v h'->K' v h'):wA P i args h K':=
 let ⟨v,h',a,b⟩:=hc;⟨v,h',a,hk v h' b⟩
def nu (P:Program) (f:FuncId):Bool:=
 match P.funcs[f]? with
 | some fn=>fn.name != "runtime.NumGoroutine" &&fn.body.isSome
 | none=>false
def dK (o:Option Value) (K:Value->Prop):Prop:=
 match o with
 | some v=>K v
 | none=>False
def jc (o:Option (Value×ae)) (K:Value->ae->Prop):Prop:=
 match o with
 | some (v,h')=>K v h'
 | none=>False
def nv (P:Program) (x:Value) (args:List Value) (h:ae) (K:Value->ae->Prop):Prop:=
 match x with
 | .func (.func g) first cap=>nu P g=true/\lN P g (first.toList++args++cap.toList) h K
 | .func (.yield i) first cap=>(first=#[]/\cap=#[])/\wA P i args h K
 | _=>False
def nT (P:Program) (g:Value) (ls:List Nat) (vs:List Value) (c:uP) (h:ae) (K:ae->Prop):Prop:=
 match g with
 | .func (.func F) first cap=>nu P F=true/\lN P F (first.toList++[.func (.yield h.length) #[] #[]]++cap.toList) (h++[.loop c ls vs]) λ_ h'=>
   (∃c' Sr fU,h'[h.length]?=some (.loop c' Sr fU))/\K (h'.set h.length .dead)
 | _=>False
def bY (P:Program) (o:eI) (f:Nat->Value) (h:ae) (K:Value->ae->Prop):Prop:=
 match o with
 | .p o=>dK (fH o (ev f)) λv=>K v h
 | .l o=>dK (dJ o (ev f) h) λv=>K v h
 | .e o=>jc (dY o (ev f) h) K
 | .call g args=>lN P g (args.map (ev f)) h K
 | .hK x args=>nv P (ev f x) (args.map (ev f)) h K
def lp (v:Value) (b:Bool):Bool:=
 match v with
 | .bool c=>c==b
 | _=>false
def oU:Value->Bool
 | .complex _ _ _=>true
 | _=>false
def fq (g:Option (Nat×Bool)) (f:Nat->Value):Bool:=
 match g with
 | none=>true
 | some (s,b)=>lp (f s) b
def gO (v:Value) (b:Bool) (A B:Prop):Prop:=
 match v with
 | .bool c=>if (c==b)=true then A else B
 | .complex _ _ _=>False
 | _=>B
def ck (f:Nat->Value) (d:Option Nat) (v:Value):Nat->Value:=
 match d with
 | some d=>qb f d v
 | none=>f
def mQ (P:Program):List ft->((Nat->Value)->ae->Prop)->(Nat->Value)->ae->Prop
 | [],K,f,h=>K f h
 | o::os,K,f,h=>
  match o.guard with
  | none=>bY P o.op f h λv h'=>mQ P os K (ck f o.dst v) h'
  | some (s,b)=>gO (f s) b (bY P o.op f h λv h'=>mQ P os K (ck f o.dst v) h') (mQ P os K (ck f o.dst undef) h)
def pI (P:Program):List fC->((Nat->Value)->ae->Prop)->(Nat->Value)->ae->Prop
 | [],K,f,h=>K f h
 | o::os,K,f,h=>bY P o.op f h λv h'=>pI P os K (ck f o.dst v) h'
def uv:List fC->(Nat->Value)->(Nat->Value)
 | [],f=>f
 | o::os,f=>uv os (ck f o.dst undef)
def mU (P:Program) (g:Option (Nat×Bool)) (l:List fC) (K:(Nat->Value)->ae->Prop) (f:Nat->Value) (h:ae):Prop:=
 match g with
 | none=>pI P l K f h
 | some (s,b)=>gO (f s) b (pI P l K f h) (K (uv l f) h)
def eI.cj:eI->Bool
 | .p _=>false
 | .l _=>false
 | _=>true
abbrev cX:=List (Nat×kr×(Nat->Value)×Value)
def pA (pre:Nat) (lo:kr) (f:Nat->Value) (v:Value):List (Nat×ae)->Prop
 | []=>True
 | (e,H)::r=>if pre.testBit e=true then pA pre lo f v r else dJ lo (ev f) H=some v/\pA pre lo f v r
def ik (pre:Nat) (H:ae):cX->Prop
 | []=>True
 | (j,lo,f,v)::r=>if pre.testBit j=true then ik pre H r else dJ lo (ev f) H=some v/\ik pre H r
def hO (P:Program) (io:eI) (pre j:Nat) (aE:List (Nat×ae)) (aB:cX) (f:Nat->Value) (h:ae) (next:List (Nat×ae)->cX->Value->ae->Prop):Prop:=
 match io with
 | .p po=>dK (fH po (ev f)) λv=>next aE aB v h
 | .l lo=>dK (dJ lo (ev f) h) λv=>pA pre lo f v aE/\next aE (aB++[(j,lo,f,v)]) v h
 | .e (.fl a)=>jc (dY (.fl a) (ev f) h) λv h'=>dK (cF h' v) λu=>ik pre h' aB/\next (aE++[(j,h)]) (aB++[(j,.obj (.const v),f,u)]) v h'
 | .e eo=>jc (dY eo (ev f) h) λv h'=>ik pre h' aB/\next (aE++[(j,h)]) aB v h'
 | .call g args=>lN P g (args.map (ev f)) h λv h'=>ik pre h' aB/\next (aE++[(j,h)]) aB v h'
 | .hK x args=>nv P (ev f x) (args.map (ev f)) h λv h'=>ik pre h' aB/\next (aE++[(j,h)]) aB v h'
def pD (io:eI) (pre j:Nat) (aE:List (Nat×ae)) (aB:cX) (h:ae) (next:List (Nat×ae)->cX->Value->ae->Prop):Prop:=
 match io.cj with
 | false=>next aE aB undef h
 | true=>ik pre h aB/\next (aE++[(j,h)]) aB undef h
def hT (P:Program):List bQ->Nat->List (Nat×ae)->cX->((Nat->Value)->ae->Prop)->(Nat->Value)->ae->Prop
 | [],_,_,_,K,f,h=>K f h
 | o::os,j,aE,aB,K,f,h=>
  match o.op.guard with
  | none=>hO P o.op.op o.pre j aE aB f h λaE aB v h'=>hT P os (j+1) aE aB K (ck f o.op.dst v) h'
  | some (s,b)=>
   gO (f s) b (hO P o.op.op o.pre j aE aB f h λaE aB v h'=>hT P os (j+1) aE aB K (ck f o.op.dst v) h')
    (pD o.op.op o.pre j aE aB h λaE aB v h'=>hT P os (j+1) aE aB K (ck f o.op.dst v) h')
def j1 (P:Program):List gD->Nat->List (Nat×ae)->cX->(List (Nat×ae)->cX->(Nat->Value)->ae->Prop)->(Nat->Value)->ae->Prop
 | [],_,aE,aB,K,f,h=>K aE aB f h
 | o::os,j,aE,aB,K,f,h=>hO P o.op o.pre j aE aB f h λaE aB v h'=>j1 P os (j+1) aE aB K (ck f o.dst v) h'
def oC:List gD->Nat->List (Nat×ae)->cX->(List (Nat×ae)->cX->(Nat->Value)->ae->Prop)->(Nat->Value)->ae->Prop
 | [],_,aE,aB,K,f,h=>K aE aB f h
 | o::os,j,aE,aB,K,f,h=>pD o.op o.pre j aE aB h λaE aB v h'=>oC os (j+1) aE aB K (ck f o.dst v) h'
def jH (P:Program):List (Option (Nat×Bool)×List gD)->Nat->List (Nat×ae)->cX->((Nat->Value)->ae->Prop)->(Nat->Value)->ae->Prop
 | [],_,_,_,K,f,h=>K f h
 | (none,l)::gs,j,aE,aB,K,f,h=>j1 P l j aE aB (λaE aB f h=>jH P gs (j+l.length) aE aB K f h) f h
 | (some (s,b),l)::gs,j,aE,aB,K,f,h=>
  gO (f s) b (j1 P l j aE aB (λaE aB f h=>jH P gs (j+l.length) aE aB K f h) f h)
   (oC l j aE aB (λaE aB f h=>jH P gs (j+l.length) aE aB K f h) f h)
def aH (next:(Nat->Value)->ae->Prop) (K:Exit->(Nat->Value)->ae->Prop):Exit->(Nat->Value)->ae->Prop
 | .normal,f,h=>next f h
 | e,f,h=>K e f h
def bk (id:Nat) (K:Exit->(Nat->Value)->ae->Prop):Exit->(Nat->Value)->ae->Prop
 | .exit i,f,h=>if i=id then K .normal f h else K (.exit i) f h
 | e,f,h=>K e f h
def kz (c:Value) (a b:Prop):Prop:=
 match c with
 | .bool t=>if t=true then a else b
 | _=>False
def sV (Q:(Nat->Value)->ae->Prop) (ls:List Nat) (vs:List Value) (h:ae):Prop:=Q (gI ls vs) h
def rQ (init:List Value) (h:ae) (Q:(List Value->ae->Prop)->List Value->ae->Prop):Prop:=
 ∃(J:List Value->ae->Prop) (μ:List Value->ae->Nat),J init h/\∀(xs:List Value) (hx:ae),J xs hx->Q (λys hy=>J ys hy/\μ ys hy<μ xs hx) xs hx
abbrev aj:=Exit->(Nat->Value)->ae->Prop
noncomputable def fx (P:Program) (c:dc):aj->(Nat->Value)->ae->Prop:=
 dc.rec (motive:=λ_=>aj->(Nat->Value)->ae->Prop)
  (λK f h=>K .normal f h)
  (λl K f h=>jH P l 0 [] [] (K .normal) f h)
  (λg l K f h=>mU P g l (K .normal) f h)
  (λ_ _ ia ib K f h=>ia (aH (ib K) K) f h)
  (λls _ ic K f h=>sV (ic K) ls (ls.map f) h)
  (λc _ _ ia ib K f h=>kz (ev f c) (ia K f h) (ib K f h))
  (λid _ ic K f h=>ic (bk id K) f h)
  (λks ls _ ic K f h=>rQ (ls.map f) h λL xs hx=>ic (aH (λf' aJ=>ks.map f'=ks.map f/\L (ls.map f') aJ) K) (gI (ks++ls) (ks.map f++xs)) hx)
  (λid K f h=>K (.exit id) f h)
  (λK f h=>K .ret f h)
  (λg ls c K f h=>nT P (ev f g) ls (ls.map f) c h (K .normal f)) c
theorem Sb {P:Program} {c:Operand} {a b:dc} {K:aj} {f:Nat->Value} {h:ae}:fx P (.cond c a b) K f h=kz (ev f c) (fx P a K f h) (fx P b K f h):=rfl
def oq (P:Program) (op:Op):Option eI:=
 match fu P op with
 | some o=>some (.p o)
 | none=>match oh P op with
  | some o=>some (.l o)
  | none=>match fc P op with
   | some o=>some (.e o)
   | none=>match op with
    | .call { callee:=.value (.func f),args,.. }=>if nu P f then some (.call f args.toList) else none
    | .call { callee:=.value x,args,.. }=>some (.hK x args.toList)
    | _=>none
def zV (N:Nat) (ops:Array Oper):Option (Nat×Bool)->Option (Option (Nat×Bool))
 | none=>some none
 | some (j,b)=>match (ops[j]?).bind (·.dst) with
  | some s=>if s<N then some (some (s,b)) else none
  | none=>none
def qK (P:Program) (N:Nat) (ops:Array Oper) (o:Oper):Option ft:=
 if o.op.operands.all fP&&o.dst.all (·<N) then
  match oq P o.op,zV N ops o.guard with
  | some op,some g=>some ⟨o.dst,op,g⟩
  | _,_=>none
 else none
def iq (P:Program) (N:Nat) (ops:Array Oper):List Oper->Option (List ft)
 | []=>some []
 | o::os=>match qK P N ops o,iq P N ops os with
  | some x,some xs=>some (x::xs)
  | _,_=>none
def kM.eO:kM->List Operand
 | .mv x | .un _ x | .conv _ x | .cM x | .JC x | .G8 x | .G9 x | .gM _ x | .Fx _ _ _ x | .Hu x | .ext x _=>[x]
 | .pick c a b=>[c,a,b]
 | .bin _ x y | .Ah _ x y | .Ai _ x y | .GS x y | .GQ _ _ _ x y | .Ej _ x y | .Ei _ _ x y=>[x,y]
 | .Ba _=>[]
 | .wE _ xs=>xs
 | .Cb x lo hi=>x::(lo.toList++hi.toList)
 | .Cd _ _ x lo hi=>x::(lo.toList++hi.toList)
 | .fn _ first captured=>first++captured
 | .build _ parts=>parts.map (·.2.2)
 | .GR f x c=>[.func f,x,c]
def kr.eO:kr->List Operand
 | .load _ _ a=>[a]
 | .qC x=>[x]
 | .lookup _ _ m k=>[m,k]
 | .Bg _ _ _ m k=>[m,k]
 | .Be _ _ _ m k=>[m,k]
 | .entry it=>[it]
 | .obj x=>[x]
def iT.eO:iT->List Operand
 | .alloc _ _=>[]
 | .ju _ _ _ parts=>parts.map (·.2.2)
 | .make _ _ _ l c=>[l,c]
 | .kf _=>[]
def kn.eO:kn->List Operand
 | .fl a=>a.eO
 | .store _ a v=>[a,v]
 | .box _ x=>[x]
 | .alloc _ _=>[]
 | .ju _ _ _ parts=>parts.map (·.2.2)
 | .make _ _ _ l c=>[l,c]
 | .app _ _ _ s x=>[s,x]
 | .mkMap=>[]
 | .Bj _=>[]
 | .die=>[]
 | .kf _=>[]
 | .Hm _ m k v=>[m,k,v]
 | .E8 _ m k=>[m,k]
 | .JD x=>[x]
 | .next it=>[it]
 | .Hn _ m k v=>[m,k,v]
 | .Hl m k v=>[m,k,v]
 | .copy d s=>[d,s]
def eI.eO:eI->List Operand
 | .p o=>o.eO
 | .l o=>o.eO
 | .e o=>o.eO
 | .call _ args=>args
 | .hK x args=>x::args
def tmpsOf:List Operand->List Nat
 | []=>[]
 | .tmp t::xs=>t::tmpsOf xs
 | _::xs=>tmpsOf xs
def ft.reads (o:ft):List Nat:=(match o.guard with | some (s,_)=>[s] | none=>[])++tmpsOf o.op.eO
def oY (kF:List Nat):List Nat->Nat
 | []=>0
 | e::es=>(2^e ||| kF.getD e 0) ||| oY kF es
def fT:List (List Nat)->List Nat->List Nat
 | [],acc=>acc
 | es::r,acc=>fT r (acc++[oY acc es])
def nW (o:bQ) (t:Nat):Bool:=o.op.dst==some t||o.op.reads.contains t
def ua (oj:bQ) (j:Nat) (oi:bQ) (i:Nat):Bool:=
 (i==j||(match oi.op.dst with
  | none=>true
  | some t=> !nW oj t||(if i<j then oj.pre.testBit i else oi.pre.testBit j)))&&
 (!(decide (i<j)&&oi.op.op.cj&&oj.op.op.cj)||oj.pre.testBit i)
def BO (l:List bQ):Bool:=l.zipIdx.all λ(oj,j)=>l.zipIdx.all λ(oi,i)=>ua oj j oi i
def dC (o:Oper):List Nat:=o.after.toList.filterMap λe=>if Region.binds .any e then some e.on else none
def qD (ops:List Oper):Nat->Bool
 | i=>match ops with
  | []=>true
  | o::os=>(dC o).all (·<i)&&qD os (i+1)
def jS:List ft->List Nat->List bQ
 | o::os,p::ps=>⟨o,p⟩::jS os ps
 | _,_=>[]
def E3 (P:Program) (N:Nat) (ops:Array Oper):Option (List bQ):=
 match iq P N ops ops.toList with
 | some ios=>
  if P.follows .mixedOrders&&qD ops.toList 0&&BO (jS ios (fT (ops.toList.map dC) [])) then some (jS ios (fT (ops.toList.map dC) [])) else none
 | none=>none
def fm (o:bQ):Bool:=match o.op.op with | .e (.fl _)=>true | _=>false
def Fy (l:List bQ):List Nat:=
 l.zipIdx.filterMap λ(oi,i)=>
  if (match oi.op.op with | .e eo=>eo.Cj.isSome | _=>false)&&oi.op.guard.isNone&&(l.zipIdx.any λ(oj,j)=>j != i&&oj.op.op.cj&& !(oi.pre.testBit j)&& !(oj.pre.testBit i)) then some i else none
def vn (o:ft):ft:=
 match o.op,o.guard with
 | .e eo,none=>match eo.Cj with | some a=>⟨o.dst,.e (.fl a),none⟩ | none=>o
 | _,_=>o
def Bi (pre:Nat):List Nat->Nat->Nat
 | [],_=>0
 | i::is,q=>(if pre.testBit i then 2^q else 0) ||| Bi pre is (q+1)
def alF (l:List bQ) (fl:List Nat):List Nat:=
 let RT:=λi=>fl.contains i||fl.any λa=>((l[a]?).map λo=>o.pre.testBit i).getD false
 (List.range l.length).filter RT++(List.range l.length).filter λi=> !RT i
def Sf (l:List bQ) (fl perm:List Nat):List bQ:=
 perm.filterMap λi=>(l[i]?).map λo=>⟨if fl.contains i then vn o.op else o.op,Bi o.pre perm 0⟩
def Ac:List Nat->Bool
 | []=>true
 | x::xs=> !(xs.contains x)&&Ac xs
def ub (oj:bQ) (j:Nat) (oi:bQ) (i:Nat):Bool:=
 (i==j||(match oi.op.dst with
  | none=>true
  | some t=> !nW oj t||(if i<j then oj.pre.testBit i else oi.pre.testBit j)))&&
 (!(decide (i<j)&&oi.op.op.cj&&oj.op.op.cj&& !(fm oi)&& !(fm oj))||oj.pre.testBit i)
def nI (l:List bQ):Nat:=l.length-((l.reverse.takeWhile λo=> !(fm o)).length)
def okF (l:List bQ) (perm:List Nat) (kF:List Nat):Bool:=
 l.length==kF.length&&perm.length==kF.length&&Ac perm&&perm.all (·<kF.length)&&
 (l.zipIdx.all λ(oj,j)=>l.zipIdx.all λ(oi,i)=>ub oj j oi i)&&
 (l.zipIdx.all λ(o,q)=>if q<nI l then !(o.op.op.cj)||fm o else !(fm o))&&
 (l.zipIdx.all λ(o,q)=>(List.range kF.length).all λk=>o.pre.testBit k==(kF.getD (perm.getD q 0) 0).testBit (perm.getD k 0))&&
 (l.zipIdx.all λ(o,_)=> !(fm o)||o.op.guard.isNone)
def zU (P:Program) (N:Nat) (ops:Array Oper):Option (List bQ×List Nat):=
 match iq P N ops ops.toList with
 | some ios=>
  let kF:=fT (ops.toList.map dC) []
  let l:=jS ios kF
  let fl:=Fy l
  let perm:=alF l fl
  let l':=Sf l fl perm
  if P.follows .mixedOrders&&qD ops.toList 0&&okF l' perm kF then some (l',perm) else none
 | none=>none
def E4 (P:Program) (N:Nat) (ops:Array Oper):Option (List bQ):=
 match E3 P N ops with
 | some l=>some l
 | none=>(zU P N ops).map Prod.fst
def nE:List ft->List (Option (Nat×Bool)×List fC)
 | []=>[]
 | o::os=>match nE os with
  | (g,l)::gs=>if o.guard=g then (g,⟨o.dst,o.op⟩::l)::gs else (o.guard,[⟨o.dst,o.op⟩])::(g,l)::gs
  | []=>[(o.guard,[⟨o.dst,o.op⟩])]
def leaves (g:Option (Nat×Bool)) (d:Option Nat):Bool:=
 match g with
 | some (s,_)=>d != some s
 | none=>true
def pC:List bQ->List (Option (Nat×Bool)×List gD)
 | []=>[]
 | o::os=>match pC os with
  | (g,l)::gs=>if o.op.guard=g then (g,⟨o.op.dst,o.op.op,o.pre⟩::l)::gs else (o.op.guard,[⟨o.op.dst,o.op.op,o.pre⟩])::(g,l)::gs
  | []=>[(o.op.guard,[⟨o.op.dst,o.op.op,o.pre⟩])]
abbrev Hints:=List (List Nat)
def pB (ls:List Nat) (c:dc):dc:=
 match ls with
 | []=>c
 | l::ls=>.cut (l::ls) c
def lz:List (Option (Nat×Bool)×List fC)->Hints->dc×Hints
 | [],hs=>(.skip,hs)
 | (g,l)::gs,hs=>
  match gs,hs with
  | [],hs=>(.ops g l,hs)
  | gs,h::hs=>let r:=lz gs hs;(.seq (.ops g l) (pB h r.1),r.2)
  | gs,[]=>let r:=lz gs [];(.seq (.ops g l) r.1,r.2)
def dB (P:Program) (N:Nat):Code->Hints->Option (dc×Hints)
 | .skip,hs=>some (.skip,hs)
 | .region _ ops false,hs=>
  match iq P N ops ops.toList with
  | some l=>if l.all λo=>leaves o.guard o.dst then some (lz (nE l) hs) else none
  | none=>some (.ops none [⟨none,.e .die⟩],hs)
 | .region _ ops true,hs=>
  match E4 P N ops with
  | some l=>if l.all λo=>leaves o.op.guard o.op.dst then some (.Ad (pC l),hs) else none
  | none=>none
 | .seq a b,hs=>
  match dB P N a hs with
  | some (x,h::hs)=>match dB P N b hs with
   | some (y,hs)=>some (.seq x (pB h y),hs)
   | none=>none
  | some (x,[])=>match dB P N b [] with
   | some (y,hs)=>some (.seq x y,hs)
   | none=>none
  | none=>none
 | .cond c a b,hs=>if fP c then match dB P N a hs with
  | some (x,hs)=>match dB P N b hs with
   | some (y,hs)=>some (.cond c x y,hs)
   | none=>none
  | none=>none
  else none
 | .block id c,hs=>match dB P N c hs with
  | some (x,hs)=>some (.block id x,hs)
  | none=>none
 | .loop c,hs=>
  match hs with
  | ks::ls::hs=>match dB P N c hs with
   | some (x,hs)=>some (.loop ks ls x,hs)
   | none=>none
  | _=>none
 | .exit id,hs=>some (.exit id,hs)
 | .ret,hs=>some (.ret,hs)
 | .rangeFunc g ps gE body,hs=>
  match hs with
  | ls::hs=>if fP g&&ps.all (·<N) then some (.range g ls ⟨N,ps,gE,body⟩,hs) else none
  | []=>none
 | _,_=>none
def eU:Code->Bool
 | .seq a b=>eU a&&eU b
 | .cond _ a b=>eU a&&eU b
 | .block _ c=>eU c
 | .loop c=>eU c
 | .rangeFunc .. =>false
 | _=>true
section
variable {P : Program} {N : Nat}
def qv (P:Program) (N B:Nat) (ρ:aD) (h:ae) (w:World) (e:Exit) (f':Nat->Value) (h':ae):Exit->Act->World->Prop:=
 λe' a' w'=>e'=e/\∃aq,cP P N B aq f' h' a' w'/\Tr ρ h w aq h' w'
def eB (P:Program) (N:Nat) (out:Bool) (c:Code) (f:Nat->Value) (h:ae) (e:Exit) (f':Nat->Value) (h':ae):Prop:=
 ∀R,(out=true->R=none)->∀B ρ a w,cP P N B ρ f h a w->c.wpIn (FR R) 0 P (qv P N B ρ h w e f' h') a w
def yS (P:Program) (N:Nat) (o:Oper) (f:Nat->Value) (h:ae) (v:Value) (h':ae):Prop:=
 ∀R B ρ a w,cP P N B ρ f h a w->∀(next:Act->World->Prop) (Q:Exit->Act->World->Prop),
  (∀aq v' w',au aq v v'->aL P aq h' w'->Tr ρ h w aq h' w'->next (a.put o.dst v') w')->o.wpIn (FR R) 0 P a w next Q
theorem B9 {o:Oper} (hn:∀c,o.op≠ .defer c) (R:Option Nat) (g:Operand->Value):o.semAt R g=execOp g o:=by
 cases R with
 | none=>rfl
 | some l=>exact Oper.semAt_some l g o hn
theorem Cu {R:Option Nat} {o:Oper} {a:Act} {w w':World} {next:Act->World->Prop} {Q:Exit->Act->World->Prop} {v:Value} (hn:∀c,o.op≠ .defer c)
  (he:(execOp a.eval o).run P w=.ok (.value v) w') (hk:next (a.put o.dst v) w'):o.wpIn (FR R) 0 P a w next Q:=by
 refine ⟨λ_ _=>trivial,?_⟩
 rw [B9 hn,he,Oper.uponIn_value]
 exact hk
theorem apN {R:Option Nat} {o:Oper} {a:Act} {w w':World} {next:Act->World->Prop} {Q:Exit->Act->World->Prop} (hn:∀c,o.op≠ .defer c)
  (he:(execOp a.eval o).run P w=.ok .skip w') (hk:next (a.put o.dst undef) w'):o.wpIn (FR R) 0 P a w next Q:=by
 refine ⟨λ_ _=>trivial,?_⟩
 rw [B9 hn,he,Oper.uponIn_skip]
 exact hk
theorem PR {f:FuncId} {args:Array Value} {w:World} {K:Ending->World->Prop} (h:Calls P f args w K) (R:Option Nat) (n:Nat):CallsIn (FR R) n P f args w K:=by
 cases R with
 | none=>exact callsIn_wide.2 h
 | some l=>exact (callsIn_wide (n:=n)).2 h
theorem aol {l:Nat} {f:FuncId} {tmps:Array Value} {gE body:Code} {w:World} {K:Ending->World->Prop} (h:RoundIn Fence.wide 0 P l f tmps gE body w K) (R:Option Nat):
  RoundIn (FR R) 0 P l f tmps gE body w K:=h
theorem EY {f:FuncId} (h:nu P f=true) (args:Array Value) (w:World):(callFunc f args).run P w=.ok (.enter f args) w:=by
 unfold nu at h
 split at h
 ·rename_i fn hf
  simp only [and_eq_true,bne_iff_ne] at h
  obtain ⟨h1,h2⟩:=h
  have h3:fn.body≠none:=by
   intro hb
   simp [hb] at h2
  simp [callFunc,hf,h1,h3]
 ·cases h
theorem Um {o:Oper} {f:Nat->Value} {h:ae} {g:FuncId} {args:List Value} {v:Value} {h':ae} (hc:px P g args h v h')
  (hd:∀c,o.op≠ .defer c)
  (he:∀B ρ a w,cP P N B ρ f h a w->∃args':Array Value,bg ρ args args'.toList/\(execOp a.eval o).run P w=.ok (.enter g args') w):yS P N o f h v h':=by
 intro r B ρ a w R next Q hn
 obtain ⟨args',hv,hr⟩:=he B ρ a w R
 refine ⟨λ_ _=>trivial,?_⟩
 rw [B9 hd,hr,Oper.uponIn_enter]
 refine ⟨λh=>(by cases h),?_⟩
 refine (PR (hc ρ args' w hv R.heap) r _).mono ?_
 rintro e w' ⟨v',aq,rfl,h1,h2,h3⟩
 exact hn aq v' w' h1 h2 h3
theorem alf {o:Oper} {f:Nat->Value} {h:ae} {i:Nat} {args:List Value} {v:Value} {h':ae} (hc:CM P i args h v h')
  (hd:∀c,o.op≠ .defer c)
  (he:∀B ρ a w,cP P N B ρ f h a w->∃(r:RI) (args':Array Value),ρ i=some r/\bg ρ args args'.toList/\(execOp a.eval o).run P w=(Instr.yield r.aY args').run P w):yS P N o f h v h':=by
 intro R' B ρ a w R next Q hn
 obtain ⟨r,args',hi,hv,hr⟩:=he B ρ a w R
 obtain ⟨fn,tmps,gE,body,e1,e2⟩:=hc ρ r args' w hi hv R.heap
 refine ⟨λ_ _=>trivial,?_⟩
 rw [B9 hd,hr,e1,Oper.uponIn_round]
 refine ⟨λh=>(by cases h),?_⟩
 refine (aol e2 R').mono ?_
 rintro e w' ⟨v',aq,rfl,h1,h2,h3⟩
 exact hn aq v' w' h1 h2 h3
theorem PU {op:Op} {io:eI} (h:oq P op=some io):∀c,op≠ .defer c:=by
 rintro c rfl
 simp [oq,fu,oh,fc] at h
theorem E7 {op:Op} {io:eI} (h:oq P op=some io):(∃o,io=.p o/\fu P op=some o)∨(∃o,io=.l o/\oh P op=some o)∨(∃o,io=.e o/\fc P op=some o)∨
  (∃f args at_,op=.call ⟨.value (.func f),args,at_⟩/\nu P f=true/\io=.call f args.toList)∨(∃x args at_,op=.call ⟨.value x,args,at_⟩/\io=.hK x args.toList):=by
 unfold oq at h
 split at h
 ·rename_i o ho;simp at h;exact .inl ⟨o,h.symm,ho⟩
 ·split at h
  ·rename_i o ho;simp at h;exact .inr (.inl ⟨o,h.symm,ho⟩)
  ·split at h
   ·rename_i o ho;simp at h;exact .inr (.inr (.inl ⟨o,h.symm,ho⟩))
   ·split at h
    ·split at h
     ·rename_i hc;simp at h;exact .inr (.inr (.inr (.inl ⟨_,_,_,rfl,hc,h.symm⟩)))
     ·cases h
    ·simp at h;exact .inr (.inr (.inr (.inr ⟨_,_,_,rfl,h.symm⟩)))
    ·cases h
theorem rZ {o:Oper} {io:eI} {f:Nat->Value} {h:ae} {K:Value->ae->Prop} (hc:oq P o.op=some io) (aC:o.op.operands.all fP=true) (hs:bY P io f h K):
  ∃v h',yS P N o f h v h'/\K v h':=by
 have kW:=PU hc
 rcases E7 hc with ⟨po,rfl,hp⟩ | ⟨lo,rfl,hl⟩ | ⟨eo,rfl,he⟩ | ⟨g,args,at_,ho,iY,rfl⟩ | ⟨x,args,at_,ho,rfl⟩
 ·simp only [bY,dK] at hs
  split at hs
  ·rename_i v hv
   refine ⟨v,h,?_,hs⟩
   intro _ B ρ a w R next Q hn
   obtain ⟨v',h1,h2⟩:=alJ w hp aC R.heap.aT (λx hx=>R.ev hx) hv
   exact Cu kW h1 (hn ρ v' w h2 R.heap (Tr.refl R.heap))
  ·exact hs.elim
 ·simp only [bY,dK] at hs
  split at hs
  ·rename_i v hv
   refine ⟨v,h,?_,hs⟩
   intro _ B ρ a w R next Q hn
   obtain ⟨v',h1,h2⟩:=akz hl aC R.heap (λx hx=>R.ev hx) hv
   exact Cu kW h1 (hn ρ v' w h2 R.heap (Tr.refl R.heap))
  ·exact hs.elim
 ·simp only [bY,jc] at hs
  split at hs
  ·rename_i v h' hv
   refine ⟨v,h',?_,hs⟩
   intro _ B ρ a w R next Q hn
   obtain ⟨nx,w',aq,v',e1,e2,e3,e4,e5⟩:=afQ he aC R.heap (λx hx=>R.ev hx) hv
   rcases e2 with rfl | ⟨rfl,rfl⟩
   ·exact Cu kW e1 (hn aq v' w' e3 e4 e5)
   ·exact apN kW e1 (hn aq undef w' e3 e4 e5)
  ·exact hs.elim
 ·obtain ⟨v,h',oG,hk⟩:=hs
  refine ⟨v,h',Um oG kW ?_,hk⟩
  intro B ρ a w R
  rw [ho] at aC
  simp [Op.operands,Call.operands] at aC
  refine ⟨args.map a.eval,by simpa using bg.rS (λx hx=>R.ev hx) (xs:=args.toList) (by simpa using aC.2),?_⟩
  simp [execOp,ho,resolve,Act.eval,Deferred.ofValue,invoke,EY iY]
 ·simp only [bY,nv] at hs
  rw [ho] at aC
  simp [Op.operands,Call.operands] at aC
  split at hs
  ·rename_i g first cap hx
   obtain ⟨iY,v,h',oG,hk⟩:=hs
   refine ⟨v,h',Um oG kW ?_,hk⟩
   intro B ρ a w R
   have hr:=R.ev (x:=x) aC.1
   rw [hx] at hr
   generalize hy:a.eval x=y at hr
   cases hr with
   | func _ s1 s2 r1 r2=>
    rename_i Fv EZ
    refine ⟨Fv++args.map a.eval++EZ,?_,?_⟩
    ·have q1:=bg.m6 s1 r1
     have q2:=bg.rS (λx hx=>R.ev hx) (xs:=args.toList) (by simpa using aC.2)
     have q3:=bg.m6 s2 r2
     simpa using (q1.append q2).append q3
    ·simp [execOp,ho,resolve,hy,Deferred.ofValue,invoke,EY iY]
  ·rename_i i first cap hx
   obtain ⟨⟨rfl,rfl⟩,v,h',oG,hk⟩:=hs
   refine ⟨v,h',alf oG kW ?_,hk⟩
   intro B ρ a w R
   have hr:=R.ev (x:=x) aC.1
   rw [hx] at hr
   generalize hy:a.eval x=y at hr
   cases hr with
   | yield hi=>
    rename_i r
    refine ⟨r,args.map a.eval,hi,by simpa using bg.rS (λx hx=>R.ev hx) (xs:=args.toList) (by simpa using aC.2),?_⟩
    simp [execOp,ho,resolve,hy,Deferred.ofValue,invoke]
  ·exact hs.elim
end
end
end Go.Sim
