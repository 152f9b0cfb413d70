/-
  Part 1 of the texts behind a statement of this seat: Sim1, Sim2, Sim3, Sim4, Sim5, Sim6, Sim7, Sim8, Sim7d, Sim9, Sim9g, Sim10, Sim11, Sim12, Sim13, Sim14.
-/
import Derived.WalkKit
import Derived.Laws.Append
import Derived.Laws.AppendOwn
import Derived.Laws.MakeOwn
import Derived.Laws.BytesString
import Derived.RangeFuncRecord
import Derived.Lib.Bytealg
import Derived.WalkSpells
import Derived.WideKeyArr
import Derived.MapKept
import Derived.Laws.CopyRow
import Derived.Laws.IdiomCopy
namespace Go.Sim

structure RI where
 bm:Nat
 sh:Nat
 elem:TypeId
 aV:Nat
 size:Nat

abbrev aI:=Nat→Option RI

structure Ae where
 N:Nat
 ps:Array Tmp
 iW:Code
 body:Code

inductive fq where
 | int (k:IntKind)
 | str
 | ints (n:Nat) (k:IntKind)
 deriving DecidableEq

def jE (k:IntKind):Value→Bool
 | .int k' _=>decide (k'=k)
 | _=>false

def NV (k:IntKind):Value→Bool
 | .int _ n=>decide (k.min≤n)&&decide (n≤k.max)
 | _=>false

def dZ:fq→Value→Bool
 | .int k,v=>jE k v
 | .str,.string _=>true
 | .ints n k,.agg cs=>decide (cs.size=n)&&cs.toList.all fun v=>jE k v&&NV k v
 | _,_=>false

inductive ak where
 | ro (e:TypeId) (xs:List Value)
 | arr (e:TypeId) (xs:List Value)
 | smap (es:List (ByteArray×Value))
 | jm (kd:IntKind) (es:List (Int×Value))
 | dH (g:fq) (clock:Nat) (es:List (Nat×Value×Value))
 | iter (m since:Nat) (seen:List Nat) (last:Nat)
 | loop (c:Ae) (ls:List Nat) (vs:List Value)
 | dead

abbrev ae:=List ak

abbrev bot:Value:=.complex .f32 0 0

def jc:List Nat→List Value→Nat→Value
 | l::ls,v::vs,j=>match Nat.beq j l with | true=>v | false=>jc ls vs j
 | _,_,_=>bot

theorem auw (l:Nat) (ls:List Nat) (v:Value) (vs:List Value) (j:Nat):jc (l::ls) (v::vs) j=if j=l then v else jc ls vs j:=by
 show (match Nat.beq j l with | true=>v | false=>jc ls vs j)=_
 split
 ·rename_i h;rw [if_pos (Nat.eq_of_beq_eq_true h)]
 ·rename_i h;rw [if_neg (Nat.ne_of_beq_eq_false h)]

def fw:Value→Bool
 | .agg _ | .tuple _ | .complex _ _ _=>false
 | _=>true

inductive av (ρ:aI):Value→Value→Prop
 | bool (b:Bool):av ρ (.bool b) (.bool b)
 | int (k:IntKind) (n:Int):av ρ (.int k n) (.int k n)
 | string (s:ByteArray):av ρ (.string s) (.string s)
 | rr:av ρ (.pointer none) (.pointer none)
 | om:av ρ (.slice none 0 0) (.slice none 0 0)
 | rp:av ρ (.map none) (.map none)
 | nilFunc:av ρ .nilFunc .nilFunc
 | nilIface:av ρ .nilIface .nilIface
 | ptr {i o:Nat} {r:RI}:ρ i=some r→av ρ (.pointer (some ⟨i,o,none⟩)) (.pointer (some ⟨r.bm,r.sh+o,none⟩))
 | slice {i o n o' c':Nat} {r:RI}:ρ i=some r→(o'=r.sh+o∨(n=0∧0<o∧c'=0))→n≤c'→c'≤maxLen→o'+c'*r.aV≤r.size→
   av ρ (.slice (some ⟨i,o,some r.elem⟩) n n) (.slice (some ⟨r.bm,o',none⟩) n c')
 | void (a:Addr):av ρ (.slice none 0 1) (.slice (some a) 0 0)
 | map {i:Nat} {r:RI}:ρ i=some r→av ρ (.map (some i)) (.map (some r.bm))
 | func (f:FuncId) {xs ys xs' xr:Array Value}:xs.size=xs'.size→ys.size=xr.size→
   (∀(k:Nat) (x x':Value),xs[k]?=some x→xs'[k]?=some x'→av ρ x x')→
   (∀(k:Nat) (x x':Value),ys[k]?=some x→xr[k]?=some x'→av ρ x x')→av ρ (.func (.func f) xs ys) (.func (.func f) xs' xr)
 | yield {i:Nat} {r:RI}:ρ i=some r→av ρ (.func (.yield i) #[] #[]) (.func (.yield r.bm) #[] #[])
 | agg {xs xs':Array Value}:xs.size=xs'.size→(∀x∈xs.toList,fw x=true)→(∀(k:Nat) (x x':Value),xs[k]?=some x→xs'[k]?=some x'→av ρ x x')→av ρ (.agg xs) (.agg xs')
 | any (v:Value):av ρ (.complex .f32 0 0) v
 | tuple {xs xs':Array Value}:xs.size=xs'.size→(∀(k:Nat) (x x':Value),xs[k]?=some x→xs'[k]?=some x'→av ρ x x')→av ρ (.tuple xs) (.tuple xs')

def aI.le (ρ ar:aI):Prop:=∀i r,ρ i=some r→ar i=some r

theorem aI.le.refl (ρ:aI):ρ.le ρ:=fun _ _ h=>h
theorem aI.le.trans {a b c:aI} (h:a.le b) (k:b.le c):a.le c:=fun i r e=>k i r (h i r e)

theorem av.mono {ρ ar:aI} (h:ρ.le ar) {v v':Value} (hv:av ρ v v'):av ar v v':=by
 induction hv with
 | bool b=>exact .bool b
 | int k n=>exact .int k n
 | string s=>exact .string s
 | rr=>exact .rr
 | om=>exact .om
 | rp=>exact .rp
 | nilFunc=>exact .nilFunc
 | nilIface=>exact .nilIface
 | ptr hi=>exact .ptr (h _ _ hi)
 | slice hi a b c d=>exact .slice (h _ _ hi) a b c d
 | void a=>exact .void a
 | map hi=>exact .map (h _ _ hi)
 | func f a b _ _ NT NU=>exact .func f a b (fun k x x' e e'=>NT k x x' e e') (fun k x x' e e'=>NU k x x' e e')
 | yield hi=>exact .yield (h _ _ hi)
 | agg a b _ ih=>exact .agg a b (fun k x x' e e'=>ih k x x' e e')
 | any v=>exact .any v
 | tuple a _ ih=>exact .tuple a (fun k x x' e e'=>ih k x x' e e')

theorem av.undef (ρ:aI):av ρ undef undef:=.tuple rfl (fun k x x' e e'=>by simp at e)

inductive bn (ρ:aI):List Value→List Value→Prop
 | nil:bn ρ [] []
 | cons {x y:Value} {xs ys:List Value}:av ρ x y→bn ρ xs ys→bn ρ (x::xs) (y::ys)

theorem bn.mono {ρ ar:aI} (h:ρ.le ar) {xs ys:List Value} (hv:bn ρ xs ys):bn ar xs ys:=by
 induction hv with
 | nil=>exact .nil
 | cons a _ ih=>exact .cons (a.mono h) ih

theorem bn.length {ρ:aI} {xs ys:List Value} (hv:bn ρ xs ys):xs.length=ys.length:=by
 induction hv with
 | nil=>rfl
 | cons _ _ ih=>simp [ih]

theorem bn.get {ρ:aI} {xs ys:List Value} (hv:bn ρ xs ys):∀{k:Nat} {x:Value},xs[k]?=some x→∃y,ys[k]?=some y∧av ρ x y:=by
 induction hv with
 | nil=>intro k x h;simp at h
 | cons a _ ih=>
  intro k x h
  cases k with
  | zero=>simp at h;subst h;exact ⟨_,by simp,a⟩
  | succ k=>simp at h;obtain ⟨y,hy,hr⟩:=ih h;exact ⟨y,by simpa using hy,hr⟩

theorem bn.append {ρ:aI} {xs ys xs' xr:List Value} (h:bn ρ xs ys) (h':bn ρ xs' xr):bn ρ (xs++xs') (ys++xr):=by
 induction h with
 | nil=>exact h'
 | cons a _ ih=>exact .cons a ih

theorem bn.Ga {ρ:aI}:∀{xs ys:List Value},xs.length=ys.length→(∀(k:Nat) (x y:Value),xs[k]?=some x→ys[k]?=some y→av ρ x y)→bn ρ xs ys
 | [],[],_,_=>.nil
 | x::xs,y::ys,hl,h=>.cons (h 0 x y rfl rfl) (bn.Ga (by simpa using hl) fun k a b ha hb=>h (k+1) a b (by simpa using ha) (by simpa using hb))

theorem bn.take {ρ:aI} {xs ys:List Value} (h:bn ρ xs ys):∀n,bn ρ (xs.take n) (ys.take n):=by
 induction h with
 | nil=>intro n;simp;exact .nil
 | cons a _ ih=>intro n;cases n with
  | zero=>exact .nil
  | succ n=>exact .cons a (ih n)

theorem bn.drop {ρ:aI} {xs ys:List Value} (h:bn ρ xs ys):∀n,bn ρ (xs.drop n) (ys.drop n):=by
 induction h with
 | nil=>intro n;simp;exact .nil
 | cons a b ih=>intro n;cases n with
  | zero=>exact .cons a b
  | succ n=>exact ih n

theorem bn.set {ρ:aI} {xs ys:List Value} (h:bn ρ xs ys) {v v':Value} (hv:av ρ v v'):∀n,bn ρ (xs.set n v) (ys.set n v'):=by
 induction h with
 | nil=>intro n;simp;exact .nil
 | cons a b ih=>intro n;cases n with
  | zero=>exact .cons hv b
  | succ n=>exact .cons a (ih n)

theorem bn.qC {ρ:aI} {xs xs':Array Value} (hs:xs.size=xs'.size) (h:∀(k:Nat) (x x':Value),xs[k]?=some x→xs'[k]?=some x'→av ρ x x'):bn ρ xs.toList xs'.toList:=
 bn.Ga (by simpa using hs) fun k x y hx hy=>h k x y (by simpa using hx) (by simpa using hy)

theorem bn.ofList {ρ:aI} {xs xs':List Value} (h:bn ρ xs xs'):∀(k:Nat) (x x':Value),xs.toArray[k]?=some x→xs'.toArray[k]?=some x'→av ρ x x':=by
 intro k x x' hx bJ
 obtain ⟨y,hy,hr⟩:=h.get (k:=k) (x:=x) (by simpa using hx)
 simp at bJ
 rw [hy] at bJ
 cases bJ
 exact hr

theorem av.xT {ρ:aI} {xs xs':List Value} (h:bn ρ xs xs') (h1:∀x∈xs,fw x=true):av ρ (.agg xs.toArray) (.agg xs'.toArray):=.agg (by simpa using h.length) (by simpa using h1) h.ofList
theorem av.pv {ρ:aI} {xs xs':List Value} (h:bn ρ xs xs'):av ρ (.tuple xs.toArray) (.tuple xs'.toArray):=.tuple (by simpa using h.length) h.ofList

def cZ (v:Value):List Value:=v.cells.toList

def gW:Value→Bool
 | .tuple _ | .complex _ _ _=>false
 | _=>true

theorem av.cells {ρ:aI} {v v':Value} (h:av ρ v v') (hn:gW v=true):bn ρ (cZ v) (cZ v'):=by
 cases h with
 | any _=>simp [gW] at hn
 | agg hs _ h=>exact bn.qC hs h
 | bool b=>exact .cons (.bool b) .nil
 | int k n=>exact .cons (.int k n) .nil
 | string s=>exact .cons (.string s) .nil
 | rr=>exact .cons .rr .nil
 | om=>exact .cons .om .nil
 | rp=>exact .cons .rp .nil
 | nilFunc=>exact .cons .nilFunc .nil
 | nilIface=>exact .cons .nilIface .nil
 | ptr hi=>exact .cons (.ptr hi) .nil
 | slice hi a b c d=>exact .cons (.slice hi a b c d) .nil
 | void a=>exact .cons (.void a) .nil
 | map hi=>exact .cons (.map hi) .nil
 | func f a b c d=>exact .cons (.func f a b c d) .nil
 | yield hi=>exact .cons (.yield hi) .nil
 | tuple a b=>simp [gW] at hn

def isLive (h:ae) (i:Nat):Prop:=∃o,h[i]?=some o∧o≠ .dead
def ca (h:ae) (i:Nat):Prop:=(∃e xs,h[i]?=some (.arr e xs))∨(∃es,h[i]?=some (.smap es))∨(∃c ls vs,h[i]?=some (.loop c ls vs))∨(∃kd es,h[i]?=some (.jm kd es))∨(∃g c es,h[i]?=some (.dH g c es))∨(∃m s n l,h[i]?=some (.iter m s n l))

theorem ca.live {h:ae} {i:Nat} (hm:ca h i):isLive h i:=by
 rcases hm with ⟨e,xs,hm⟩ | ⟨es,hm⟩ | ⟨c,ls,vs,hm⟩ | ⟨kd,es,hm⟩ | ⟨g,c,es,hm⟩ | ⟨m,s,n,l,hm⟩
 ·exact ⟨_,hm,by simp⟩
 ·exact ⟨_,hm,by simp⟩
 ·exact ⟨_,hm,by simp⟩
 ·exact ⟨_,hm,by simp⟩
 ·exact ⟨_,hm,by simp⟩
 ·exact ⟨_,hm,by simp⟩

def fm (ρ:aI) (c:Array Value) (sh:Nat) (xs:List Value):Prop:=∀(j:Nat) (x:Value),xs[j]?=some x→fw x=true∧∃y,c[sh+j]?=some y∧av ρ x y

theorem av.BQ {ρ:aI} {v v':Value} (h:av ρ v v') (hc:fw v=true):v'.oneCell'=true:=by
 cases h <;> first | rfl | simp [fw] at hc

theorem bn.BQ {ρ:aI} {xs ys:List Value} (h:bn ρ xs ys) (h1:∀x∈xs,fw x=true):∀y∈ys,y.oneCell'=true:=by
 induction h with
 | nil=>intro y hy;simp at hy
 | cons a _ ih=>
  intro y hy
  rcases List.mem_cons.1 hy with rfl | hy
  ·exact a.BQ (h1 _ (by simp))
  ·exact ih (fun x hx=>h1 x (by simp [hx])) y hy

theorem av.Ew {ρ:aI} {v v':Value} (h:av ρ v v') (ht:gW v=true):∀x∈cZ v,fw x=true:=by
 cases h with
 | agg hs h1 h=>exact h1
 | tuple _ _=>simp [gW] at ht
 | any _=>simp [gW] at ht
 | _=>intro x hx;simp [cZ,Value.cells] at hx;subst hx;rfl

theorem fm.of {ρ:aI} {xs:List Value} {c:Array Value} (h:bn ρ xs c.toList) (h1:∀x∈xs,fw x=true):fm ρ c 0 xs:=by
 intro j x hj
 obtain ⟨y,hy,hr⟩:=h.get hj
 exact ⟨h1 x (List.mem_of_getElem? hj),y,by simpa using hy,hr⟩

def jF (ρ:aI) (w:World) (r:RI):ak→Prop
 | .ro e xs=>r.elem=e∧∃c t fr,w.heap[r.bm]?=some (.cells c t fr)∧c.size=r.size∧fm ρ c r.sh xs
 | .arr e xs=>r.elem=e∧r.sh=0∧∃c,w.heap[r.bm]?=some (.cells c e (0,0))∧c.size=r.size∧fm ρ c 0 xs
 | .smap es=>∃aH clock,w.heap[r.bm]?=some (.map aH clock)∧aH.size=es.length∧
   ∀(j:Nat) (k:ByteArray) (v:Value),es[j]?=some (k,v)→∃en,aH[j]?=some en∧en.key=.string k∧av ρ v en.val
 | .jm kd es=>∃aH clock,w.heap[r.bm]?=some (.map aH clock)∧aH.size=es.length∧
   ∀(j:Nat) (k:Int) (v:Value),es[j]?=some (k,v)→∃en,aH[j]?=some en∧en.key=.int kd k∧av ρ v en.val
 | .dH g clock es=>(es.map fun e=>e.2.1).Nodup∧∃aH,w.heap[r.bm]?=some (.map aH clock)∧aH.size=es.length∧
   ∀(j b:Nat) (k v:Value),es[j]?=some (b,k,v)→dZ g k=true∧∃en,aH[j]?=some en∧en.key=k∧en.born=b∧av ρ v en.val
 | .iter m since seen last=>r.sh=0∧∃rm,ρ m=some rm∧w.heap[r.bm]?=some (.mapIter (some rm.bm) since seen.toArray last)
 | .loop c ls vs=>∃rec,w.heap[r.bm]?=some (.loop rec)∧rec.state=.ready∧rec.pending=none∧rec.assign=c.iW∧rec.body=c.body∧rec.params=c.ps∧rec.tmps.size=c.N∧
   ∀t,av ρ (jc ls vs t) (rec.tmps.getD t Go.undef)
 | .dead=>True

structure aU (P:Program) (ρ:aI) (h:ae) (w:World):Prop where
 obj:∀i r,ρ i=some r→∃o,h[i]?=some o∧jF ρ w r o
 inj:∀i j r s,ρ i=some r→ρ j=some s→r.bm=s.bm→ca h i→isLive h j→i=j
 aV:∀i r,ρ i=some r→r.aV=P.cellsOf r.elem

theorem aU.lt {P:Program} {ρ:aI} {h:ae} {w:World} (H:aU P ρ h w) {i:Nat} {r:RI} (hi:ρ i=some r):i<h.length:=by
 obtain ⟨o,ho,_⟩:=H.obj i r hi
 exact (List.getElem?_eq_some_iff.1 ho).1

structure Tr (ρ:aI) (h:ae) (w:World) (ar:aI) (h':ae) (w':World):Prop where
 ext:ρ.le ar
 len:h.length≤h'.length
 il:∀i r,ρ i=some r→i<h.length
 kinds:∀i,i<h.length→ca h' i→ca h i
 fresh:∀i r,ar i=some r→ρ i=none→h.length≤i∧(w.heap.size≤r.bm∨∃j s,ρ j=some s∧s.bm=r.bm∧ca h j)
 gE:w.heap.size≤w'.heap.size
 fT:∀b,b<w.heap.size→(∀j s,ρ j=some s→s.bm=b→¬ca h j)→w'.heap[b]?=w.heap[b]?
 os:w'.os=w.os
 tape:w'.tape=w.tape
 output:w'.output=w.output

theorem Tr.refl {P:Program} {ρ:aI} {h:ae} {w:World} (H:aU P ρ h w):Tr ρ h w ρ h w where
 ext:=.refl _
 len:=Nat.le_refl _
 il:=fun _ _ hi=>H.lt hi
 kinds:=fun _ _ h=>h
 fresh:=fun i r h1 h2=>by rw [h1] at h2;cases h2
 gE:=Nat.le_refl _
 fT:=fun _ _ _=>rfl
 os:=rfl
 tape:=rfl
 output:=rfl

theorem Tr.trans {kL Rm ah6:aI} {h₁ aae FE:ae} {mf HQ ahQ:World} (a:Tr kL h₁ mf Rm aae HQ) (b:Tr Rm aae HQ ah6 FE ahQ):Tr kL h₁ mf ah6 FE ahQ where
 ext:=a.ext.trans b.ext
 len:=Nat.le_trans a.len b.len
 il:=a.il
 kinds:=fun i hi hm=>a.kinds i hi (b.kinds i (Nat.lt_of_lt_of_le hi a.len) hm)
 fresh:=by
  intro i r h3 h1
  cases h2:Rm i with
  | some r2=>
   have:=b.ext i r2 h2
   rw [h3] at this
   cases this
   exact a.fresh i r h2 h1
  | none=>
   obtain ⟨hl,hb⟩:=b.fresh i r h3 h2
   refine ⟨Nat.le_trans a.len hl,?_⟩
   rcases hb with hb | ⟨j,s,hj,hs,hm⟩
   ·exact .inl (Nat.le_trans a.gE hb)
   ·cases rX:kL j with
    | some s'=>
     have:=a.ext j s' rX
     rw [hj] at this
     cases this
     exact .inr ⟨j,s,rX,hs,a.kinds j (a.il j s rX) hm⟩
    | none=>
     obtain ⟨_,h⟩:=a.fresh j s hj rX
     rw [hs] at h
     rcases h with h | ⟨j',s',q1,q2,q3⟩
     ·exact .inl h
     ·exact .inr ⟨j',s',q1,q2,q3⟩
 gE:=Nat.le_trans a.gE b.gE
 fT:=by
  intro k hk cU
  rw [b.fT k (Nat.lt_of_lt_of_le hk a.gE) ?_,a.fT k hk cU]
  intro j s hj hs hm
  cases rX:kL j with
  | some s'=>
   have:=a.ext j s' rX
   rw [hj] at this
   cases this
   exact cU j s rX hs (a.kinds j (a.il j s rX) hm)
  | none=>
   obtain ⟨_,h⟩:=a.fresh j s hj rX
   rcases h with h | ⟨j',s',q1,q2,q3⟩
   ·omega
   ·exact cU j' s' q1 (by omega) q3
 os:=b.os.trans a.os
 tape:=b.tape.trans a.tape
 output:=b.output.trans a.output

theorem aU.drew {P:Program} {ρ:aI} {h:ae} {w:World} (H:aU P ρ h w) (n:Nat):aU P ρ h { w with drawn:=n }:=
 ⟨fun i r hi=>let ⟨o,ho,hr⟩:=H.obj i r hi;⟨o,ho,by cases o <;> exact hr⟩,H.inj,H.aV⟩

theorem Tr.drew {P:Program} {ρ:aI} {h:ae} {w:World} (H:aU P ρ h w) (n:Nat):Tr ρ h w ρ h { w with drawn:=n } where
 ext:=.refl _
 len:=Nat.le_refl _
 il:=fun _ _ hi=>H.lt hi
 kinds:=fun _ _ h=>h
 fresh:=fun i r h1 h2=>by rw [h1] at h2;cases h2
 gE:=Nat.le_refl _
 fT:=fun _ _ _=>rfl
 os:=rfl
 tape:=rfl
 output:=rfl

def mark (D:Nat):Deferred:={ target:=.collected D,args:=#[] }

def marks (B:Nat):List Deferred→World→Prop
 | [],w=>B≤w.heap.size
 | d::ds,w=>(∃D,d=mark D∧B≤D∧w.heap[D]?=some (.deferred (some []))∧∀d'∈ds,d'≠mark D)∧marks B ds w

theorem aU.Ov {P:Program} {ρ:aI} {h:ae} {w:World} (H:aU P ρ h w) {D:Nat} {x:Option (List Deferred)} (hD:w.heap[D]?=some (.deferred x)) {j:Nat} {s:RI} (hj:ρ j=some s) (hs:s.bm=D):¬isLive h j:=by
 rintro ⟨o,ho,br⟩
 obtain ⟨o',c9,hr⟩:=H.obj j s hj
 rw [ho] at c9
 cases c9
 subst hs
 cases o with
 | ro e xs=>obtain ⟨_,c,_,fr,h2,_⟩:=hr;rw [hD] at h2;cases h2
 | arr e xs=>obtain ⟨_,_,c,h2,_⟩:=hr;rw [hD] at h2;cases h2
 | smap es=>obtain ⟨aH,clock,h1,_⟩:=hr;rw [hD] at h1;cases h1
 | jm kd es=>obtain ⟨aH,clock,h1,_⟩:=hr;rw [hD] at h1;cases h1
 | dH g c es=>obtain ⟨_,aH,h1,_⟩:=hr;rw [hD] at h1;cases h1
 | iter m s n l=>obtain ⟨_,rm,_,h1⟩:=hr;rw [hD] at h1;cases h1
 | loop c ls vs=>obtain ⟨rec,h1,_⟩:=hr;rw [hD] at h1;cases h1
 | dead=>exact br rfl

theorem marks.tr {P:Program} {ρ ar:aI} {h h':ae} {w w':World} (H:aU P ρ h w) (T:Tr ρ h w ar h' w') {B:Nat}:∀{ds:List Deferred},marks B ds w→marks B ds w'
 | [],hb=>Nat.le_trans hb T.gE
 | d::ds,⟨⟨D,h1,h2,h3,h4⟩,h5⟩=>
  ⟨⟨D,h1,h2,by rw [T.fT D (Array.getElem?_eq_some_iff.1 h3).1 fun j s hj hs hm=>H.Ov h3 hj hs hm.live];exact h3,h4⟩,marks.tr H T h5⟩

theorem marks.lt {B:Nat} {w:World}:∀{ds:List Deferred},marks B ds w→∀d∈ds,∃D,d=mark D∧D<w.heap.size
 | [],_,d,hd=>by simp at hd
 | d::ds,⟨⟨D,h1,h2,h3,h4⟩,h5⟩,d',hd=>by
  rcases List.mem_cons.1 hd with rfl | hd
  ·exact ⟨D,h1,(Array.getElem?_eq_some_iff.1 h3).1⟩
  ·exact marks.lt h5 d' hd

theorem marks.base {B:Nat} {w:World}:∀{ds:List Deferred},marks B ds w→B≤w.heap.size
 | [],h=>h
 | _::_,h=>marks.base h.2

theorem aa0 {a b:Nat} (h:mark a=mark b):a=b:=by
 simp [mark] at h
 exact h

structure Rel (P:Program) (N:Nat) (B:Nat) (ρ:aI) (f:Nat→Value) (h:ae) (a:Act) (w:World):Prop where
 size:a.tmps.size=N
 defers:marks B a.defers w
 tmp:∀t,av ρ (f t) (a.tmps.getD t Go.undef)
 heap:aU P ρ h w

def uD (f:Nat→Value) (t:Nat) (v:Value):Nat→Value:=fun j=>match Nat.beq j t with | true=>v | false=>f j

theorem qD (f:Nat→Value) (t:Nat) (v:Value):uD f t v=fun j=>if j=t then v else f j:=by
 funext j
 unfold uD
 split
 ·rename_i h;rw [if_pos (Nat.eq_of_beq_eq_true h)]
 ·rename_i h;rw [if_neg (Nat.ne_of_beq_eq_false h)]

def ev (f:Nat→Value):Operand→Value
 | .tmp t=>f t
 | .const v=>v
 | .global g=>.pointer (some ⟨g,0,none⟩)
 | .func f=>.func (.func f) #[] #[]

def j6:Value→Bool
 | .bool _ | .int .. | .string _ | .nilFunc | .nilIface=>true
 | .pointer none | .map none=>true
 | .slice none 0 0=>true
 | _=>false

def hY:Operand→Bool
 | .tmp _=>true
 | .const v=>j6 v
 | .global _=>false
 | .func _=>true

theorem j6.rel {ρ:aI} {v:Value} (h:j6 v=true):av ρ v v:=by
 unfold j6 at h
 split at h
 ·exact .bool _
 ·exact .int _ _
 ·exact .string _
 ·exact .nilFunc
 ·exact .nilIface
 ·exact .rr
 ·exact .rp
 ·exact .om
 ·simp at h

theorem Rel.ev {P:Program} {N B:Nat} {ρ:aI} {f:Nat→Value} {h:ae} {a:Act} {w:World} (R:Rel P N B ρ f h a w) {x:Operand} (hx:hY x=true):
  av ρ (ev f x) (a.eval x):=by
 cases x with
 | tmp t=>exact R.tmp t
 | const v=>exact j6.rel hx
 | global g=>simp [hY] at hx
 | func g=>exact .func g rfl rfl (fun k x x' e e'=>by simp at e) (fun k x x' e e'=>by simp at e)

theorem Rel.put {P:Program} {N B:Nat} {ρ ar:aI} {f:Nat→Value} {h h':ae} {a:Act} {w w':World} (R:Rel P N B ρ f h a w) {d:Nat} (hd:d<N) {v v':Value}
  (T:Tr ρ h w ar h' w') (hv:av ar v v') (H:aU P ar h' w'):Rel P N B ar (uD f d v) h' (a.put (some d) v') w' where
 size:=by simp [Act.put,R.size]
 defers:=marks.tr R.heap T R.defers
 tmp:=by
  intro t
  simp only [qD]
  by_cases ht:t=d
  ·subst ht
   have:t<a.tmps.size:=by rw [R.size];exact hd
   simp [Act.put,Array.getD,this]
   exact hv
  ·rw [if_neg ht]
   have:=(R.tmp t).mono T.ext
   have e:((a.put (some d) v').tmps.getD t Go.undef)=a.tmps.getD t Go.undef:=by
    simp only [Act.put,Array.getD_eq_getD_getElem?,Array.getElem?_setIfInBounds]
    rw [if_neg (by omega)]
   rw [e]
   exact this
 heap:=H

theorem Rel.mono {P:Program} {N B:Nat} {ρ ar:aI} {f:Nat→Value} {h h':ae} {a:Act} {w w':World} (R:Rel P N B ρ f h a w) (T:Tr ρ h w ar h' w') (H:aU P ar h' w'):
  Rel P N B ar f h' a w':=⟨R.size,marks.tr R.heap T R.defers,fun t=>(R.tmp t).mono T.ext,H⟩

end Go.Sim


namespace Go.Sim

def S (l:List UInt8):Value:=.string ⟨l.toArray⟩
def bytes (s:ByteArray):List UInt8:=s.data.toList

theorem amc (l:List UInt8):bytes ⟨l.toArray⟩=l:=by simp [bytes]
theorem yZ (s:ByteArray):(⟨(bytes s).toArray⟩:ByteArray)=s:=by simp [bytes]
theorem alV (s:ByteArray):S (bytes s)=.string s:=by simp [S,yZ]
inductive nG where
 | mv (x:Operand)
 | pick (c a b:Operand)
 | bin (op:BinOp) (x y:Operand)
 | EK (neg:Bool) (x y:Operand)
 | EL (neg:Bool) (x y:Operand)
 | un (op:UnOp) (x:Operand)
 | conv (k:IntKind) (x:Operand)
 | QO (x:Operand)
 | N8 (x:Operand)
 | N9 (x:Operand)
 | FV (n:Nat)
 | BK (mx:Bool) (xs:List Operand)
 | NR (x i:Operand)
 | NP (n aV:Nat) (agg:Bool) (x i:Operand)
 | KK (aV:Nat) (x i:Operand)
 | KJ (n aV:Nat) (x i:Operand)
 | L6 (off:Nat) (x:Operand)
 | L9 (agg:Bool) (off sz:Nat) (x:Operand)
 | Hr (x:Operand) (lo hi:Option Operand)
 | Ht (e:TypeId) (aV:Nat) (x:Operand) (lo hi:Option Operand)
 | Oq (x:Operand)
 | fn (f:FuncId) (first captured:List Operand)
 | ext (x:Operand) (i:Nat)
 | build (zero:List Value) (parts:List (Nat×Nat×Operand))
 | NQ (f:FuncId) (x c:Operand)

def fY (op:BinOp) (k:IntKind) (a b:Int):Option Value:=
 match op with
 | .add=>some (.int k (k.wrap (a+b)))
 | .sub=>some (.int k (k.wrap (a-b)))
 | .mul=>some (.int k (k.wrap (a*b)))
 | .quo=>if b=0 then none else some (.int k (k.wrap (a.tdiv b)))
 | .rem=>if b=0 then none else some (.int k (a.tmod b))
 | .and=>some (.int k (k.wrap (BitVec.ofInt k.bits a &&& BitVec.ofInt k.bits b).toNat))
 | .or=>some (.int k (k.wrap (BitVec.ofInt k.bits a ||| BitVec.ofInt k.bits b).toNat))
 | .xor=>some (.int k (k.wrap (BitVec.ofInt k.bits a^^^BitVec.ofInt k.bits b).toNat))
 | .andNot=>some (.int k (k.wrap (BitVec.ofInt k.bits a &&& ~~~BitVec.ofInt k.bits b).toNat))
 | .eql=>some (.bool (decide (a=b)))
 | .neq=>some (.bool (!decide (a=b)))
 | .lss=>some (.bool (decide (a<b)))
 | .leq=>some (.bool (decide (a≤b)))
 | .gtr=>some (.bool (decide (b<a)))
 | .geq=>some (.bool (decide (b≤a)))
 | _=>none

def oc (op:BinOp) (k:IntKind) (a b:Int):Option Value:=
 if b<0 then none else
 match op with
 | .shl=>some (.int k (k.wrap (a*2^(min b.toNat k.bits))))
 | .shr=>some (.int k (a.fdiv (2^(min b.toNat k.bits))))
 | _=>none

def wG (op:BinOp) (a b:List UInt8):Option Value:=
 match op with
 | .add=>if a.length+b.length≤maxLen then some (S (a++b)) else none
 | .eql=>some (.bool (decide (a=b)))
 | .neq=>some (.bool (!decide (a=b)))
 | .lss=>some (.bool (Op.bytesLess a b))
 | .leq=>some (.bool (Op.bytesLess a b||decide (a=b)))
 | .gtr=>some (.bool (!(Op.bytesLess a b||decide (a=b))))
 | .geq=>some (.bool (!Op.bytesLess a b))
 | _=>none

def ah (op:BinOp) (x y:Value):Option Value:=
 match x,y with
 | .int k a,.int k' b=>
  match op with
  | .shl=>oc .shl k a b
  | .shr=>oc .shr k a b
  | op=>if k=k' then fY op k a b else none
 | .string s,.string t=>wG op (bytes s) (bytes t)
 | _,_=>none

def ri (neg:Bool) (x y:Value):Option Value:=
 match x,y with
 | .bool a,.bool b=>some (.bool (if neg then !(a==b) else a==b))
 | _,_=>none

def FK:Value→Option Bool
 | .slice none 0 0=>some true
 | .slice (some _) _ _=>some false
 | _=>none

def NI (neg:Bool) (x y:Value):Option Value:=
 match FK x,FK y with
 | some a,some b=>if a||b then some (.bool (if neg then !(a&&b) else a&&b)) else none
 | _,_=>none

def ft (op:UnOp) (x:Value):Option Value:=
 match op,x with
 | .neg,.int k n=>some (.int k (k.wrap (0-n)))
 | .not,.bool b=>some (.bool !b)
 | .xor,.int k n=>some (.int k (k.wrap (BitVec.ofInt k.bits (if k.signed then -1 else k.max)^^^BitVec.ofInt k.bits n).toNat))
 | _,_=>none

def cS (k:IntKind):Value→Option Value
 | .int _ n=>some (.int k (k.wrap n))
 | _=>none

def aag:Value→Option Value
 | .string s=>some (.string s)
 | _=>none

def fe:Value→Option Value
 | .string s=>some (.int .i64 (bytes s).length)
 | _=>none

def aY:Value→Option Value
 | .slice _ n _=>some (.int .i64 n)
 | _=>none

def max2 (mx:Bool):Value→Value→Option Value
 | .int k x,.int _ y=>some (.int k (if mx then (if y>x then y else x) else (if y<x then y else x)))
 | _,_=>none

def sG (mx:Bool):List Value→Option Value
 | .int k x::rest=>rest.foldlM (max2 mx) (.int k x)
 | _=>none

def hT (x i:Value):Option Value:=
 match x,i with
 | .string s,.int _ i=>if 0≤i then ((bytes s)[i.toNat]?).map fun b=>.int .u8 b.toNat else none
 | _,_=>none

def ck (agg:Bool) (off sz:Nat) (cs:List Value):Option Value:=
 if agg then (if off+sz≤cs.length then some (.agg ((cs.drop off).take sz).toArray) else none) else cs[off]?

def NJ (n aV:Nat) (agg:Bool) (x i:Value):Option Value:=
 match x,i with
 | .agg cs,.int _ i=>if 0≤i∧i<n then ck agg (i.toNat*aV) aV cs.toList else none
 | _,_=>none

def aS (aV:Nat) (x i:Value):Option Value:=
 match x,i with
 | .slice (some ⟨id,o,some _⟩) n _,.int _ i=>if 0≤i∧i<n then some (.pointer (some ⟨id,o+i.toNat*aV,none⟩)) else none
 | _,_=>none

def NG (n aV:Nat) (x i:Value):Option Value:=
 match x,i with
 | .pointer (some ⟨id,o,none⟩),.int _ i=>if 0≤i∧i<n then some (.pointer (some ⟨id,o+i.toNat*aV,none⟩)) else none
 | _,_=>none

def aE (off:Nat) (x:Value):Option Value:=
 match x with
 | .pointer (some ⟨id,o,none⟩)=>some (.pointer (some ⟨id,o+off,none⟩))
 | _=>none

def wF (agg:Bool) (off sz:Nat) (x:Value):Option Value:=
 match x with
 | .agg cs=>ck agg off sz cs.toList
 | _=>none

def qp:Value→Option Nat
 | .int _ i=>if 0≤i then some i.toNat else none
 | _=>none

def pc (n:Nat) (lo hi:Option Value):Option (Nat×Nat):=
 match (match lo with | none=>some 0 | some v=>qp v),(match hi with | none=>some n | some v=>qp v) with
 | some l,some h=>if l≤h∧h≤n then some (l,h) else none
 | _,_=>none

def iZ (x:Value) (lo hi:Option Value):Option Value:=
 match x with
 | .string s=>(pc (bytes s).length lo hi).map fun (l,h)=>S (((bytes s).take h).drop l)
 | _=>none

def kf (e:TypeId) (aV:Nat) (x:Value) (lo hi:Option Value):Option Value:=
 match x with
 | .slice none 0 0=>(pc 0 lo hi).map fun _=>.slice none 0 0
 | .slice (some ⟨id,o,some e'⟩) n _=>
  if e'=e then (pc n lo hi).map fun (l,h)=>.slice (some ⟨id,o+l*aV,some e⟩) (h-l) (h-l) else none
 | _=>none

def uj (x:Value):Option Value:=
 match x with
 | .pointer (some a)=>some (.pointer (some a))
 | .func f a b=>some (.func f a b)
 | _=>none

def b9 (i:Nat) (x:Value):Option Value:=
 match x with
 | .tuple vs=>vs[i]?
 | _=>none

def setAt (xs:List Value) (o:Nat) (vs:List Value):List Value:=xs.take o++vs++xs.drop (o+vs.length)

def pM:List Value→List (Nat×Nat×Value)→Option (List Value)
 | xs,[]=>some xs
 | xs,(off,size,v)::rest=>
  if gW v∧(cZ v).length=size∧off+size≤xs.length then pM (setAt xs off (cZ v)) rest else none

def cN (zero:List Value) (parts:List (Nat×Nat×Value)):Option Value:=(pM zero parts).map fun cs=>.agg cs.toArray

def bK (c a b:Value):Option Value:=
 match c with
 | .bool t=>some (if t then a else b)
 | _=>none

def Bz (x c:Value):Option Value:=
 match x,c with
 | .string s,.int .u8 c=>some (.int .i64 (Lib.indexByte (bytes s) c.toNat.toUInt8))
 | _,_=>none

def hX (o:nG) (g:Operand→Value):Option Value:=
 match o with
 | .mv x=>some (g x)
 | .pick c a b=>bK (g c) (g a) (g b)
 | .bin op x y=>ah op (g x) (g y)
 | .EK neg x y=>ri neg (g x) (g y)
 | .EL neg x y=>NI neg (g x) (g y)
 | .un op x=>ft op (g x)
 | .conv k x=>cS k (g x)
 | .QO x=>aag (g x)
 | .N8 x=>fe (g x)
 | .N9 x=>aY (g x)
 | .FV n=>some (.int .i64 n)
 | .BK mx xs=>sG mx (xs.map g)
 | .NR x i=>hT (g x) (g i)
 | .NP n aV agg x i=>NJ n aV agg (g x) (g i)
 | .KK aV x i=>aS aV (g x) (g i)
 | .KJ n aV x i=>NG n aV (g x) (g i)
 | .L6 off x=>aE off (g x)
 | .L9 agg off sz x=>wF agg off sz (g x)
 | .Hr x lo hi=>iZ (g x) (lo.map g) (hi.map g)
 | .Ht e aV x lo hi=>kf e aV (g x) (lo.map g) (hi.map g)
 | .Oq x=>uj (g x)
 | .fn f first captured=>some (.func (.func f) (first.map g).toArray (captured.map g).toArray)
 | .ext x i=>b9 i (g x)
 | .build zero parts=>cN zero (parts.map fun (o,s,x)=>(o,s,g x))
 | .NQ f x c=>
  match g (.func f) with
  | .func (.func f') a b=>if f'=f∧a.size=0∧b.size=0 then Bz (g x) (g c) else none
  | _=>none

def lV:TypeDesc→Bool
 | .struct _ | .array _ _=>true
 | _=>false

def xY (v:Value):Bool:=j6 v&&fw v

def zeroOf (P:Program) (t:TypeId):Option (List Value):=
 match P.info? t with
 | some i=>match i.zero with
  | some z=>if gW z&&(cZ z).all xY&&(cZ z).length==i.size then some (cZ z) else none
  | none=>none
 | none=>none

def placesOf (P:Program) (fs:Array Field):List (Nat×Nat):=fs.toList.map fun f=>(f.offset,P.cellsOf f.type)

def gw (P:Program) (t:TypeId):Bool:=(P.info? t).isSome

def LZ (P:Program) (f:FuncId):Bool:=
 match P.funcs[f]? with
 | some fn=>fn.body.isNone&&fn.name== "internal/bytealg.IndexByteString" &&(Extern.findNext fn).isNone
 | none=>false

def gJ (P:Program):Op→Option nG
 | .move x | .assign x=>some (.mv x)
 | .pick c a b=>some (.pick c a b)
 | .binOp op t x y _=>
  match op,P.underlying t with
  | .eql,some .bool=>some (.EK false x y)
  | .neq,some .bool=>some (.EK true x y)
  | .eql,some (.slice _)=>some (.EL false x y)
  | .neq,some (.slice _)=>some (.EL true x y)
  | op,_=>some (.bin op x y)
 | .unOp op _ x=>some (.un op x)
 | .convert s d x=>
  match P.underlying s,P.underlying d with
  | some (.int _),some (.int k)=>some (.conv k x)
  | some .string,some .string=>some (.QO x)
  | _,_=>none
 | .call { callee:=.builtin .len,args,argTypes }=>
  match args.toList,argTypes.toList with
  | [x],[t]=>
   match P.underlying t with
   | some .string=>some (.N8 x)
   | some (.slice _)=>some (.N9 x)
   | some (.array n _)=>some (.FV n)
   | _=>none
  | _,_=>none
 | .call { callee:=.builtin .min,args,argTypes:=_ }=>some (.BK false args.toList)
 | .call { callee:=.builtin .max,args,argTypes:=_ }=>some (.BK true args.toList)
 | .call { callee:=.value (.func f),args,argTypes:=_ }=>
  match args.toList with
  | [x,c]=>if LZ P f then some (.NQ f x c) else none
  | _=>none
 | .index t x i=>
  match P.underlying t with
  | some .string=>some (.NR x i)
  | some (.array n e)=>
   match P.underlying e with
   | some d=>if gw P e&&(lV d||P.cellsOf e==1) then some (.NP n (P.cellsOf e) (lV d) x i) else none
   | none=>none
  | _=>none
 | .indexAddr t x i=>
  match P.underlying t with
  | some (.slice e)=>if gw P e then some (.KK (P.cellsOf e) x i) else none
  | some (.array n e)=>if gw P e then some (.KJ n (P.cellsOf e) x i) else none
  | _=>none
 | .fieldAddr t x f=>
  match P.underlying t with
  | some (.struct fs)=>
   match fs[f]? with
   | some fd=>if gw P fd.type&&P.cellsOf fd.type != 0 then some (.L6 fd.offset x) else none
   | none=>none
  | _=>none
 | .field t x f=>
  match P.underlying t with
  | some (.struct fs)=>
   match fs[f]? with
   | some fd=>
    match P.underlying fd.type with
    | some d=>if gw P fd.type&&(lV d||P.cellsOf fd.type==1) then some (.L9 (lV d) fd.offset (P.cellsOf fd.type) x) else none
    | none=>none
   | none=>none
  | _=>none
 | .slice t x lo hi mx=>
  match P.underlying t,mx with
  | some .string,none=>some (.Hr x lo hi)
  | some (.slice e),none=>if gw P e then some (.Ht e (P.cellsOf e) x lo hi) else none
  | _,_=>none
 | .nilCheck x=>some (.Oq x)
 | .makeFunc (.func f) first captured=>some (.fn f first.toList captured.toList)
 | .extract x i=>some (.ext x i)
 | .build t parts=>
  match P.underlying t,zeroOf P t with
  | some (.struct fs),some z=>
   if fs.all fun f=>gw P f.type then
    match parts.toList.mapM (m:=Option) fun (i,x)=>(placesOf P fs)[i]? |>.map fun (o,s)=>(o,s,x) with
    | some ps=>some (.build z ps)
    | none=>none
   else none
  | some (.array _ e),some z=>if gw P e then some (.build z (parts.toList.map fun (i,x)=>(i*P.cellsOf e,P.cellsOf e,x))) else none
  | _,_=>none
 | _=>none

end Go.Sim


namespace Go.Sim

theorem av.kh {ρ:aI} {k:IntKind} {n:Int} {v:Value} (h:av ρ (.int k n) v):v=.int k n:=by cases h;rfl
theorem av.ve {ρ:aI} {b:Bool} {v:Value} (h:av ρ (.bool b) v):v=.bool b:=by cases h;rfl
theorem av.sY {ρ:aI} {s:ByteArray} {v:Value} (h:av ρ (.string s) v):v=.string s:=by cases h;rfl
theorem av.S (ρ:aI) (l:List UInt8):av ρ (S l) (S l):=.string _

theorem toList_eq (s:ByteArray):s.toList=bytes s:=by
 obtain ⟨⟨l⟩⟩:=s
 exact ByteArray.toList_mk l

theorem amb (s t:ByteArray):(s.toList==t.toList)=decide (bytes s=bytes t):=by
 rw [toList_eq,toList_eq]
 by_cases h:bytes s=bytes t <;> simp [h]

theorem size_bytes (s:ByteArray):s.size=(bytes s).length:=by simp [bytes]

theorem al2 (s t:ByteArray):s++t=⟨(bytes s++bytes t).toArray⟩:=by
 apply ByteArray.ext
 apply Array.ext'
 simp [bytes]

section
variable (P : Program) (w : World)

theorem ayF {op:BinOp} {k:IntKind} {a b:Int} {v:Value} (t:TypeId) (cI:op≠ .shl) (asc:op≠ .shr) (h:fY op k a b=some v):
  (binOp op t (.int k a) (.int k b)).run P w=.ok v w:=by
 cases op <;> simp [fY] at h <;> simp at cI asc <;> (first | subst h | (obtain ⟨hb,h⟩:=h;subst h)) <;>
  simp_all [binOp,Op.intArith,Op.intDiv,Op.intBits,Op.intCmp]
 ·rw [Bool.eq_iff_iff];simp
 ·rw [Bool.eq_iff_iff];simp

theorem ahc {op:BinOp} {k k':IntKind} {a b:Int} {v:Value} (t:TypeId) (cI:op=.shl∨op=.shr) (h:oc op k a b=some v):
  (binOp op t (.int k a) (.int k' b)).run P w=.ok v w:=by
 unfold oc at h
 by_cases hb:b<0
 ·rw [if_pos hb] at h;cases h
 ·rw [if_neg hb] at h
  rcases cI with rfl | rfl <;> simp at h <;> subst h <;> simp [binOp,Op.shift,hb]

theorem ayT {op:BinOp} {s s':ByteArray} {v:Value} (t:TypeId) (h:wG op (bytes s) (bytes s')=some v):
  (binOp op t (.string s) (.string s')).run P w=.ok v w:=by
 have e1:=amb s s'
 have hl:IntKind.i64.max=9223372036854775807:=rfl
 cases op <;> simp [wG] at h <;> (first | subst h | (obtain ⟨hb,h⟩:=h;subst h)) <;> simp only [binOp,Op.stringOp]
 all_goals first
  | (rw [e1];simp [toList_eq];done)
  | (simp [toList_eq];done)
  | skip
 ·unfold maxLen at hb
  rw [if_neg (by rw [hl,size_bytes,size_bytes];omega)]
  rw [al2]
  rfl

theorem ayl (op:BinOp) (t:TypeId) (x y:Operand) (k k':IntKind) (a b:Int):(eqGuard op t x y (.int k a) (.int k' b)).run P w=.ok () w:=by
 unfold eqGuard
 cases op <;> simp
theorem ayn (op:BinOp) (t:TypeId) (x y:Operand) (a b:ByteArray):(eqGuard op t x y (.string a) (.string b)).run P w=.ok () w:=by
 unfold eqGuard
 cases op <;> simp
theorem ayk (op:BinOp) (t:TypeId) (x y:Operand) (a b:Bool):(eqGuard op t x y (.bool a) (.bool b)).run P w=.ok () w:=by
 unfold eqGuard
 cases op <;> simp
theorem aym (op:BinOp) (t:TypeId) (x y:Operand) (a b:Option Addr) (n m c d:Nat):(eqGuard op t x y (.slice a n c) (.slice b m d)).run P w=.ok () w:=by
 unfold eqGuard
 cases op <;> simp

theorem ayt {ρ:aI} {op:BinOp} {x y x' y' v:Value} (t:TypeId) (ox oy:Operand) (h:ah op x y=some v) (hx:av ρ x x') (hy:av ρ y y'):
  (do eqGuard op t ox oy x' y';binOp op t x' y':Sem Value).run P w=.ok v w∧av ρ v v:=by
 unfold ah at h
 split at h
 ·rename_i k a k' b
  rw [hx.kh,hy.kh]
  have hv:(binOp op t (.int k a) (.int k' b)).run P w=.ok v w∧av ρ v v:=by
   split at h
   ·refine ⟨ahc P w t (.inl rfl) h,?_⟩
    unfold oc at h
    split at h <;> simp at h
    subst h;exact .int _ _
   ·refine ⟨ahc P w t (.inr rfl) h,?_⟩
    unfold oc at h
    split at h <;> simp at h
    subst h;exact .int _ _
   ·rename_i h1 h2
    split at h
    ·rename_i hk
     subst hk
     refine ⟨ayF P w t h1 h2 h,?_⟩
     cases op <;> simp [fY] at h <;> (first | subst h | (obtain ⟨_,h⟩:=h;subst h)) <;> first | exact .int _ _ | exact .bool _
    ·cases h
  simp only [Sem.run_bind,ayl,Result.andThen_ok]
  exact hv
 ·rename_i s s'
  rw [hx.sY,hy.sY]
  simp only [Sem.run_bind,ayn,Result.andThen_ok]
  refine ⟨ayT P w t h,?_⟩
  cases op <;> simp [wG] at h <;> (first | subst h | (obtain ⟨_,h⟩:=h;subst h)) <;> first | exact .string _ | exact .bool _
 ·cases h

theorem ag5 {ρ:aI} {neg:Bool} {op:BinOp} {x y x' y' v:Value} (t:TypeId) (ox oy:Operand) (ht:P.underlying t=some .bool) (cI:op=if neg then .neq else .eql)
  (h:ri neg x y=some v) (hx:av ρ x x') (hy:av ρ y y'):
  (do eqGuard op t ox oy x' y';binOp op t x' y':Sem Value).run P w=.ok v w∧av ρ v v:=by
 unfold ri at h
 split at h
 ·rename_i a b
  rw [hx.ve,hy.ve]
  simp only [Sem.run_bind,ayk,Result.andThen_ok]
  simp at h
  subst h
  refine ⟨?_,.bool _⟩
  cases neg <;> simp at cI <;> subst cI
  ·exact run_eql_bool w t a b ht
  ·exact run_neq_bool w t a b ht
 ·cases h

theorem ag6 {ρ:aI} {neg:Bool} {op:BinOp} {x y x' y' v:Value} {e:TypeId} (t:TypeId) (ox oy:Operand) (ht:P.underlying t=some (.slice e)) (cI:op=if neg then .neq else .eql)
  (h:NI neg x y=some v) (hx:av ρ x x') (hy:av ρ y y'):
  (do eqGuard op t ox oy x' y';binOp op t x' y':Sem Value).run P w=.ok v w∧av ρ v v:=by
 unfold NI at h
 split at h
 ·rename_i a b ha hb
  split at h
  ·rename_i gr
   simp at h
   subst h
   refine ⟨?_,.bool _⟩
   cases hx <;> simp [FK] at ha <;> cases hy <;> simp [FK] at hb <;> subst ha <;> subst hb <;> simp at gr
   all_goals
    simp only [Sem.run_bind,aym,Result.andThen_ok]
    cases neg <;> simp at cI <;> subst cI <;> simp only [Lib.run_eql_slice_nil w t e _ _ _ _ _ ht,run_neq_slice_nil_any w t e _ _ _ _ _ ht,run_eql_nil_slice w t e _ _ _ _ _ ht,run_neq_nil_slice w t e _ _ _ _ _ ht] <;> simp
  ·cases h
 ·cases h

theorem ayU {ρ:aI} {op:UnOp} {x x' v:Value} (h:ft op x=some v) (hx:av ρ x x'):(Op.unary op x').run P w=.ok v w∧av ρ v v:=by
 unfold ft at h
 split at h
 ·rw [hx.kh];simp at h;subst h;exact ⟨by simp [Op.unary,Op.intArith],.int _ _⟩
 ·rw [hx.ve];simp at h;subst h;exact ⟨by simp [Op.unary],.bool _⟩
 ·rw [hx.kh];simp only [Option.some.injEq] at h;subst h;exact ⟨rfl,.int _ _⟩
 ·cases h

end
end Go.Sim


namespace Go.Sim

section
variable {P : Program} (w : World)

theorem as1 {t:TypeId} (h:gw P t=true):∃i,P.info? t=some i:=by
 unfold gw at h
 exact Option.isSome_iff_exists.1 h

theorem oz {t:TypeId} (h:gw P t=true):(sizeOf t).run P w=.ok (P.cellsOf t) w:=by
 obtain ⟨i,hi⟩:=as1 h
 exact run_sizeOf w hi

theorem QD {t:TypeId} {d:TypeDesc} (h:P.underlying t=some d):(isAgg t).run P w=.ok (lV d) w:=by
 cases d <;> simp [isAgg,run_underlying h,lV]

theorem aud {mx:Bool} {k:IntKind} {x:Int} {y v:Value} (h:max2 mx (.int k x) y=some v):∃k' b,y=.int k' b∧∃z,v=.int k z:=by
 unfold max2 at h
 split at h
 ·rename_i k2 x2 k3 y2 e
  cases e
  simp at h
  exact ⟨k3,y2,rfl,_,h.symm⟩
 ·cases h

theorem QE {ρ:aI} {mx:Bool}:∀{xs xs':List Value} {k:IntKind} {x:Int} {v:Value},xs.foldlM (max2 mx) (.int k x)=some v→bn ρ xs xs'→
  (xs'.foldlM (if mx then Builtin.max2 else Builtin.min2) (.int k x):Sem Value).run P w=.ok v w∧av ρ v v
 | [],xs',k,x,v,h,hs=>by
  cases hs
  simp at h
  subst h
  exact ⟨rfl,.int _ _⟩
 | y::xs,xs',k,x,v,h,hs=>by
  cases hs with
  | cons hy hs=>
   simp only [List.foldlM_cons,Option.bind_eq_bind,Option.bind_eq_some_iff] at h
   obtain ⟨u,hu,h⟩:=h
   obtain ⟨k',b,rfl,z,rfl⟩:=aud hu
   have ih:=QE (ρ:=ρ) h hs
   refine ⟨?_,ih.2⟩
   rw [hy.kh]
   simp only [List.foldlM_cons,Sem.run_bind]
   simp only [max2,Option.some.injEq,Value.int.injEq,true_and] at hu
   cases mx
   ·simp at hu⊢
    simp only [Builtin.min2,Sem.run_pure,Result.andThen_ok,hu]
    simpa using ih.1
   ·simp at hu⊢
    simp only [Builtin.max2,Sem.run_pure,Result.andThen_ok,gt_iff_lt,hu]
    simpa using ih.1

theorem ayE {ρ:aI} {t:TypeId} {x i x' i' v:Value} (ht:P.underlying t=some .string) (h:hT x i=some v) (hx:av ρ x x') (hi:av ρ i i'):
  (Instr.index t x' i').run P w=.ok v w∧av ρ v v:=by
 unfold hT at h
 split at h
 ·rename_i s k j
  rw [hx.sY,hi.kh]
  split at h
  ·rename_i h0
   simp only [Option.map_eq_some_iff] at h
   obtain ⟨b,hb,rfl⟩:=h
   refine ⟨?_,.int _ _⟩
   have kQ:s[j.toNat]?=some b:=by
    have aB:=(List.getElem?_eq_some_iff.1 hb).1
    have:j.toNat<s.size:=by rw [size_bytes];exact aB
    rw [getElem?_pos s j.toNat this]
    have e:=(List.getElem?_eq_some_iff.1 hb).2
    simp only [bytes,Array.getElem_toList] at e
    rw [←e]
    rfl
   simp [Instr.index,asIntOf,run_underlying ht,h0,kQ]
  ·cases h
 ·cases h

theorem asO {ρ:aI} {agg:Bool} {off sz:Nat} {cs:List Value} {hC:Array Value} {v:Value} (h:ck agg off sz cs=some v) (hs:bn ρ cs hC.toList) (h1:∀x∈cs,fw x=true):
  ∃v',(if agg then some (.agg (hC.extract off (off+sz))) else hC[off]?)=some v'∧av ρ v v':=by
 unfold ck at h
 cases agg
 ·simp at h⊢
  obtain ⟨y,hy,hr⟩:=hs.get h
  exact ⟨y,by simpa using hy,hr⟩
 ·simp at h⊢
  obtain ⟨hl,rfl⟩:=h
  have:=((hs.drop off).take sz)
  have e:(hC.extract off (off+sz))=((hC.toList.drop off).take sz).toArray:=by
   apply Array.ext'
   simp [List.take_drop]
  rw [e]
  exact .xT this (fun x hx=>h1 x (List.mem_of_mem_drop (List.mem_of_mem_take hx)))

theorem ahb {ρ:aI} {t:TypeId} {d:TypeDesc} {off:Nat} {cs:List Value} {hC:Array Value} {v:Value} (ht:P.underlying t=some d) (hk:gw P t=true)
  (h:ck (lV d) off (P.cellsOf t) cs=some v) (hs:bn ρ cs hC.toList) (h1:∀x∈cs,fw x=true):
  ∃v',(part t hC off).run P w=.ok v' w∧av ρ v v':=by
 obtain ⟨v',hv,hr⟩:=asO h hs h1
 refine ⟨v',?_,hr⟩
 unfold part
 simp only [Sem.run_bind,QD w ht,Result.andThen_ok]
 cases hd:lV d
 ·rw [hd] at hv
  simp at hv⊢
  rw [hv]
  rfl
 ·rw [hd] at hv
  simp at hv⊢
  simp only [oz w hk,Result.andThen_ok,hv]

theorem av.T5 {ρ:aI} {cs:Array Value} {x':Value} (h:av ρ (.agg cs) x'):∃hC,x'=.agg hC∧bn ρ cs.toList hC.toList∧∀x∈cs.toList,fw x=true:=by
 cases h with
 | agg hs h1 h=>exact ⟨_,rfl,bn.qC hs h,h1⟩

theorem ayD {ρ:aI} {t e:TypeId} {d:TypeDesc} {n:Nat} {x i x' i' v:Value} (ht:P.underlying t=some (.array n e)) (he:P.underlying e=some d) (hk:gw P e=true)
  (h:NJ n (P.cellsOf e) (lV d) x i=some v) (hx:av ρ x x') (hi:av ρ i i'):
  ∃v',(Instr.index t x' i').run P w=.ok v' w∧av ρ v v':=by
 unfold NJ at h
 split at h
 ·rename_i cs k j
  obtain ⟨hC,rfl,hs,h1⟩:=hx.T5
  rw [hi.kh]
  split at h
  ·rename_i h0
   obtain ⟨v',hr,hv⟩:=ahb w he hk h hs h1
   refine ⟨v',?_,hv⟩
   simp [Instr.index,asIntOf,run_underlying ht,h0,oz w hk,hr]
  ·cases h
 ·cases h

theorem ayC {ρ:aI} {t:TypeId} {fs:Array Field} {f:Nat} {fd:Field} {d:TypeDesc} {x x' v:Value} (ht:P.underlying t=some (.struct fs)) (hf:fs[f]?=some fd) (he:P.underlying fd.type=some d)
  (hk:gw P fd.type=true) (h:wF (lV d) fd.offset (P.cellsOf fd.type) x=some v) (hx:av ρ x x'):
  ∃v',(Instr.field t x' f).run P w=.ok v' w∧av ρ v v':=by
 unfold wF at h
 split at h
 ·rename_i cs
  obtain ⟨hC,rfl,hs,h1⟩:=hx.T5
  obtain ⟨v',hr,hv⟩:=ahb w he hk h hs h1
  refine ⟨v',?_,hv⟩
  simp [Instr.field,run_underlying ht,hf,asAgg,hr]
 ·cases h

theorem ayp {ρ:aI} {t e:TypeId} {x i x' i' v:Value} (ht:P.underlying t=some (.slice e)) (hk:gw P e=true)
  (h:aS (P.cellsOf e) x i=some v) (hx:av ρ x x') (hi:av ρ i i'):
  ∃v',(Instr.indexAt t x' i').run P w=.ok v' w∧av ρ v v':=by
 unfold aS at h
 split at h
 ·rename_i id o e' n c k j
  split at h
  ·rename_i h0
   simp at h
   subst h
   rw [hi.kh]
   cases hx with
   | slice hr ho hn hc hb=>
    rename_i o' c' r
    have c9:o'=r.sh+o:=by
     rcases ho with ho | ⟨h1,h2,h3⟩
     ·exact ho
     ·omega
    subst c9
    refine ⟨_,?_,av.ptr hr⟩
    simp [Instr.indexAt,asIntOf,run_underlying ht,h0,oz w hk,Addr.add_lit,Nat.add_assoc]
  ·cases h
 ·cases h

theorem av.B7 {ρ:aI} {id o:Nat} {x':Value} (h:av ρ (.pointer (some ⟨id,o,none⟩)) x'):∃r,ρ id=some r∧x'=.pointer (some ⟨r.bm,r.sh+o,none⟩):=by
 cases h with
 | ptr hr=>exact ⟨_,hr,rfl⟩

theorem ayo {ρ:aI} {t e:TypeId} {n:Nat} {x i x' i' v:Value} (ht:P.underlying t=some (.array n e)) (hk:gw P e=true)
  (h:NG n (P.cellsOf e) x i=some v) (hx:av ρ x x') (hi:av ρ i i'):
  ∃v',(Instr.indexAt t x' i').run P w=.ok v' w∧av ρ v v':=by
 unfold NG at h
 split at h
 ·rename_i id o k j
  split at h
  ·rename_i h0
   simp at h
   subst h
   rw [hi.kh]
   obtain ⟨r,hr,rfl⟩:=hx.B7
   refine ⟨_,?_,av.ptr hr⟩
   simp [Instr.indexAt,asIntOf,run_underlying ht,h0,oz w hk,Instr.sureAddr,Addr.add_lit,Nat.add_assoc]
  ·cases h
 ·cases h

theorem ayB {ρ:aI} {t:TypeId} {fs:Array Field} {f:Nat} {fd:Field} {x x' v:Value} (ht:P.underlying t=some (.struct fs)) (hf:fs[f]?=some fd) (hk:gw P fd.type=true)
  (hz:P.cellsOf fd.type≠0) (h:aE fd.offset x=some v) (hx:av ρ x x'):
  ∃v',(Instr.fieldAt t x' f).run P w=.ok v' w∧av ρ v v':=by
 unfold aE at h
 split at h
 ·rename_i id o
  simp at h
  subst h
  obtain ⟨r,hr,rfl⟩:=hx.B7
  refine ⟨_,?_,av.ptr hr⟩
  simp [Instr.fieldAt,run_underlying ht,hf,Instr.sureAddr,fieldPlace,oz w hk,hz,Addr.add_lit,Nat.add_assoc]
 ·cases h

theorem abh {ρ:aI} {v v':Value} {n:Nat} (h:qp v=some n) (hv:av ρ v v'):∃k i,v'=.int k i∧0≤i∧i.toNat=n:=by
 unfold qp at h
 split at h
 ·rename_i k i
  rw [hv.kh]
  split at h
  ·rename_i h0
   simp at h
   exact ⟨k,i,rfl,h0,h⟩
  ·cases h
 ·cases h

def uP (ρ:aI):Option Value→Option Value→Prop
 | none,none=>True
 | some a,some b=>av ρ a b
 | _,_=>False

theorem QC {ρ:aI} {n cap:Nat} {isSlice:Bool} {lo hi mL gL:Option Value} {l h:Nat} (he:pc n lo hi=some (l,h)) (hc:n≤cap) (dC:uP ρ lo mL) (iy:uP ρ hi gL):
  (Instr.sliceBounds isSlice n cap mL gL none).run P w=.ok (l,h,cap) w∧l≤h∧h≤n:=by
 unfold pc at he
 split at he
 ·rename_i l1 h1 hl hh
  split at he
  ·rename_i hb
   simp at he
   obtain ⟨rfl,rfl⟩:=he
   refine ⟨?_,hb.1,hb.2⟩
   have bh:∀(v:Value),gL=some v→∃k i,v=.int k i∧0≤i∧i.toNat=h1:=by
    intro v hv
    subst hv
    cases hi with
    | none=>exact iy.elim
    | some u=>exact abh hh iy
   have bh0:gL=none→h1=n:=by
    intro hv
    subst hv
    cases hi with
    | none=>simpa using hh.symm
    | some u=>exact iy.elim
   have bl:∀(v:Value),mL=some v→∃k i,v=.int k i∧0≤i∧i.toNat=l1:=by
    intro v hv
    subst hv
    cases lo with
    | none=>exact dC.elim
    | some u=>exact abh hl dC
   have Uj:mL=none→l1=0:=by
    intro hv
    subst hv
    cases lo with
    | none=>simpa using hl.symm
    | some u=>exact dC.elim
   unfold Instr.sliceBounds
   cases gL with
   | none=>
    obtain rfl:=bh0 rfl
    cases mL with
    | none=>obtain rfl:=Uj rfl;simp
    | some v=>
     obtain ⟨k,i,rfl,h0,rfl⟩:=bl v rfl
     have:i≤(h1:Int):=by omega
     simp [Instr.sliceBound,asIntOf,h0,this]
   | some u=>
    obtain ⟨k,i,rfl,h0,rfl⟩:=bh u rfl
    have Zk:i≤(cap:Int):=by omega
    cases mL with
    | none=>obtain rfl:=Uj rfl;simp [Instr.sliceBound,asIntOf,h0,Zk]
    | some v=>
     obtain ⟨k2,j,rfl,h2,rfl⟩:=bl v rfl
     have:j≤i:=by omega
     simp [Instr.sliceBound,asIntOf,h0,Zk,h2,this,Int.toNat_of_nonneg h0]
  ·cases he
 ·cases he

theorem aq3 (s:ByteArray) (l h:Nat):s.extract l h=⟨(((bytes s).take h).drop l).toArray⟩:=by
 apply ByteArray.ext
 apply Array.ext'
 simp only [bytes,ByteArray.data_extract,Array.toList_extract,List.drop_take]

theorem ayQ {ρ:aI} {t:TypeId} {x x' v:Value} {lo hi mL gL:Option Value} (ht:P.underlying t=some .string) (h:iZ x lo hi=some v) (hx:av ρ x x')
  (dC:uP ρ lo mL) (iy:uP ρ hi gL):(Instr.sliceAt t x' mL gL none).run P w=.ok v w∧av ρ v v:=by
 unfold iZ at h
 split at h
 ·rename_i s
  rw [hx.sY]
  simp only [Option.map_eq_some_iff,Prod.exists] at h
  obtain ⟨l,u,hb,rfl⟩:=h
  obtain ⟨hr,h1,h2⟩:=QC (P:=P) w (isSlice:=false) hb (Nat.le_refl _) dC iy
  refine ⟨?_,av.S _ _⟩
  rw [←size_bytes] at hr
  simp [Instr.sliceAt,Instr.slice,run_underlying ht,hr,S,aq3]
 ·cases h

theorem ayR {ρ:aI} {t e:TypeId} {x x' v:Value} {lo hi mL gL:Option Value} (hH:∀i r,ρ i=some r→r.aV=P.cellsOf r.elem) (ht:P.underlying t=some (.slice e)) (hk:gw P e=true)
  (h:kf e (P.cellsOf e) x lo hi=some v) (hx:av ρ x x') (dC:uP ρ lo mL) (iy:uP ρ hi gL):
  ∃v',(Instr.sliceAt t x' mL gL none).run P w=.ok v' w∧av ρ v v':=by
 unfold kf at h
 split at h
 ·simp only [Option.map_eq_some_iff,Prod.exists] at h
  obtain ⟨l,u,hb,rfl⟩:=h
  obtain ⟨hr,h1,h2⟩:=QC (P:=P) w (isSlice:=true) hb (Nat.le_refl _) dC iy
  cases hx
  refine ⟨_,?_,.om⟩
  obtain rfl:u=0:=by omega
  obtain rfl:l=0:=by omega
  simp [Instr.sliceAt,Instr.slice,run_underlying ht,hr,oz w hk]
 ·rename_i id o e' n c
  split at h
  ·rename_i MJ
   subst MJ
   simp only [Option.map_eq_some_iff,Prod.exists] at h
   obtain ⟨l,u,hb,rfl⟩:=h
   cases hx with
   | slice hr ho hn hc yr=>
    rename_i o' c' r
    obtain ⟨fz,h1,h2⟩:=QC (P:=P) w (isSlice:=true) hb hn dC iy
    have iX:=hH _ _ hr
    by_cases fa:c'=l
    ·refine ⟨.slice (some ⟨r.bm,o',none⟩) (u-l) (c' -l),?_,?_⟩
     ·rw [fa] at fz⊢
      simp [Instr.sliceAt,Instr.slice,run_underlying ht,fz,oz w hk]
     ·refine av.slice hr ?_ (by omega) (by omega) ?_
      ·rcases Nat.eq_zero_or_pos (l*P.cellsOf r.elem) with hz | hz
       ·rw [hz]
        rcases ho with ho | ⟨q1,q2,q3⟩
        ·exact .inl (by omega)
        ·exact .inr ⟨by omega,by omega,by omega⟩
       ·exact .inr ⟨by omega,by omega,by omega⟩
      ·have:c' -l=0:=by omega
       rw [this]
       have:o'≤o'+c'*r.aV:=Nat.le_add_right _ _
       omega
    ·refine ⟨.slice (some ⟨r.bm,o'+l*P.cellsOf r.elem,none⟩) (u-l) (c' -l),?_,?_⟩
     ·simp [Instr.sliceAt,Instr.slice,run_underlying ht,fz,oz w hk,fa,Addr.add_lit]
     ·refine av.slice hr ?_ (by omega) (by omega) ?_
      ·rcases ho with ho | ⟨q1,q2,q3⟩
       ·exact .inl (by omega)
       ·exfalso;omega
      ·rw [←iX]
       have e1:l*r.aV+(c' -l)*r.aV=c'*r.aV:=by rw [←Nat.add_mul];congr 1;omega
       omega
  ·cases h
 ·cases h

theorem ayO {ρ:aI} {o:Oper} {ox:Operand} {g':Operand→Value} {x v:Value} (ho:o.op=.nilCheck ox) (h:uj x=some v) (hx:av ρ x (g' ox)):
  ∃v',(execOp g' o).run P w=.ok (.value v') w∧av ρ v v':=by
 unfold uj at h
 split at h
 ·simp at h
  subst h
  generalize hy:g' ox=y at hx
  have bJ:=hx
  cases hx with
  | ptr hr=>
   refine ⟨_,?_,bJ⟩
   simp [execOp,ho,hy]
 ·simp at h
  subst h
  generalize hy:g' ox=y at hx
  have bJ:=hx
  cases hx with
  | func f a b c d=>
   refine ⟨_,?_,bJ⟩
   simp [execOp,ho,hy]
  | yield hr=>
   refine ⟨_,?_,bJ⟩
   simp [execOp,ho,hy]
 ·cases h

theorem ayA {ρ:aI} {x x' v:Value} {i:Nat} (h:b9 i x=some v) (hx:av ρ x x'):∃v',(Instr.extract x' i).run P w=.ok v' w∧av ρ v v':=by
 unfold b9 at h
 split at h
 ·cases hx with
  | tuple hs hr=>
   obtain ⟨y,hy,hv⟩:=(bn.qC hs hr).get (k:=i) (x:=v) (by simpa using h)
   refine ⟨y,?_,hv⟩
   simp only [Array.getElem?_toList] at hy
   simp [Instr.extract,hy]
 ·cases h

end

theorem bn.wX {ρ:aI} {g g':Operand→Value} (hg:∀x,hY x=true→av ρ (g x) (g' x)):∀{xs:List Operand},xs.all hY=true→bn ρ (xs.map g) (xs.map g')
 | [],_=>.nil
 | x::xs,h=>by
  simp at h
  exact .cons (hg x h.1) (bn.wX hg (by simpa using h.2))

end Go.Sim


namespace Go.Sim

theorem ayZ (l:List Value) (o:Nat) (v:Value) (vs:List Value) (h:o<l.length):setAt (l.set o v) (o+1) vs=setAt l o (v::vs):=by
 have e:l.set o v=l.take o++v::l.drop (o+1):=by rw [List.set_eq_take_append_cons_drop,if_pos h]
 have hl:(l.take o).length=o:=by simp;omega
 unfold setAt
 have e1:(l.set o v).take (o+1)=l.take o++[v]:=by
  rw [e,List.take_append,hl,List.take_of_length_le (by omega)]
  simp
 have e2:(l.set o v).drop (o+1+vs.length)=l.drop (o+(v::vs).length):=by
  rw [List.drop_set,if_pos (by omega)]
  congr 1
  simp
  omega
 rw [e1,e2]
 simp

theorem ay3 (vs:List Value):∀(off i:Nat) (cs:Array Value),off+i+vs.length≤cs.size→
  ((vs.zipIdx i).foldl (fun cs (c,j)=>cs.setIfInBounds (off+j) c) cs).toList=setAt cs.toList (off+i) vs:=by
 induction vs with
 | nil=>intro off i cs h;simp [setAt]
 | cons v vs ih=>
  intro off i cs h
  simp only [List.zipIdx_cons,List.foldl_cons]
  rw [ih off (i+1) _ (by simp at h⊢;omega)]
  rw [Array.toList_setIfInBounds,show off+(i+1)=off+i+1 by omega]
  exact ayZ _ _ _ _ (by simp at h⊢;omega)

theorem ay2 {ρ:aI} {xs ys:List Value} (h:bn ρ xs ys) {o:Nat} {vs iB:List Value} (hv:bn ρ vs iB):bn ρ (setAt xs o vs) (setAt ys o iB):=by
 unfold setAt
 rw [←hv.length]
 exact ((h.take o).append hv).append (h.drop _)

theorem ay0 {xs:List Value} {o:Nat} {vs:List Value} {p:Value→Prop} (h:∀x∈xs,p x) (hv:∀x∈vs,p x):∀x∈setAt xs o vs,p x:=by
 intro x hx
 unfold setAt at hx
 simp only [List.mem_append] at hx
 rcases hx with (hx | hx) | hx
 ·exact h x (List.mem_of_mem_take hx)
 ·exact hv x hx
 ·exact h x (List.mem_of_mem_drop hx)

inductive rL (ρ:aI) (place:Nat→Option (Nat×Nat)):List (Nat×Nat×Value)→List (Nat×Value)→Prop
 | nil:rL ρ place [] []
 | cons {o s i:Nat} {v v':Value} {ps:List (Nat×Nat×Value)} {qs:List (Nat×Value)}:place i=some (o,s)→av ρ v v'→rL ρ place ps qs→rL ρ place ((o,s,v)::ps) ((i,v')::qs)

theorem L7 {ρ:aI} {place:Nat→Option (Nat×Nat)} {ps:List (Nat×Nat×Value)} {qs:List (Nat×Value)} (hp:rL ρ place ps qs):
  ∀{xs cs:List Value} {ys:Array Value},pM xs ps=some cs→bn ρ xs ys.toList→(∀x∈xs,fw x=true)→
   ∃hC,Instr.fill place ys qs=some hC∧bn ρ cs hC.toList∧(∀x∈cs,fw x=true)∧cs.length=xs.length:=by
 induction hp with
 | nil=>
  intro xs cs ys h hs h1
  simp [pM] at h
  subst h
  exact ⟨ys,by simp [Instr.fill],hs,h1,rfl⟩
 | cons kB hv _ ih=>
  rename_i o s i v v' ps qs _
  intro xs cs ys h hs h1
  simp only [pM] at h
  split at h
  ·rename_i hc
   obtain ⟨ht,hl,ho⟩:=hc
   have yO:=hv.cells ht
   have kU:v'.cells.size=s:=by rw [←hl,yO.length];simp [cZ]
   have jC:o+v'.cells.size≤ys.size:=by have:=hs.length;simp at this;omega
   have A7:=ay3 (cZ v') o 0 ys (by simp [cZ];omega)
   simp only [Nat.add_zero] at A7
   have tP:v'.cells.zipIdx.foldl (fun cs x=>cs.setIfInBounds (o+x.2) x.1) ys=(setAt ys.toList o (cZ v')).toArray:=by
    apply Array.ext'
    rw [←A7,←Array.foldl_toList]
    simp [cZ,Array.toList_zipIdx]
   obtain ⟨hC,hf,hr,h2,hlen⟩:=ih (ys:=(setAt ys.toList o (cZ v')).toArray) h (by simpa using ay2 hs yO) (ay0 h1 (hv.Ew ht))
   refine ⟨hC,?_,hr,h2,?_⟩
   ·unfold Instr.fill
    simp only [kB]
    rw [if_neg (by simp [kU];omega)]
    rw [←hf,←tP]
   ·rw [hlen]
    simp [setAt]
    omega
  ·cases h

theorem zU {P:Program} {t:TypeId} {zs:List Value} (h:zeroOf P t=some zs):
  ∃i z,P.info? t=some i∧i.zero=some z∧zs=cZ z∧gW z=true∧(∀x∈zs,j6 x=true∧fw x=true)∧zs.length=i.size:=by
 unfold zeroOf at h
 split at h
 ·rename_i i hi
  split at h
  ·rename_i z hz
   split at h
   ·rename_i hc
    simp at h
    subst h
    simp only [Bool.and_eq_true,List.all_eq_true,xY,beq_iff_eq] at hc
    exact ⟨i,z,hi,hz,rfl,hc.1.1,fun x hx=>hc.1.2 x hx,hc.2⟩
   ·cases h
  ·cases h
 ·cases h

theorem bn.closed {ρ:aI}:∀{zs:List Value},(∀x∈zs,j6 x=true)→bn ρ zs zs
 | [],_=>.nil
 | x::zs,h=>.cons (j6.rel (h x (by simp))) (bn.closed fun y hy=>h y (by simp [hy]))

section
variable {P : Program} (w : World)

theorem xj {t:TypeId} {i:TypeInfo} {z:Value} (hi:P.info? t=some i) (hz:i.zero=some z):(zeroValue t).run P w=.ok z w:=by
 simp [zeroValue,typeInfo,hi,hz]

theorem ahe:∀(fs:List Field),(∀f∈fs,gw P f.type=true)→
  (fs.mapM (m:=Sem) fun f=>do pure (f.offset,←sizeOf f.type)).run P w=.ok (fs.map fun f=>(f.offset,P.cellsOf f.type)) w
 | [],_=>rfl
 | f::fs,h=>by
  have ih:=ahe fs (fun g hg=>h g (by simp [hg]))
  simp only [List.mapM_cons,Sem.run_bind,oz w (h f (by simp)),Result.andThen_ok,Sem.run_pure,ih,List.map_cons]

end
end Go.Sim


namespace Go.Sim

section
variable {P : Program} (w : World) {ρ : aI} {g g' : Operand → Value}

theorem Ge (hg:∀x,hY x=true→av ρ (g x) (g' x)) (l:Option Operand) (h:l.toArray.all hY=true):uP ρ (l.map g) (l.map g'):=by
 cases l with
 | none=>trivial
 | some x=>exact hg x (by simpa using h)

theorem afN (hg:∀x,hY x=true→av ρ (g x) (g' x)) (place:Nat→Option (Nat×Nat)):∀(qs:List (Nat×Operand)) (ps:List (Nat×Nat×Operand)),
  qs.mapM (m:=Option) (fun (i,x)=>(place i).map fun (o,s)=>(o,s,x))=some ps→(∀q∈qs,hY q.2=true)→
  rL ρ place (ps.map fun (o,s,x)=>(o,s,g x)) (qs.map fun (i,x)=>(i,g' x))
 | [],ps,h,_=>by
  simp at h
  subst h
  exact .nil
 | (i,x)::qs,ps,h,hq=>by
  simp only [List.mapM_cons,Option.bind_eq_bind,Option.bind_eq_some_iff] at h
  obtain ⟨p,hp,ps',yF,h⟩:=h
  simp at h
  subst h
  simp only [Option.map_eq_some_iff] at hp
  obtain ⟨⟨o,s⟩,kB,rfl⟩:=hp
  exact .cons kB (hg x (hq (i,x) (by simp))) (afN hg place qs ps' yF fun q hm=>hq q (by simp [hm]))

theorem P6 (hg:∀x,hY x=true→av ρ (g x) (g' x)) (pl:Nat→Nat×Nat):∀(qs:List (Nat×Operand)),(∀q∈qs,hY q.2=true)→
  rL ρ (fun i=>some (pl i)) ((qs.map fun (i,x)=>((pl i).1,(pl i).2,x)).map fun (o,s,x)=>(o,s,g x)) (qs.map fun (i,x)=>(i,g' x))
 | [],_=>.nil
 | (i,x)::qs,hq=>.cons rfl (hg x (hq (i,x) (by simp))) (P6 hg pl qs fun q hm=>hq q (by simp [hm]))

theorem ayw {t:TypeId} {fs:Array Field} {zs:List Value} {ps:List (Nat×Nat×Value)} {qs:Array (Nat×Value)} {v:Value} (ht:P.underlying t=some (.struct fs)) (hz:zeroOf P t=some zs)
  (hk:∀f∈fs.toList,gw P f.type=true) (hp:rL ρ ((placesOf P fs)[·]?) ps qs.toList) (h:cN zs ps=some v):
  ∃v',(Instr.build t qs).run P w=.ok v' w∧av ρ v v':=by
 obtain ⟨i,z,hi,oa,rfl,lT,fa,hlen⟩:=zU hz
 simp only [cN,Option.map_eq_some_iff] at h
 obtain ⟨cs,hf,rfl⟩:=h
 obtain ⟨hC,yB,hr,h1,_⟩:=L7 (ys:=z.cells) hp hf (bn.closed fun x hx=>(fa x hx).1) (fun x hx=>(fa x hx).2)
 refine ⟨.agg hC,?_,?_⟩
 ·have hm:=ahe (P:=P) w fs.toList hk
  have fH:(fs.mapM (m:=Sem) fun f=>do pure (f.offset,←sizeOf f.type)).run P w=.ok (fs.toList.map fun f=>(f.offset,P.cellsOf f.type)).toArray w:=by
   rw [Array.mapM_eq_mapM_toList]
   simp only [Sem.run_map,hm,Result.andThen_ok]
  have kB:(fun (x:Nat)=>((fs.toList.map fun f=>(f.offset,P.cellsOf f.type)).toArray)[x]?)=((placesOf P fs)[·]?):=by
   funext x
   simp [placesOf]
  simp only [Instr.build,Sem.run_bind,xj w hi oa,Result.andThen_ok,run_underlying ht,fH]
  rw [kB,yB]
  simp
 ·have:=av.xT (ρ:=ρ) hr h1
  simpa using this

theorem ayv {t e:TypeId} {n:Nat} {zs:List Value} {ps:List (Nat×Nat×Value)} {qs:Array (Nat×Value)} {v:Value} (ht:P.underlying t=some (.array n e)) (hz:zeroOf P t=some zs)
  (hk:gw P e=true) (hp:rL ρ (fun i=>some (i*P.cellsOf e,P.cellsOf e)) ps qs.toList) (h:cN zs ps=some v):
  ∃v',(Instr.build t qs).run P w=.ok v' w∧av ρ v v':=by
 obtain ⟨i,z,hi,oa,rfl,lT,fa,hlen⟩:=zU hz
 simp only [cN,Option.map_eq_some_iff] at h
 obtain ⟨cs,hf,rfl⟩:=h
 obtain ⟨hC,yB,hr,h1,_⟩:=L7 (ys:=z.cells) hp hf (bn.closed fun x hx=>(fa x hx).1) (fun x hx=>(fa x hx).2)
 refine ⟨.agg hC,?_,?_⟩
 ·simp only [Instr.build,Sem.run_bind,xj w hi oa,Result.andThen_ok,run_underlying ht,oz w hk]
  rw [yB]
  simp
 ·have:=av.xT (ρ:=ρ) hr h1
  simpa using this

theorem aq8 {fn:Func} (h:fn.name= "internal/bytealg.IndexByteString"):Extern.find fn=some Extern.BytealgIndexByte.indexByte:=by
 unfold Extern.find
 rw [h]
 rfl

theorem aq2 {f:FuncId} (h:LZ P f=true):∃fn,P.funcs[f]?=some fn∧(fn.name== "runtime.NumGoroutine")=false∧fn.body.isNone=true∧Extern.findNext fn=none∧Extern.find fn=some Extern.BytealgIndexByte.indexByte:=by
 unfold LZ at h
 split at h
 ·rename_i fn hf
  simp only [Bool.and_eq_true,beq_iff_eq] at h
  obtain ⟨⟨h1,h2⟩,h3⟩:=h
  exact ⟨fn,hf,by rw [h2];decide,h1,by simpa using h3,aq8 h2⟩
 ·cases h

theorem auX {o:Oper} {po:nG} (hc:gJ P o.op=some po) (aA:o.op.operands.all hY=true) (hH:∀i r,ρ i=some r→r.aV=P.cellsOf r.elem)
  (hg:∀x,hY x=true→av ρ (g x) (g' x)) {v:Value} (hi:hX po g=some v):∃v',(execOp g' o).run P w=.ok (.value v') w∧av ρ v v':=by
 cases ho:o.op with
 | move x=>
  rw [ho] at hc aA
  simp [gJ] at hc;subst hc
  simp [Op.operands] at aA
  simp [hX] at hi;subst hi
  exact ⟨g' x,by simp [execOp,ho],hg x aA⟩
 | assign x=>
  rw [ho] at hc aA
  simp [gJ] at hc;subst hc
  simp [Op.operands] at aA
  simp [hX] at hi;subst hi
  exact ⟨g' x,by simp [execOp,ho],hg x aA⟩
 | pick c a b=>
  rw [ho] at hc aA
  simp [gJ] at hc;subst hc
  simp [Op.operands] at aA
  simp only [hX,bK] at hi
  split at hi
  ·rename_i t ht
   have Y4:=hg c aA.1
   rw [ht] at Y4
   simp at hi;subst hi
   refine ⟨if t then g' a else g' b,by simp [execOp,ho,Y4.ve,asBool],?_⟩
   cases t
   ·simpa using hg b aA.2.2
   ·simpa using hg a aA.2.1
  ·cases hi
 | binOp op t x y yt=>
  rw [ho] at hc aA
  simp [Op.operands] at aA
  have hx:=hg x aA.1
  have hy:=hg y aA.2
  simp only [gJ] at hc
  have fin:∀v',(do eqGuard op t x y (g' x) (g' y);binOp op t (g' x) (g' y):Sem Value).run P w=.ok v' w→(execOp g' o).run P w=.ok (.value v') w:=by
   intro v' h
   simp only [execOp,ho]
   simp only [Sem.run_bind] at h⊢
   rw [h]
   rfl
  split at hc
  ·simp at hc;subst hc
   obtain ⟨h1,h2⟩:=ag5 P w (op:=.eql) t x y ‹_› rfl hi hx hy
   exact ⟨v,fin v h1,h2⟩
  ·simp at hc;subst hc
   obtain ⟨h1,h2⟩:=ag5 P w (op:=.neq) t x y ‹_› rfl hi hx hy
   exact ⟨v,fin v h1,h2⟩
  ·simp at hc;subst hc
   obtain ⟨h1,h2⟩:=ag6 P w (op:=.eql) t x y ‹_› rfl hi hx hy
   exact ⟨v,fin v h1,h2⟩
  ·simp at hc;subst hc
   obtain ⟨h1,h2⟩:=ag6 P w (op:=.neq) t x y ‹_› rfl hi hx hy
   exact ⟨v,fin v h1,h2⟩
  ·simp at hc;subst hc
   obtain ⟨h1,h2⟩:=ayt P w t x y hi hx hy
   exact ⟨v,fin v h1,h2⟩
 | unOp op t x=>
  rw [ho] at hc aA
  simp [gJ] at hc;subst hc
  simp [Op.operands] at aA
  obtain ⟨h1,h2⟩:=ayU P w hi (hg x aA)
  exact ⟨v,by simp [execOp,ho,h1],h2⟩
 | convert s d x=>
  rw [ho] at hc aA
  simp [Op.operands] at aA
  simp only [gJ] at hc
  split at hc
  ·rename_i k0 k hs hd
   simp at hc;subst hc
   simp only [hX,cS] at hi
   split at hi
   ·rename_i k1 n hx
    have:=hg x aA
    rw [hx] at this
    simp at hi;subst hi
    refine ⟨_,?_,.int _ _⟩
    simp [execOp,ho,this.kh,convert,run_underlying hs,run_underlying hd,Conv.intToInt]
   ·cases hi
  ·rename_i hs hd
   simp at hc;subst hc
   simp only [hX,aag] at hi
   split at hi
   ·rename_i z hx
    have:=hg x aA
    rw [hx] at this
    simp at hi;subst hi
    refine ⟨_,?_,.string _⟩
    simp [execOp,ho,this.sY,convert,run_underlying hs,run_underlying hd]
   ·cases hi
  ·cases hc
 | indexAddr t x i=>
  rw [ho] at hc aA
  simp [Op.operands] at aA
  simp only [gJ] at hc
  split at hc
  ·rename_i e ht
   split at hc
   ·rename_i hk
    simp at hc;subst hc
    obtain ⟨v',h1,h2⟩:=ayp w ht hk hi (hg x aA.1) (hg i aA.2)
    exact ⟨v',by simp [execOp,ho,h1],h2⟩
   ·cases hc
  ·rename_i n e ht
   split at hc
   ·rename_i hk
    simp at hc;subst hc
    obtain ⟨v',h1,h2⟩:=ayo w ht hk hi (hg x aA.1) (hg i aA.2)
    exact ⟨v',by simp [execOp,ho,h1],h2⟩
   ·cases hc
  ·cases hc
 | index t x i=>
  rw [ho] at hc aA
  simp [Op.operands] at aA
  simp only [gJ] at hc
  split at hc
  ·rename_i ht
   simp at hc;subst hc
   obtain ⟨h1,h2⟩:=ayE w ht hi (hg x aA.1) (hg i aA.2)
   exact ⟨v,by simp [execOp,ho,h1],h2⟩
  ·rename_i n e ht
   split at hc
   ·rename_i d hd
    split at hc
    ·rename_i hk
     simp at hc;subst hc
     simp only [Bool.and_eq_true] at hk
     obtain ⟨v',h1,h2⟩:=ayD w ht hd hk.1 hi (hg x aA.1) (hg i aA.2)
     exact ⟨v',by simp [execOp,ho,h1],h2⟩
    ·cases hc
   ·cases hc
  ·cases hc
 | fieldAddr t x f=>
  rw [ho] at hc aA
  simp [Op.operands] at aA
  simp only [gJ] at hc
  split at hc
  ·rename_i fs ht
   split at hc
   ·rename_i fd hf
    split at hc
    ·rename_i hk
     simp at hc;subst hc
     simp only [Bool.and_eq_true,bne_iff_ne] at hk
     obtain ⟨v',h1,h2⟩:=ayB w ht hf hk.1 hk.2 hi (hg x aA)
     exact ⟨v',by simp [execOp,ho,h1],h2⟩
    ·cases hc
   ·cases hc
  ·cases hc
 | field t x f=>
  rw [ho] at hc aA
  simp [Op.operands] at aA
  simp only [gJ] at hc
  split at hc
  ·rename_i fs ht
   split at hc
   ·rename_i fd hf
    split at hc
    ·rename_i d hd
     split at hc
     ·rename_i hk
      simp at hc;subst hc
      simp only [Bool.and_eq_true] at hk
      obtain ⟨v',h1,h2⟩:=ayC w ht hf hd hk.1 hi (hg x aA)
      exact ⟨v',by simp [execOp,ho,h1],h2⟩
     ·cases hc
    ·cases hc
   ·cases hc
  ·cases hc
 | slice t x lo gL mx=>
  rw [ho] at hc aA
  simp only [gJ] at hc
  split at hc
  ·rename_i ht
   simp at hc;subst hc
   simp only [Op.operands,Array.all_append,Bool.and_eq_true] at aA
   obtain ⟨⟨⟨h0,h1⟩,h2⟩,_⟩:=aA
   obtain ⟨k1,k2⟩:=ayQ w ht hi (hg x (by simpa using h0)) (Ge hg lo h1) (Ge hg gL h2)
   exact ⟨v,by simp [execOp,ho,k1],k2⟩
  ·rename_i e ht
   split at hc
   ·rename_i hk
    simp at hc;subst hc
    simp only [Op.operands,Array.all_append,Bool.and_eq_true] at aA
    obtain ⟨⟨⟨h0,h1⟩,h2⟩,_⟩:=aA
    obtain ⟨v',k1,k2⟩:=ayR w hH ht hk hi (hg x (by simpa using h0)) (Ge hg lo h1) (Ge hg gL h2)
    exact ⟨v',by simp [execOp,ho,k1],k2⟩
   ·cases hc
  ·cases hc
 | nilCheck x=>
  rw [ho] at hc aA
  simp [gJ] at hc;subst hc
  simp [Op.operands] at aA
  exact ayO w ho hi (hg x aA)
 | makeFunc fn first captured=>
  rw [ho] at hc aA
  cases fn with
  | func f=>
   simp [gJ] at hc;subst hc
   simp only [Op.operands,Array.all_append,Bool.and_eq_true] at aA
   simp [hX] at hi;subst hi
   have h1:=bn.wX hg (xs:=first.toList) (by simpa using aA.1)
   have h2:=bn.wX hg (xs:=captured.toList) (by simpa using aA.2)
   refine ⟨.func (.func f) (first.map g') (captured.map g'),by simp [execOp,ho,Instr.makeFunc],?_⟩
   refine .func f (by simp) (by simp) ?_ ?_
   ·have:=h1.ofList
    simpa using this
   ·have:=h2.ofList
    simpa using this
  | _=>simp [gJ] at hc
 | extract x i=>
  rw [ho] at hc aA
  simp [gJ] at hc;subst hc
  simp [Op.operands] at aA
  obtain ⟨v',h1,h2⟩:=ayA (P:=P) w hi (hg x aA)
  exact ⟨v',by simp [execOp,ho,h1],h2⟩
 | build t parts=>
  rw [ho] at hc aA
  simp only [gJ] at hc
  simp only [Op.operands] at aA
  have hq:∀q∈parts.toList,hY q.2=true:=by
   intro q hm
   rw [Array.all_eq_true'] at aA
   exact aA q.2 (by simp;exact ⟨q.1,by simpa using hm⟩)
  split at hc
  ·rename_i fs zs ht hz
   split at hc
   ·rename_i hk
    split at hc
    ·rename_i ps yF
     simp at hc;subst hc
     have hp:=afN hg ((placesOf P fs)[·]?) parts.toList ps yF hq
     have b7:∀f∈fs.toList,gw P f.type=true:=by
      rw [Array.all_eq_true'] at hk
      intro f hf
      exact hk f (by simpa using hf)
     obtain ⟨v',h1,h2⟩:=ayw w ht hz b7 (qs:=parts.map fun (i,x)=>(i,g' x)) (by simpa using hp) hi
     exact ⟨v',by simp [execOp,ho,h1],h2⟩
    ·cases hc
   ·cases hc
  ·rename_i n e zs ht hz
   split at hc
   ·rename_i hk
    simp at hc;subst hc
    have hp:=P6 hg (fun i=>(i*P.cellsOf e,P.cellsOf e)) parts.toList hq
    obtain ⟨v',h1,h2⟩:=ayv w ht hz hk (qs:=parts.map fun (i,x)=>(i,g' x)) (by simpa using hp) hi
    exact ⟨v',by simp [execOp,ho,h1],h2⟩
   ·cases hc
  ·cases hc
 | call c=>
  rw [ho] at hc aA
  obtain ⟨callee,args,argTypes⟩:=c
  cases callee with
  | builtin b=>
   simp only [Op.operands,Call.operands,Array.empty_append] at aA
   have pR:=bn.wX hg (xs:=args.toList) (by simpa using aA)
   have fin:∀v',(∀consts,(builtin b argTypes o.type consts (args.map g')).run P w=.ok (.value v') w)→(execOp g' o).run P w=.ok (.value v') w:=by
    intro v' h
    simp [execOp,ho,resolve,invoke,h]
   cases b with
   | len=>
    simp only [gJ] at hc
    split at hc
    ·rename_i x t hx sC
     obtain rfl:args=#[x]:=Array.ext' hx
     obtain rfl:argTypes=#[t]:=Array.ext' sC
     simp at aA
     have hr:=hg x aA
     split at hc
     ·rename_i ht
      simp at hc;subst hc
      simp only [hX,fe] at hi
      split at hi
      ·rename_i s hs
       rw [hs] at hr
       simp at hi;subst hi
       refine ⟨_,fin _ ?_,.int _ _⟩
       intro consts
       simp [builtin,Builtin.len_,run_underlying ht,hr.sY,goInt,size_bytes]
      ·cases hi
     ·rename_i e ht
      simp at hc;subst hc
      simp only [hX,aY] at hi
      split at hi
      ·rename_i a n c hs
       rw [hs] at hr
       simp at hi;subst hi
       refine ⟨_,fin _ ?_,.int _ _⟩
       intro consts
       generalize hy:g' x=y at hr
       cases hr <;> simp [builtin,Builtin.len_,run_underlying ht,hy,goInt]
      ·cases hi
     ·rename_i n e ht
      simp at hc;subst hc
      simp [hX] at hi;subst hi
      refine ⟨_,fin _ ?_,.int _ _⟩
      intro consts
      simp [builtin,Builtin.len_,run_underlying ht,goInt]
     ·cases hc
    ·cases hc
   | min=>
    simp [gJ] at hc;subst hc
    simp only [hX,sG] at hi
    split at hi
    ·rename_i k n rest hl
     rw [hl] at pR
     generalize hy:args.toList.map g'=ys at pR
     cases pR with
     | cons h1 h2=>
      rename_i y0 ys0
      have e:=h1.kh
      subst e
      obtain ⟨k1,k2⟩:=QE (P:=P) w hi h2
      refine ⟨v,fin v ?_,k2⟩
      intro consts
      simp only [builtin,Sem.run_bind,Builtin.min_,Array.toList_map,hy]
      simp at k1
      rw [k1]
      rfl
    ·cases hi
   | max=>
    simp [gJ] at hc;subst hc
    simp only [hX,sG] at hi
    split at hi
    ·rename_i k n rest hl
     rw [hl] at pR
     generalize hy:args.toList.map g'=ys at pR
     cases pR with
     | cons h1 h2=>
      rename_i y0 ys0
      have e:=h1.kh
      subst e
      obtain ⟨k1,k2⟩:=QE (P:=P) w hi h2
      refine ⟨v,fin v ?_,k2⟩
      intro consts
      simp only [builtin,Sem.run_bind,Builtin.max_,Array.toList_map,hy]
      simp at k1
      rw [k1]
      rfl
    ·cases hi
   | _=>simp [gJ] at hc
  | value y=>
   cases y with
   | func f=>
    simp only [gJ] at hc
    split at hc
    ·rename_i x c hx
     split at hc
     ·rename_i hf
      simp at hc;subst hc
      obtain rfl:args=#[x,c]:=Array.ext' hx
      simp [Op.operands,Call.operands] at aA
      simp only [hX] at hi
      split at hi
      ·rename_i f' a b hgf
       split at hi
       ·rename_i gr
        obtain ⟨rfl,ha,hb⟩:=gr
        obtain rfl:=Array.eq_empty_of_size_eq_zero ha
        obtain rfl:=Array.eq_empty_of_size_eq_zero hb
        have h0:=hg (.func f') aA.1
        rw [hgf] at h0
        generalize hy:g' (.func f')=y at h0
        cases h0 with
        | func _ s1 s2 _ _=>
         rename_i xs' xr
         obtain rfl:=Array.eq_empty_of_size_eq_zero s1.symm
         obtain rfl:=Array.eq_empty_of_size_eq_zero s2.symm
         simp only [Bz] at hi
         split at hi
         ·rename_i s n hs hn
          injection hi with hi
          subst hi
          have h1:=hg x aA.2.1
          have h2:=hg c aA.2.2
          rw [hs] at h1
          rw [hn] at h2
          have e1:=h1.sY
          have e2:=h2.kh
          refine ⟨_,?_,.int _ _⟩
          obtain ⟨fn,q1,q2,q3,q4,q5⟩:=aq2 hf
          have:=run_callFunc_extern (P:=P) q1 q2 q3 q4 q5 #[.string s,.int .u8 n] w
          simp [execOp,ho,resolve,Deferred.ofValue,invoke,hy,e1,e2]
          rw [this,Lib.run_indexByteString]
          rfl
         ·cases hi
       ·cases hi
      ·cases hi
     ·cases hc
    ·cases hc
   | _=>simp [gJ] at hc
  | _=>simp [gJ] at hc
 | _=>rw [ho] at hc;simp [gJ] at hc

end
end Go.Sim


namespace Go.Sim

theorem fm.mono {ρ ar:aI} (h:ρ.le ar) {c:Array Value} {sh:Nat} {xs:List Value} (hc:fm ρ c sh xs):fm ar c sh xs:=by
 intro j x hj
 obtain ⟨h1,y,hy,hr⟩:=hc j x hj
 exact ⟨h1,y,hy,hr.mono h⟩

theorem jF.mono {ρ ar:aI} {w w':World} {r:RI} {o:ak} (hle:ρ.le ar) (hw:w'.heap[r.bm]?=w.heap[r.bm]?) (h:jF ρ w r o):jF ar w' r o:=by
 cases o with
 | ro e xs=>
  obtain ⟨h1,c,t,fr,h2,h3,h4⟩:=h
  exact ⟨h1,c,t,fr,by rw [hw];exact h2,h3,h4.mono hle⟩
 | arr e xs=>
  obtain ⟨h1,h0,c,h2,h3,h4⟩:=h
  exact ⟨h1,h0,c,by rw [hw];exact h2,h3,h4.mono hle⟩
 | smap es=>
  obtain ⟨aH,clock,h1,h2,h3⟩:=h
  refine ⟨aH,clock,by rw [hw];exact h1,h2,?_⟩
  intro j k v hj
  obtain ⟨en,he,hk,hv⟩:=h3 j k v hj
  exact ⟨en,he,hk,hv.mono hle⟩
 | jm kd es=>
  obtain ⟨aH,clock,h1,h2,h3⟩:=h
  refine ⟨aH,clock,by rw [hw];exact h1,h2,?_⟩
  intro j k v hj
  obtain ⟨en,he,hk,hv⟩:=h3 j k v hj
  exact ⟨en,he,hk,hv.mono hle⟩
 | dH g c es=>
  obtain ⟨h0,aH,h1,h2,h3⟩:=h
  refine ⟨h0,aH,by rw [hw];exact h1,h2,?_⟩
  intro j b k v hj
  obtain ⟨hg,en,he,hk,hb,hv⟩:=h3 j b k v hj
  exact ⟨hg,en,he,hk,hb,hv.mono hle⟩
 | iter m s n l=>
  obtain ⟨h0,rm,h1,h2⟩:=h
  exact ⟨h0,rm,hle _ _ h1,by rw [hw];exact h2⟩
 | loop c ls vs=>
  obtain ⟨rec,h1,h2,h3,h4,h5,h6,h7,h8⟩:=h
  exact ⟨rec,by rw [hw];exact h1,h2,h3,h4,h5,h6,h7,fun t=>(h8 t).mono hle⟩
 | dead=>trivial

def aI.add (ρ:aI) (i:Nat) (r:RI):aI:=fun j=>if j=i then some r else ρ j

theorem aI.sM {ρ:aI} {i:Nat} {r:RI} (h:ρ i=none):ρ.le (ρ.add i r):=by
 intro j s hj
 unfold aI.add
 split
 ·rename_i e;subst e;rw [h] at hj;cases hj
 ·exact hj

theorem aU.none {P:Program} {ρ:aI} {h:ae} {w:World} (H:aU P ρ h w):ρ h.length=none:=by
 cases hr:ρ h.length with
 | none=>rfl
 | some r=>exact absurd (H.lt hr) (Nat.lt_irrefl _)

theorem zh {P:Program} {ρ:aI} {h:ae} {w:World} (H:aU P ρ h w) {i:Nat} {r:RI} (hi:ρ i=some r) (hl:isLive h i):r.bm<w.heap.size:=by
 obtain ⟨o,ho,hr⟩:=H.obj i r hi
 obtain ⟨o',c9,br⟩:=hl
 rw [ho] at c9
 cases c9
 have key:∀{x:Obj},w.heap[r.bm]?=some x→r.bm<w.heap.size:=fun h=>(Array.getElem?_eq_some_iff.1 h).1
 cases o with
 | ro e xs=>obtain ⟨_,c,_,fr,h2,_⟩:=hr;exact key h2
 | arr e xs=>obtain ⟨_,_,c,h2,_⟩:=hr;exact key h2
 | smap es=>obtain ⟨aH,clock,h1,_⟩:=hr;exact key h1
 | jm kd es=>obtain ⟨aH,clock,h1,_⟩:=hr;exact key h1
 | dH g c es=>obtain ⟨_,aH,h1,_⟩:=hr;exact key h1
 | iter m s n l=>obtain ⟨_,rm,_,h1⟩:=hr;exact key h1
 | loop c ls vs=>obtain ⟨rec,h1,_⟩:=hr;exact key h1
 | dead=>exact absurd rfl br

structure iI (w:World) (b:Obj) (w':World):Prop where
 heap:w'.heap=w.heap.push b
 os:w'.os=w.os
 tape:w'.tape=w.tape
 output:w'.output=w.output

theorem iI.alloc (w:World) (b:Obj):iI w b (w.alloc b):=⟨rfl,rfl,rfl,rfl⟩
theorem iI.drew (w:World) (b:Obj):iI w b (w.drew.alloc b):=⟨rfl,rfl,rfl,rfl⟩

theorem iI.old {w w':World} {b:Obj} (n:iI w b w') {k:Nat} (h:k<w.heap.size):w'.heap[k]?=w.heap[k]?:=by
 rw [n.heap,Array.getElem?_push,if_neg (by omega)]
theorem iI.new {w w':World} {b:Obj} (n:iI w b w'):w'.heap[w.heap.size]?=some b:=by
 rw [n.heap,Array.getElem?_push,if_pos rfl]
theorem iI.size {w w':World} {b:Obj} (n:iI w b w'):w'.heap.size=w.heap.size+1:=by
 rw [n.heap];simp

theorem aU.new {P:Program} {ρ:aI} {h h₀:ae} {w w':World} {b:Obj} {r:RI} {o:ak} (H:aU P ρ h w) (nb:iI w b w') (hb:r.bm=w.heap.size) (he:r.aV=P.cellsOf r.elem)
  (hk:h₀.length=h.length) (hd:∀i:Nat,h₀[i]?=h[i]?∨h₀[i]?=some ak.dead)
  (ho:jF (ρ.add h.length r) w' r o):aU P (ρ.add h.length r) (h₀++[o]) w'∧Tr ρ h w (ρ.add h.length r) (h₀++[o]) w':=by
 have hle:=aI.sM (r:=r) H.none
 have gT:∀i,i<h.length→ca (h₀++[o]) i→ca h i:=by
  intro i hi hm
  unfold ca at hm⊢
  rw [List.getElem?_append_left (by omega)] at hm
  rcases hd i with e | e <;> rw [e] at hm
  ·exact hm
  ·rcases hm with ⟨_,_,hm⟩ | ⟨_,hm⟩ | ⟨_,_,_,hm⟩ | ⟨_,_,hm⟩ | ⟨_,_,_,hm⟩ | ⟨_,_,_,_,hm⟩ <;> cases hm
 have v3:∀i,i<h.length→isLive (h₀++[o]) i→isLive h i:=by
  intro i hi hm
  unfold isLive at hm⊢
  rw [List.getElem?_append_left (by omega)] at hm
  rcases hd i with e | e <;> rw [e] at hm
  ·exact hm
  ·obtain ⟨o',h1,h2⟩:=hm;cases h1;exact absurd rfl h2
 have bm:∀i s,ρ i=some s→isLive (h₀++[o]) i→s.bm<w.heap.size:=fun i s hi hl=>zh H hi (v3 i (H.lt hi) hl)
 constructor
 ·constructor
  ·intro i s hi
   unfold aI.add at hi
   split at hi
   ·rename_i e
    subst e
    cases hi
    refine ⟨o,?_,ho⟩
    rw [←hk]
    simp
   ·obtain ⟨o',c9,hr⟩:=H.obj i s hi
    have aB:=H.lt hi
    rw [List.getElem?_append_left (by omega)]
    rcases hd i with e | e
    ·refine ⟨o',by rw [e];exact c9,?_⟩
     by_cases tT:o'=.dead
     ·subst tT;trivial
     ·exact hr.mono hle (nb.old (zh H hi ⟨o',c9,tT⟩))
    ·exact ⟨.dead,e,trivial⟩
  ·intro i j s t hi hj dD hm hl
   unfold aI.add at hi hj
   split at hi <;> split at hj
   ·omega
   ·rename_i e1 e2
    cases hi
    have:=bm j t hj hl
    omega
   ·rename_i e1 e2
    cases hj
    have:=bm i s hi hm.live
    omega
   ·exact H.inj i j s t hi hj dD (gT i (H.lt hi) hm) (v3 j (H.lt hj) hl)
  ·intro i s hi
   unfold aI.add at hi
   split at hi
   ·cases hi;exact he
   ·exact H.aV i s hi
 ·exact {
   ext:=hle
   len:=by simp;omega
   il:=fun i s hi=>H.lt hi
   kinds:=gT
   fresh:=by
    intro i s hi hn
    unfold aI.add at hi
    split at hi
    ·rename_i e;cases hi;exact ⟨by omega,.inl (by omega)⟩
    ·rw [hn] at hi;cases hi
   gE:=by rw [nb.size];omega
   fT:=fun k b7 _=>nb.old b7
   os:=nb.os
   tape:=nb.tape
   output:=nb.output }

structure ko (w:World) (k:Nat) (b:Obj) (w':World):Prop where
 here:w'.heap[k]?=some b
 other:∀j,j≠k→w'.heap[j]?=w.heap[j]?
 size:w'.heap.size=w.heap.size
 os:w'.os=w.os
 tape:w'.tape=w.tape
 output:w'.output=w.output

theorem ko.row {w:World} {g:Nat} {c:Array Value} {e:TypeId} {fr:Nat×Nat} (hg:w.heap[g]?=some (.cells c e fr)) (c':Array Value):ko w g (.cells c' e fr) (w.setRow g c') where
 here:=by simp [World.setRow,Array.getElem?_modify,hg]
 other:=by intro j hj;simp [World.setRow,Array.getElem?_modify,Ne.symm hj]
 size:=by simp [World.setRow]
 os:=rfl
 tape:=rfl
 output:=rfl

theorem aU.set {P:Program} {ρ:aI} {h:ae} {w w':World} {b:Obj} {i:Nat} {r:RI} {o:ak} (H:aU P ρ h w) (hi:ρ i=some r) (hm:ca h i) (sb:ko w r.bm b w')
  (ho:jF ρ w' r o):aU P ρ (h.set i o) w'∧Tr ρ h w ρ (h.set i o) w':=by
 have aB:=H.lt hi
 have gT:∀j,ca (h.set i o) j→ca h j:=by
  intro j hj
  by_cases e:j=i
  ·subst e;exact hm
  ·unfold ca at hj⊢
   rw [List.getElem?_set_ne (Ne.symm e)] at hj
   exact hj
 have v3:∀j,isLive (h.set i o) j→isLive h j:=by
  intro j hj
  by_cases e:j=i
  ·subst e;exact hm.live
  ·unfold isLive at hj⊢
   rw [List.getElem?_set_ne (Ne.symm e)] at hj
   exact hj
 constructor
 ·constructor
  ·intro j s hj
   by_cases e:j=i
   ·subst e
    rw [hi] at hj
    cases hj
    exact ⟨o,by rw [List.getElem?_set_self aB],ho⟩
   ·obtain ⟨o',c9,hr⟩:=H.obj j s hj
    refine ⟨o',by rw [List.getElem?_set_ne (Ne.symm e)];exact c9,?_⟩
    by_cases tT:o'=.dead
    ·subst tT;trivial
    ·refine hr.mono (.refl _) (sb.other _ ?_)
     intro hb
     exact e (H.inj i j r s hi hj hb.symm hm ⟨o',c9,tT⟩).symm
  ·intro j k s t hj hk dD fH hl
   exact H.inj j k s t hj hk dD (gT j fH) (v3 k hl)
  ·exact H.aV
 ·exact {
   ext:=.refl _
   len:=by simp
   il:=fun j s hj=>H.lt hj
   kinds:=fun j _ hj=>gT j hj
   fresh:=fun j s h1 h2=>by rw [h1] at h2;cases h2
   gE:=by rw [sb.size];exact Nat.le_refl _
   fT:=fun k _ cU=>sb.other k fun e=>cU i r hi e.symm hm
   os:=sb.os
   tape:=sb.tape
   output:=sb.output }

theorem aU.move {P:Program} {ρ:aI} {h:ae} {w w':World} {b:Obj} {i:Nat} {r:RI} {o:ak} (H:aU P ρ h w) (hi:ρ i=some r) (hm:ca h i) (sb:ko w r.bm b w')
  (ho:jF (ρ.add h.length r) w' r o):aU P (ρ.add h.length r) (h.set i .dead++[o]) w'∧Tr ρ h w (ρ.add h.length r) (h.set i .dead++[o]) w':=by
 have aB:=H.lt hi
 have hle:=aI.sM (r:=r) H.none
 have get:∀j,j<h.length→j≠i→(h.set i .dead++[o])[j]?=h[j]?:=by
  intro j hj e
  rw [List.getElem?_append_left (by simpa using hj),List.getElem?_set_ne (Ne.symm e)]
 have Mn:(h.set i .dead++[o])[i]?=some .dead:=by
  rw [List.getElem?_append_left (by simpa using aB),List.getElem?_set_self aB]
 have gT:∀j,j<h.length→ca (h.set i .dead++[o]) j→ca h j∧j≠i:=by
  intro j hj fH
  have br:j≠i:=by
   intro e
   subst e
   unfold ca at fH
   rw [Mn] at fH
   rcases fH with ⟨_,_,h1⟩ | ⟨_,h1⟩ | ⟨_,_,_,h1⟩ | ⟨_,_,h1⟩ | ⟨_,_,_,h1⟩ | ⟨_,_,_,_,h1⟩ <;> cases h1
  refine ⟨?_,br⟩
  unfold ca at fH⊢
  rw [get j hj br] at fH
  exact fH
 have v3:∀j,j<h.length→isLive (h.set i .dead++[o]) j→isLive h j∧j≠i:=by
  intro j hj fH
  have br:j≠i:=by
   intro e
   subst e
   obtain ⟨o',h1,h2⟩:=fH
   rw [Mn] at h1
   cases h1
   exact h2 rfl
  refine ⟨?_,br⟩
  unfold isLive at fH⊢
  rw [get j hj br] at fH
  exact fH
 constructor
 ·constructor
  ·intro j s hj
   unfold aI.add at hj
   split at hj
   ·rename_i e
    subst e
    cases hj
    exact ⟨o,by rw [List.getElem?_append_right (by simp)];simp,ho⟩
   ·by_cases e:j=i
    ·subst e
     exact ⟨.dead,Mn,trivial⟩
    ·obtain ⟨o',c9,hr⟩:=H.obj j s hj
     refine ⟨o',by rw [get j (H.lt hj) e];exact c9,?_⟩
     by_cases tT:o'=.dead
     ·subst tT;trivial
     ·refine hr.mono hle (sb.other _ ?_)
      intro hb
      exact e (H.inj i j r s hi hj hb.symm hm ⟨o',c9,tT⟩).symm
  ·intro j k s t hj hk dD fH hl
   unfold aI.add at hj hk
   split at hj <;> split at hk
   ·omega
   ·cases hj
    obtain ⟨h1,h2⟩:=v3 k (H.lt hk) hl
    exact absurd (H.inj i k r t hi hk dD hm h1).symm h2
   ·cases hk
    obtain ⟨h1,h2⟩:=gT j (H.lt hj) fH
    exact absurd (H.inj j i s r hj hi dD h1 hm.live) h2
   ·exact H.inj j k s t hj hk dD (gT j (H.lt hj) fH).1 (v3 k (H.lt hk) hl).1
  ·intro j s hj
   unfold aI.add at hj
   split at hj
   ·cases hj;exact H.aV i r hi
   ·exact H.aV j s hj
 ·exact {
   ext:=hle
   len:=by simp
   il:=fun j s hj=>H.lt hj
   kinds:=fun j hj fH=>(gT j hj fH).1
   fresh:=by
    intro j s hj hn
    unfold aI.add at hj
    split at hj
    ·rename_i e;cases hj;exact ⟨by omega,.inr ⟨i,r,hi,rfl,hm⟩⟩
    ·rw [hn] at hj;cases hj
   gE:=by rw [sb.size];exact Nat.le_refl _
   fT:=fun k _ cU=>sb.other k fun e=>cU i r hi e.symm hm
   os:=sb.os
   tape:=sb.tape
   output:=sb.output }

end Go.Sim


namespace Go.Sim

inductive mT where
 | load (agg:Bool) (n:Nat) (a:Operand)
 | uZ (x:Operand)
 | lookup (ok:Bool) (zero:Value) (m k:Operand)
 | FX (kd:IntKind) (ok:Bool) (zero:Value) (m k:Operand)
 | FW (g:fq) (ok:Bool) (zero:Value) (m k:Operand)
 | entry (it:Operand)
 | obj (x:Operand)

inductive kl where
 | alloc (e:TypeId) (zs:List Value)
 | kZ (e:TypeId) (n:Nat) (zs:List Value) (parts:List (Nat×Nat×Operand))
 | make (e:TypeId) (bytes:Nat) (zs:List Value) (l c:Operand)
 | mN (g:fq)

inductive mR where
 | fl (a:kl)
 | store (n:Nat) (a v:Operand)
 | box (e:TypeId) (x:Operand)
 | alloc (e:TypeId) (zs:List Value)
 | kZ (e:TypeId) (n:Nat) (zs:List Value) (parts:List (Nat×Nat×Operand))
 | make (e:TypeId) (bytes:Nat) (zs:List Value) (l c:Operand)
 | app (e:TypeId) (aV bytes:Nat) (s x:Operand)
 | mkMap
 | F3 (kd:IntKind)
 | mN (g:fq)
 | Ol (g:fq) (m k v:Operand)
 | AF (g:fq) (m k:Operand)
 | Qs (x:Operand)
 | next (it:Operand)
 | die
 | Om (kd:IntKind) (m k v:Operand)
 | Ok (m k v:Operand)
 | copy (d s:Operand)

def aQ (h:ae) (i:Nat):Option (List Value):=
 match h[i]? with
 | some (.ro _ xs)=>some xs
 | some (.arr _ xs)=>some xs
 | _=>none

def af (agg:Bool) (n:Nat) (h:ae) (a:Value):Option Value:=
 match a with
 | .pointer (some ⟨i,o,none⟩)=>(aQ h i).bind fun xs=>ck agg o n xs
 | _=>none

def Al:Value→Option UInt8
 | .int .u8 n=>some (UInt8.ofNat n.toNat)
 | _=>none

def ju (h:ae) (aV:Nat) (x:Value):Option (List Value):=
 match x with
 | .slice none 0 0=>some []
 | .slice (some ⟨i,o,some _⟩) n _=>
  if n=0 then some [] else (aQ h i).bind fun xs=>if o+n*aV≤xs.length then some ((xs.drop o).take (n*aV)) else none
 | _=>none

def pb (h:ae) (x:Value):Option Value:=(ju h 1 x).bind fun cs=>(cs.mapM Al).map S

def rT (k:ByteArray):List (ByteArray×Value)→Option Value
 | []=>none
 | (k',v)::es=>if k=k' then some v else rT k es

def qA (k:ByteArray) (v:Value):List (ByteArray×Value)→List (ByteArray×Value)
 | []=>[(k,v)]
 | (k',v')::es=>if k=k' then (k',v)::es else (k',v')::qA k v es

def mB (k:Int):List (Int×Value)→Option Value
 | []=>none
 | (k',v)::es=>if k=k' then some v else mB k es

def qz (k:Int) (v:Value):List (Int×Value)→List (Int×Value)
 | []=>[(k,v)]
 | (k',v')::es=>if k=k' then (k',v)::es else (k',v')::qz k v es

def FH (kd:IntKind) (ok:Bool) (zero:Value) (h:ae) (m k:Value):Option Value:=
 match m,k with
 | .map (some i),.int yU k=>
  match h[i]? with
  | some (.jm kX es)=>if yU=kd∧kX=kd then some (if ok then .tuple #[(mB k es).getD zero,.bool (mB k es).isSome] else (mB k es).getD zero) else none
  | _=>none
 | _,_=>none

def wJ:Value→Value→Bool
 | .int k a,.int k' b=>decide (k=k')&&decide (a=b)
 | _,_=>false

def yS:List Value→List Value→Bool
 | [],[]=>true
 | a::rM,b::bs=>wJ a b&&yS rM bs
 | _,_=>false

def nN:Value→Value→Bool
 | .string a,.string b=>decide (bytes a=bytes b)
 | .agg rM,.agg bs=>yS rM.toList bs.toList
 | a,b=>wJ a b

def lZ (k:Value):List (Nat×Value×Value)→Option Nat
 | []=>none
 | (_,k',_)::es=>if nN k k'=true then some 0 else (lZ k es).map (·+1)

def vC (k:Value) (es:List (Nat×Value×Value)):Option Value:=(lZ k es).bind fun j=>(es[j]?).map fun e=>e.2.2
def qy (c:Nat) (k v:Value) (es:List (Nat×Value×Value)):List (Nat×Value×Value):=
 match lZ k es with
 | some j=>es.modify j fun e=>(e.1,k,v)
 | none=>es++[(c,k,v)]
def rN (c:Nat) (k:Value) (es:List (Nat×Value×Value)):Nat:=match lZ k es with | some _=>c | none=>c+1
def oL (k:Value) (es:List (Nat×Value×Value)):List (Nat×Value×Value):=
 match lZ k es with
 | some j=>es.eraseIdx j
 | none=>es

def FG (g:fq) (ok:Bool) (zero:Value) (h:ae) (m k:Value):Option Value:=
 match m with
 | .map (some i)=>
  match h[i]? with
  | some (.dH g' _ es)=>if g'=g∧dZ g k=true then some (if ok then .tuple #[(vC k es).getD zero,.bool (vC k es).isSome] else (vC k es).getD zero) else none
  | _=>none
 | _=>none

def BA (g:fq) (h:ae) (m k v:Value):Option ae:=
 match m with
 | .map (some i)=>
  match h[i]? with
  | some (.dH g' c es)=>if g'=g∧dZ g k=true∧gW v=true then some (h.set i (.dH g (rN c k es) (qy c k v es))) else none
  | _=>none
 | _=>none

def By (g:fq) (h:ae) (m k:Value):Option ae:=
 match m with
 | .map (some i)=>
  match h[i]? with
  | some (.dH g' c es)=>if g'=g∧dZ g k=true then some (h.set i (.dH g c (oL k es))) else none
  | _=>none
 | _=>none

def yP (h:ae) (x:Value):Option (Value×ae):=
 match x with
 | .map (some i)=>
  match h[i]? with
  | some (.dH _ c _)=>some (.pointer (some ⟨h.length,0,none⟩),h++[.iter i c [] c])
  | _=>none
 | _=>none

def wE (h:ae) (it:Value):Option Value:=
 match it with
 | .pointer (some ⟨j,0,none⟩)=>
  match h[j]? with
  | some (.iter i _ seen last)=>
   match h[i]?,seen.getLast? with
   | some (.dH _ c es),some b=>if c=last then (es.find? fun e=>e.1==b).map fun e=>.tuple #[e.2.1,e.2.2] else none
   | _,_=>none
  | _=>none
 | _=>none

def qq:Value→Bool
 | .bool _ | .int .. | .string _ | .nilFunc | .nilIface=>true
 | .pointer none | .map none=>true
 | .slice none 0 0=>true
 | _=>false

def AS:fq→Value
 | .int k=>.int k 0
 | .str=>.bool true
 | .ints n k=>.agg #[.int k n]

def mZ:ak→Option Value
 | .arr e xs=>if xs.all qq then some (.agg (.int .i64 e::xs).toArray) else none
 | .dH g c es=>if c=0∧es.isEmpty=true then some (.tuple #[AS g]) else none
 | _=>none

def yQ:Value→Option Nat
 | .pointer (some ⟨i,_,none⟩)=>some i
 | .slice (some ⟨i,_,_⟩) _ _=>some i
 | .map (some i)=>some i
 | _=>none

def ee (h:ae) (x:Value):Option Value:=(yQ x).bind fun i=>(h[i]?).bind mZ

def w5 (h:ae) (it:Value):Option (List (Value×ae)):=
 match it with
 | .pointer (some ⟨j,0,none⟩)=>
  match h[j]? with
  | some (.iter i since seen last)=>
   match h[i]? with
   | some (.dH _ c es)=>
    if (!seen.isEmpty&& !es.isEmpty&&es.all fun e=>decide (last≤e.1))=true then none else
    let left:=es.filter fun e=> !seen.contains e.1
    let old:=left.filter fun e=>decide (e.1<since)
    let new:=left.filter fun e=>decide (since≤e.1)
    some ((if old.isEmpty=true then [(.tuple #[.bool false],h)] else [])++(old++new).map fun e=>(.tuple #[.bool true,e.2.1,e.2.2],h.set j (.iter i since (seen++[e.1]) c)))
   | _=>none
  | _=>none
 | _=>none

def FF (ok:Bool) (zero:Value) (h:ae) (m k:Value):Option Value:=
 match m,k with
 | .map (some i),.string k=>
  match h[i]? with
  | some (.smap es)=>some (if ok then .tuple #[(rT k es).getD zero,.bool (rT k es).isSome] else (rT k es).getD zero)
  | _=>none
 | _,_=>none

def eJ (o:mT) (g:Operand→Value) (h:ae):Option Value:=
 match o with
 | .load agg n a=>af agg n h (g a)
 | .uZ x=>pb h (g x)
 | .lookup ok zero m k=>FF ok zero h (g m) (g k)
 | .FX kd ok zero m k=>FH kd ok zero h (g m) (g k)
 | .FW kd ok zero m k=>FG kd ok zero h (g m) (g k)
 | .entry it=>wE h (g it)
 | .obj x=>ee h (g x)

def uk (n:Nat) (h:ae) (a v:Value):Option ae:=
 match a with
 | .pointer (some ⟨i,o,none⟩)=>
  match h[i]? with
  | some (.arr e xs)=>if gW v∧(cZ v).length=n∧o+n≤xs.length then some (h.set i (.arr e (setAt xs o (cZ v)))) else none
  | _=>none
 | _=>none

def zf (h:ae):Value:=.pointer (some ⟨h.length,0,none⟩)
def sl (e:TypeId) (i o n:Nat):Value:=.slice (some ⟨i,o,some e⟩) n n

def bc (e:TypeId) (h:ae) (x:Value):Option (Value×ae):=if gW x then some (zf h,h++[.arr e (cZ x)]) else none

def gH (zs:List Value) (n:Nat):List Value:=(List.replicate n zs).flatten

def cT (e:TypeId) (n:Nat) (zs:List Value) (h:ae) (ps:List (Nat×Nat×Value)):Option (Value×ae):=
 (pM (gH zs n) ps).map fun cs=>(sl e h.length 0 n,h++[.arr e cs])

def kD (e:TypeId) (bytes:Nat) (zs:List Value) (h:ae) (l c:Value):Option (Value×ae):=
 match l,c with
 | .int _ l,.int _ c=>if 0≤l∧l≤c∧(bytes:Int)*c≤281474976710656∧c≤9223372036854775807 then some (sl e h.length 0 l.toNat,h++[.arr e (gH zs l.toNat)]) else none
 | _,_=>none

def nu:Value→Option Nat
 | .slice none 0 0=>some 0
 | .slice (some _) n _=>some n
 | _=>none

def dA (e:TypeId) (aV bytes:Nat) (h:ae) (s x:Value):Option (Value×ae):=
 match ju h aV x,nu x with
 | some news,some m=>
  match s with
  | .slice none 0 0=>
   if m=0 then some (s,h) else
   if m*bytes≤140737488355328∧m≤maxLen then some (sl e h.length 0 m,h++[.arr e news]) else none
  | .slice (some ⟨i,0,some e'⟩) n _=>
   match h[i]? with
   | some (.arr Yc xs)=>
    if e'=e∧Yc=e∧xs.length=n*aV∧(n+m)*bytes≤140737488355328∧n+m≤maxLen then
     if m=0 then some (s,h) else some (sl e h.length 0 (n+m),h.set i .dead++[.arr e (xs++news)])
    else none
   | _=>none
  | _=>none
 | _,_=>none

def NK (h:ae) (m k v:Value):Option ae:=
 match m,k with
 | .map (some i),.string k=>
  match h[i]? with
  | some (.smap es)=>some (h.set i (.smap (qA k v es)))
  | _=>none
 | _,_=>none

def NL (kd:IntKind) (h:ae) (m k v:Value):Option ae:=
 match m,k with
 | .map (some i),.int yU k=>
  match h[i]? with
  | some (.jm kX es)=>if yU=kd∧kX=kd then some (h.set i (.jm kd (qz k v es))) else none
  | _=>none
 | _,_=>none

def Oz (kd:fq) (h:ae) (m k v:Value):Option (Value×ae):=(BA kd h m k v).map fun h'=>(undef,h')
def Oy (kd:fq) (h:ae) (m k:Value):Option (Value×ae):=(By kd h m k).map fun h'=>(.tuple #[],h')
def aaf (kd:fq) (h:ae):Option (Value×ae):=some (.map (some h.length),h++[.dH kd 0 []])
def aJ (n:Nat) (h:ae) (a v:Value):Option (Value×ae):=(uk n h a v).map fun h'=>(undef,h')
def aW (e:TypeId) (zs:List Value) (h:ae):Option (Value×ae):=some (zf h,h++[.arr e zs])
def NH (h:ae) (d s:Value):Option (Value×ae):=
 match nu d,nu s,ju h 1 s with
 | some n,some m,some cs=>
  if Nat.min m n=0 then some (.int .i64 0,h) else
  match d with
  | .slice (some ⟨i,o,some _⟩) _ _=>
   match h[i]? with
   | some (.arr e xs)=>if o+Nat.min m n≤xs.length then some (.int .i64 (Nat.min m n:Nat),h.set i (.arr e (setAt xs o (cs.take (Nat.min m n))))) else none
   | _=>none
  | _=>none
 | _,_,_=>none

def fv (o:mR) (g:Operand→Value) (h:ae):Option (Value×ae):=
 match o with
 | .fl a=>match a with
  | .alloc e zs=>some (zf h,h++[.arr e zs])
  | .kZ e n zs ps=>cT e n zs h (ps.map fun (o,s,x)=>(o,s,g x))
  | .make e bytes zs l c=>kD e bytes zs h (g l) (g c)
  | .mN kd=>some (.map (some h.length),h++[.dH kd 0 []])
 | .store n a v=>(uk n h (g a) (g v)).map fun h'=>(undef,h')
 | .box e x=>bc e h (g x)
 | .alloc e zs=>some (zf h,h++[.arr e zs])
 | .kZ e n zs ps=>cT e n zs h (ps.map fun (o,s,x)=>(o,s,g x))
 | .make e bytes zs l c=>kD e bytes zs h (g l) (g c)
 | .app e aV bytes s x=>dA e aV bytes h (g s) (g x)
 | .mkMap=>some (.map (some h.length),h++[.smap []])
 | .Ok m k v=>(NK h (g m) (g k) (g v)).map fun h'=>(undef,h')
 | .F3 kd=>some (.map (some h.length),h++[.jm kd []])
 | .die=>none
 | .next _=>none
 | .mN kd=>some (.map (some h.length),h++[.dH kd 0 []])
 | .Ol kd m k v=>(BA kd h (g m) (g k) (g v)).map fun h'=>(undef,h')
 | .AF kd m k=>(By kd h (g m) (g k)).map fun h'=>(.tuple #[],h')
 | .Qs x=>yP h (g x)
 | .Om kd m k v=>(NL kd h (g m) (g k) (g v)).map fun h'=>(undef,h')
 | .copy d s=>NH h (g d) (g s)

def kl.Cj:kl→mR
 | .alloc e zs=>.alloc e zs
 | .kZ e n zs ps=>.kZ e n zs ps
 | .make e b zs l c=>.make e b zs l c
 | .mN g=>.mN g

def mR.HD:mR→Option kl
 | .alloc e zs=>some (.alloc e zs)
 | .kZ e n zs ps=>some (.kZ e n zs ps)
 | .make e b zs l c=>some (.make e b zs l c)
 | .mN g=>some (.mN g)
 | _=>none

def jJ (a:kl) (g:Operand→Value):Option ((Nat→Value)×ak):=
 match a with
 | .alloc e zs=>some (fun i=>.pointer (some ⟨i,0,none⟩),.arr e zs)
 | .kZ e n zs ps=>(pM (gH zs n) (ps.map fun (o,s,x)=>(o,s,g x))).map fun cs=>(fun i=>sl e i 0 n,.arr e cs)
 | .make e bytes zs l c=>
  match g l,g c with
  | .int _ l,.int _ c=>if 0≤l∧l≤c∧(bytes:Int)*c≤281474976710656∧c≤9223372036854775807 then some (fun i=>sl e i 0 l.toNat,.arr e (gH zs l.toNat)) else none
  | _,_=>none
 | .mN g=>some (fun i=>.map (some i),.dH g 0 [])

theorem aal (a:kl) (g:Operand→Value) (h:ae):fv (.fl a) g h=(jJ a g).map fun p=>(p.1 h.length,h++[p.2]):=by
 cases a with
 | alloc e zs=>rfl
 | kZ e n zs ps=>simp only [fv,jJ,cT,Option.map_map];rfl
 | make e b zs l c=>
  simp only [fv,jJ,kD]
  split
  ·split <;> rfl
  ·rfl
 | mN g=>rfl

theorem asY (a:kl) (g:Operand→Value) (h:ae):fv a.Cj g h=fv (.fl a) g h:=by cases a <;> rfl

theorem ahD {e:mR} {a:kl} (h:e.HD=some a):a.Cj=e:=by
 cases e <;> simp [mR.HD] at h <;> subst h <;> rfl

theorem KL {a:kl} {g:Operand→Value} {V:Nat→Value} {o:ak} (h:jJ a g=some (V,o)):∀i,yQ (V i)=some i:=by
 cases a with
 | mN g=>simp [jJ] at h;obtain ⟨rfl,_⟩:=h;intro i;rfl
 | alloc e zs=>simp [jJ] at h;obtain ⟨rfl,_⟩:=h;intro i;rfl
 | kZ e n zs ps=>simp only [jJ,Option.map_eq_some_iff,Prod.mk.injEq] at h;obtain ⟨_,_,rfl,_⟩:=h;intro i;rfl
 | make e b zs l c=>
  simp only [jJ] at h
  split at h
  ·split at h
   ·simp at h;obtain ⟨rfl,_⟩:=h;intro i;rfl
   ·cases h
  ·cases h

def zT (P:Program) (t:TypeId):Option Value:=
 match P.info? t with
 | some i=>match i.zero with
  | some z=>if xY z then some z else none
  | none=>none
 | none=>none

def isString (P:Program) (t:TypeId):Bool:=match P.underlying t with | some .string=>true | _=>false

def wL (P:Program) (t:TypeId):Option IntKind:=match P.underlying t with | some (.int k)=>some k | _=>none

def xt:Value→Bool
 | .agg cs=>cs.toList.all xY
 | v=>j6 v

def H4 (P:Program) (t:TypeId):Option Value:=
 match P.info? t with
 | some i=>match i.zero with
  | some z=>if xt z then some z else none
  | none=>none
 | none=>none

def oM (P:Program) (t:TypeId):Option fq:=
 match P.underlying t with
 | some (.map kt et)=>
  match P.underlying et with
  | some (.int _)=>none
  | _=>
   match P.underlying kt with
   | some .string=>some .str
   | some (.int k)=>some (.int k)
   | some (.array n e)=>
    match P.underlying e with
    | some (.int k)=>if (P.cellsOf e==1&&P.cellsOf kt==n&& !(P.types.size==0))=true then some (.ints n k) else none
    | _=>none
   | _=>none
 | _=>none

def rO (P:Program):Op→Option mT
 | .load t a=>
  match P.underlying t with
  | some d=>if gw P t&&(lV d||P.cellsOf t==1) then some (.load (lV d) (P.cellsOf t) a) else none
  | none=>none
 | .entry it=>some (.entry it)
 | .convert s d x=>
  match P.underlying s,P.underlying d with
  | some (.slice e),some .string=>match P.underlying e with | some (.int .u8)=>some (.uZ x) | _=>none
  | _,_=>none
 | .lookup t m k ok=>
  match oM P t with
  | some g=>match P.underlying t with
   | some (.map _ et)=>(H4 P et).map fun z=>.FW g ok z m k
   | _=>none
  | none=>
  match P.underlying t with
  | some (.map kt et)=>if isString P kt then (zT P et).map fun z=>.lookup ok z m k else (wL P kt).bind fun kd=>(zT P et).map fun z=>.FX kd ok z m k
  | _=>none
 | _=>none

def gq (P:Program):Op→Option mR
 | .store t a v=>if gw P t then some (.store (P.cellsOf t) a v) else none
 | .box e x=>some (.box e x)
 | .alloc e=>(zeroOf P e).map fun zs=>.alloc e zs
 | .buildSlice t n ps=>
  match P.underlying t with
  | some (.slice e)=>
   match zeroOf P e with
   | some zs=>if n*P.cellsOf e≤16777216∧P.cellsOf e≠0 then some (.kZ e n zs (ps.toList.map fun (i,x)=>(i*P.cellsOf e,P.cellsOf e,x))) else none
   | none=>none
  | _=>none
 | .makeSlice t l c=>
  match P.underlying t with
  | some (.slice e)=>
   match zeroOf P e with
   | some zs=>some (.make e (P.bytesOf e) zs l c)
   | none=>none
  | _=>none
 | .call { callee:=.builtin .append,args,argTypes }=>
  match args.toList,argTypes.toList with
  | [s,x],[t,t']=>
   if t=t' then
    match P.underlying t with
    | some (.slice e)=>
     match zeroOf P e with
     | some _=>some (.app e (P.cellsOf e) (P.bytesOf e) s x)
     | none=>none
    | _=>none
   else none
  | _,_=>none
 | .makeMap t none=>
  match oM P t with
  | some g=>some (.mN g)
  | none=>
  match P.underlying t with
  | some (.map kt _)=>some (match wL P kt with | some kd=>.F3 kd | none=>.mkMap)
  | _=>some .mkMap
 | .mapUpdate t m k v | .insert t m k v=>
  match oM P t with
  | some g=>some (.Ol g m k v)
  | none=>
  match P.underlying t with
  | some (.map kt _)=>if isString P kt then some (.Ok m k v) else (wL P kt).map fun kd=>.Om kd m k v
  | _=>none
 | .call { callee:=.builtin .delete,args,argTypes }=>
  match args.toList,argTypes[0]? with
  | [m,k],some t=>(oM P t).map fun g=>.AF g m k
  | _,_=>none
 | .call { callee:=.builtin .copy,args,argTypes }=>
  match args.toList,argTypes.toList with
  | [d,s],[t,_]=>
   match P.underlying t with
   | some (.slice e)=>if (P.info? e).map (·.size)=some 1 then some (.copy d s) else none
   | _=>none
  | _,_=>none
 | .range t x=>(oM P t).map fun _=>.Qs x
 | .next it false=>some (.next it)
 | .panic _ | .makeInterface .. =>some .die
 | _=>none

end Go.Sim


namespace Go.Sim

theorem aze {ρ:aI} {i o n:Nat} {e:TypeId} {y:Value} (h:av ρ (.slice (some ⟨i,o,some e⟩) n n) y):
  ∃r o' c',ρ i=some r∧r.elem=e∧y=.slice (some ⟨r.bm,o',none⟩) n c'∧(o'=r.sh+o∨(n=0∧0<o∧c'=0))∧n≤c'∧c'≤maxLen∧o'+c'*r.aV≤r.size:=by
 cases h with
 | slice hr a b c d=>exact ⟨_,_,_,hr,rfl,rfl,a,b,c,d⟩

theorem av.down {ρ ar:aI} (hle:ρ.le ar) {x y0:Value} (h0:av ρ x y0):∀{y:Value},av ar x y→av ρ x y:=by
 have same:∀{i:Nat} {r r':RI},ρ i=some r→ar i=some r'→r'=r:=fun h h'=>by rw [hle _ _ h] at h';cases h';rfl
 induction h0 with
 | bool b=>intro y h;cases h;exact .bool b
 | int k n=>intro y h;cases h;exact .int k n
 | string s=>intro y h;cases h;exact .string s
 | rr=>intro y h;cases h;exact .rr
 | om=>intro y h;cases h;exact .om
 | rp=>intro y h;cases h;exact .rp
 | nilFunc=>intro y h;cases h;exact .nilFunc
 | nilIface=>intro y h;cases h;exact .nilIface
 | ptr hi=>intro y h;cases h with | ptr gL=>cases same hi gL;exact .ptr hi
 | slice hi a b c d=>
  intro y h
  obtain ⟨r',o',c',h1,h2,rfl,h3,h4,h5,h6⟩:=aze h
  cases same hi h1
  exact .slice hi h3 h4 h5 h6
 | void a=>intro y h;cases h;exact .void _
 | map hi=>intro y h;cases h with | map gL=>cases same hi gL;exact .map hi
 | yield hi=>intro y h;cases h with | yield gL=>cases same hi gL;exact .yield hi
 | func f s1 s2 _ _ NT NU=>
  intro y h
  cases h with
  | func _ t1 t2 q1 q2=>
   refine .func f t1 t2 (fun k x x' e e'=>?_) (fun k x x' e e'=>?_)
   ·obtain ⟨z,hz⟩:∃z,_=some z:=⟨_,Array.getElem?_eq_getElem (by rw [←s1];exact (Array.getElem?_eq_some_iff.1 e).1)⟩
    exact NT k x z e hz (q1 k x x' e e')
   ·obtain ⟨z,hz⟩:∃z,_=some z:=⟨_,Array.getElem?_eq_getElem (by rw [←s2];exact (Array.getElem?_eq_some_iff.1 e).1)⟩
    exact NU k x z e hz (q2 k x x' e e')
 | agg s1 hc _ ih=>
  intro y h
  cases h with
  | agg t1 _ q1=>
   refine .agg t1 hc (fun k x x' e e'=>?_)
   obtain ⟨z,hz⟩:∃z,_=some z:=⟨_,Array.getElem?_eq_getElem (by rw [←s1];exact (Array.getElem?_eq_some_iff.1 e).1)⟩
   exact ih k x z e hz (q1 k x x' e e')
 | any v=>intro y _;exact .any y
 | tuple s1 _ ih=>
  intro y h
  cases h with
  | tuple t1 q1=>
   refine .tuple t1 (fun k x x' e e'=>?_)
   obtain ⟨z,hz⟩:∃z,_=some z:=⟨_,Array.getElem?_eq_getElem (by rw [←s1];exact (Array.getElem?_eq_some_iff.1 e).1)⟩
   exact ih k x z e hz (q1 k x x' e e')

theorem fm.down {ρ ar:aI} (hle:ρ.le ar) {c c':Array Value} {sh sh':Nat} {xs:List Value} (h0:fm ρ c sh xs) (h:fm ar c' sh' xs):fm ρ c' sh' xs:=by
 intro j x hj
 obtain ⟨_,y0,_,r0⟩:=h0 j x hj
 obtain ⟨c1,y,hy,r⟩:=h j x hj
 exact ⟨c1,y,hy,r0.down hle r⟩

theorem jF.down {ρ ar:aI} (hle:ρ.le ar) {w w':World} {r:RI} {o:ak} (h0:jF ρ w r o) (h:jF ar w' r o):jF ρ w' r o:=by
 cases o with
 | ro e xs=>
  obtain ⟨_,_,_,_,_,_,b4⟩:=h0
  obtain ⟨a1,c,t,fr,a2,a3,a4⟩:=h
  exact ⟨a1,c,t,fr,a2,a3,b4.down hle a4⟩
 | arr e xs=>
  obtain ⟨_,_,_,_,_,b4⟩:=h0
  obtain ⟨a1,a0,c,a2,a3,a4⟩:=h
  exact ⟨a1,a0,c,a2,a3,b4.down hle a4⟩
 | smap es=>
  obtain ⟨_,_,_,_,b3⟩:=h0
  obtain ⟨aH,clock,a1,a2,a3⟩:=h
  refine ⟨aH,clock,a1,a2,fun j k v hj=>?_⟩
  obtain ⟨_,_,_,r0⟩:=b3 j k v hj
  obtain ⟨en,e1,e2,e3⟩:=a3 j k v hj
  exact ⟨en,e1,e2,r0.down hle e3⟩
 | jm kd es=>
  obtain ⟨_,_,_,_,b3⟩:=h0
  obtain ⟨aH,clock,a1,a2,a3⟩:=h
  refine ⟨aH,clock,a1,a2,fun j k v hj=>?_⟩
  obtain ⟨_,_,_,r0⟩:=b3 j k v hj
  obtain ⟨en,e1,e2,e3⟩:=a3 j k v hj
  exact ⟨en,e1,e2,r0.down hle e3⟩
 | dH g c es=>
  obtain ⟨_,_,_,_,b3⟩:=h0
  obtain ⟨a0,aH,a1,a2,a3⟩:=h
  refine ⟨a0,aH,a1,a2,fun j b k v hj=>?_⟩
  obtain ⟨_,_,_,_,_,r0⟩:=b3 j b k v hj
  obtain ⟨e0,en,e1,e2,vp,e3⟩:=a3 j b k v hj
  exact ⟨e0,en,e1,e2,vp,r0.down hle e3⟩
 | iter m s n l=>
  obtain ⟨_,rm0,b1,_⟩:=h0
  obtain ⟨a0,rm,a1,a2⟩:=h
  have:=hle _ _ b1
  rw [a1] at this
  cases this
  exact ⟨a0,rm0,b1,a2⟩
 | loop c ls vs=>
  obtain ⟨_,_,_,_,_,_,_,_,b8⟩:=h0
  obtain ⟨rec,a1,a2,a3,a4,a5,a6,a7,a8⟩:=h
  exact ⟨rec,a1,a2,a3,a4,a5,a6,a7,fun t=>(b8 t).down hle (a8 t)⟩
 | dead=>trivial

theorem qq.rel {ρ ar:aI} {v v':Value} (h:qq v=true) (hv:av ρ v v'):av ar v v':=by
 unfold qq at h
 split at h
 ·cases hv;exact .bool _
 ·cases hv;exact .int _ _
 ·cases hv;exact .string _
 ·cases hv;exact .nilFunc
 ·cases hv;exact .nilIface
 ·cases hv;exact .rr
 ·cases hv;exact .rp
 ·cases hv;exact .om
 ·cases h

theorem aU.EU {P:Program} {ρ:aI} {h:ae} {w:World} (H:aU P ρ h w) (os:ae):aU P ρ (h++os) w where
 obj i r hi:=by
  obtain ⟨o,ho,hr⟩:=H.obj i r hi
  exact ⟨o,by rw [List.getElem?_append_left (H.lt hi)];exact ho,hr⟩
 inj i j r s hi hj hb hm hl:=by
  refine H.inj i j r s hi hj hb ?_ ?_
  ·unfold ca at hm⊢;rw [List.getElem?_append_left (H.lt hi)] at hm;exact hm
  ·unfold isLive at hl⊢;rw [List.getElem?_append_left (H.lt hj)] at hl;exact hl
 aV:=H.aV

theorem Tr.EU {P:Program} {ρ:aI} {h:ae} {w:World} (H:aU P ρ h w) (os:ae):Tr ρ h w ρ (h++os) w where
 ext:=.refl _
 len:=by simp
 il:=fun _ _ hi=>H.lt hi
 kinds:=fun i hi hm=>by unfold ca at hm⊢;rw [List.getElem?_append_left hi] at hm;exact hm
 fresh:=fun i r h1 h2=>by rw [h1] at h2;cases h2
 gE:=Nat.le_refl _
 fT:=fun _ _ _=>rfl
 os:=rfl
 tape:=rfl
 output:=rfl

theorem asZ {lo:mT} {g:Operand→Value} {h:ae} {v:Value} (os:ae) (hl:eJ lo g h=some v):eJ lo g (h++os)=some v:=by
 have get:∀{i:Nat} {o:ak},h[i]?=some o→(h++os)[i]?=some o:=by
  intro i o hi
  rw [List.getElem?_append_left (List.getElem?_eq_some_iff.1 hi).1];exact hi
 have cells:∀{i:Nat} {xs:List Value},aQ h i=some xs→aQ (h++os) i=some xs:=by
  intro i xs hc
  unfold aQ at hc⊢
  split at hc
  ·rename_i e ys hq;rw [get hq];exact hc
  ·rename_i e ys hq;rw [get hq];exact hc
  ·cases hc
 cases lo with
 | load agg n a=>
  simp only [eJ,af] at hl⊢
  split at hl
  ·rename_i i o _
   cases hc:aQ h i with
   | none=>rw [hc] at hl;cases hl
   | some xs=>rw [hc] at hl;rw [cells hc];exact hl
  ·cases hl
 | uZ x=>
  have sc:∀{cs:List Value},ju h 1 (g x)=some cs→ju (h++os) 1 (g x)=some cs:=by
   intro cs hc
   unfold ju at hc⊢
   split at hc
   ·exact hc
   ·rename_i i o e n c hx
    split at hc
    ·rename_i h0;rw [if_pos h0];exact hc
    ·rename_i h0
     rw [if_neg h0]
     cases vO:aQ h i with
     | none=>rw [vO] at hc;cases hc
     | some xs=>rw [vO] at hc;rw [cells vO];exact hc
   ·cases hc
  simp only [eJ,pb] at hl⊢
  cases hc:ju h 1 (g x) with
  | none=>rw [hc] at hl;cases hl
  | some cs=>rw [hc] at hl;rw [sc hc];exact hl
 | lookup ok z m k=>
  simp only [eJ,FF] at hl⊢
  split at hl
  ·rename_i i key hm hk
   split at hl
   ·rename_i es he;rw [get he];exact hl
   ·cases hl
  ·cases hl
 | FX kd ok z m k=>
  simp only [eJ,FH] at hl⊢
  split at hl
  ·rename_i i yU key hm hk
   split at hl
   ·rename_i kX es he;rw [get he];exact hl
   ·cases hl
  ·cases hl
 | FW gk ok z m k=>
  simp only [eJ,FG] at hl⊢
  split at hl
  ·rename_i i hm
   split at hl
   ·rename_i g' c es he;rw [get he];exact hl
   ·cases hl
  ·cases hl
 | entry it=>
  simp only [eJ,wE] at hl⊢
  split at hl
  ·rename_i j hj
   split at hl
   ·rename_i i si seen last pY
    rw [get pY]
    simp only
    split at hl
    ·rename_i gg c es b iX hb
     rw [get iX,hb]
     exact hl
    ·cases hl
   ·cases hl
  ·cases hl
 | obj x=>
  simp only [eJ,ee] at hl⊢
  cases hx:yQ (g x) with
  | none=>rw [hx] at hl;cases hl
  | some i=>
   rw [hx] at hl
   simp only [Option.bind_some] at hl⊢
   cases ho:h[i]? with
   | none=>rw [ho] at hl;cases hl
   | some o=>rw [ho] at hl;rw [get ho];exact hl

end Go.Sim


namespace Go.Sim

section
variable {P : Program} {w : World} {ρ : aI} {h : ae}

theorem aU.cells (H:aU P ρ h w) {i:Nat} {r:RI} {xs:List Value} (hi:ρ i=some r) (hx:aQ h i=some xs):
  ∃c t fr,w.heap[r.bm]?=some (.cells c t fr)∧fm ρ c r.sh xs:=by
 obtain ⟨o,ho,hr⟩:=H.obj i r hi
 unfold aQ at hx
 rw [ho] at hx
 cases o with
 | ro e ys=>
  simp at hx;subst hx
  obtain ⟨h1,c,t,fr,h2,h3,h4⟩:=hr
  exact ⟨c,t,fr,h2,h4⟩
 | arr e ys=>
  simp at hx;subst hx
  obtain ⟨h1,h0,c,h2,h3,h4⟩:=hr
  subst h1
  exact ⟨c,_,(0,0),h2,by rw [h0];exact h4⟩
 | smap es=>simp at hx
 | jm kd es=>simp at hx
 | dH g c es=>simp at hx
 | iter m s n l=>simp at hx
 | loop c ls vs=>simp at hx
 | dead=>simp at hx

theorem fm.Q7 {c:Array Value} {sh o n:Nat} {xs:List Value} (hc:fm ρ c sh xs) (hl:o+n≤xs.length):
  ∃ys:List Value,bn ρ ((xs.drop o).take n) ys∧ys.length=n∧(∀x∈(xs.drop o).take n,fw x=true)∧∀j v,ys[j]?=some v→c[sh+o+j]?=some v:=by
 have key:∀j,j<n→∃x y,((xs.drop o).take n)[j]?=some x∧c[sh+o+j]?=some y∧av ρ x y∧fw x=true:=by
  intro j hj
  have hx:xs[o+j]?=some (xs[o+j]'(by omega)):=List.getElem?_eq_getElem _
  obtain ⟨h1,y,hy,hr⟩:=hc (o+j) _ hx
  refine ⟨_,y,?_,by rw [←hy];congr 1;omega,hr,h1⟩
  rw [List.getElem?_take,if_pos hj,List.getElem?_drop]
  exact hx
 have hlen:((xs.drop o).take n).length=n:=by simp;omega
 refine ⟨(List.range n).map fun j=>c.getD (sh+o+j) Go.undef,?_,by simp,?_,?_⟩
 ·refine bn.Ga (by simp;omega) ?_
  intro k x y hx hy
  have hk:k<n:=by have:=(List.getElem?_eq_some_iff.1 hx).1;omega
  obtain ⟨x',y',h1,h2,h3,_⟩:=key k hk
  rw [h1] at hx;cases hx
  simp [hk] at hy
  subst hy
  simpa [Array.getD,Array.getElem?_eq_some_iff.1 h2 |>.1,(Array.getElem?_eq_some_iff.1 h2).2] using h3
 ·intro x hx
  obtain ⟨k,hk⟩:=List.getElem?_of_mem hx
  have b7:k<n:=by have:=(List.getElem?_eq_some_iff.1 hk).1;omega
  obtain ⟨x',y',h1,h2,h3,h4⟩:=key k b7
  rw [h1] at hk;cases hk
  exact h4
 ·intro j v hv
  by_cases hj:j<n
  ·obtain ⟨x',y',h1,h2,h3,_⟩:=key j hj
   simp [hj] at hv
   rw [h2,←hv]
   simp [Array.getElem?_eq_some_iff.1 h2 |>.1,(Array.getElem?_eq_some_iff.1 h2).2]
  ·simp [hj] at hv

theorem Ev {g o:Nat} {c:Array Value} {t:TypeId} {fr:Nat×Nat} (hg:w.heap[g]?=some (.cells c t fr)):w.cell? ⟨g,o,none⟩=c[o]?:=by
 simp [World.cell?,hg]

theorem ayV {g o n:Nat} {c:Array Value} {t:TypeId} {fr:Nat×Nat} {ys:List Value} (hg:w.heap[g]?=some (.cells c t fr)) (hl:ys.length=n) (hy:∀j v,ys[j]?=some v→c[o+j]?=some v):
  (loadCells ⟨g,o,none⟩ n).run P w=.ok ys.toArray w:=by
 subst hl
 exact run_loadCells_list w _ ys fun j v hj=>by rw [Addr.add_lit,Ev hg];exact hy j v hj

theorem ag7 (H:aU P ρ h w) {t:TypeId} {d:TypeDesc} {a a' v:Value} (ht:P.underlying t=some d) (hk:gw P t=true) (hi:af (lV d) (P.cellsOf t) h a=some v) (ha:av ρ a a'):
  ∃v',(Instr.loadAt t a').run P w=.ok v' w∧av ρ v v':=by
 unfold af at hi
 split at hi
 ·rename_i i o
  obtain ⟨r,hr,rfl⟩:=ha.B7
  simp only [Option.bind_eq_some_iff] at hi
  obtain ⟨xs,hx,hp⟩:=hi
  obtain ⟨c,_,fr,hb,hc⟩:=H.cells hr hx
  unfold ck at hp
  cases hd:lV d
  ·rw [hd] at hp
   simp at hp
   obtain ⟨h1,y,hy,hv⟩:=hc o v hp
   refine ⟨y,?_,hv⟩
   have:w.cell? ⟨r.bm,r.sh+o,none⟩=some y:=by rw [Ev hb,hy]
   simp [Instr.loadAt,Instr.sureAddr,loadVar,QD w ht,hd,this]
  ·rw [hd] at hp
   simp at hp
   obtain ⟨hl,rfl⟩:=hp
   obtain ⟨ys,h1,h2,h3,h4⟩:=hc.Q7 hl
   refine ⟨.agg ys.toArray,?_,.xT h1 h3⟩
   simp [Instr.loadAt,Instr.sureAddr,loadVar,QD w ht,hd,oz w hk,ayV (P:=P) hb h2 h4]
 ·cases hi

theorem Hu (H:aU P ρ h w) {aV:Nat} {x x':Value} {cs:List Value} (hs:ju h aV x=some cs) (hx:av ρ x x'):
  (x'=.slice none 0 0∧cs=[])∨(∃b o n c',x'=.slice (some ⟨b,o,none⟩) n c'∧nu x=some n∧cs.length=n*aV∧(∀v∈cs,fw v=true)∧
   ∃ys,bn ρ cs ys∧∀j v,ys[j]?=some v→w.cell? ⟨b,o+j,none⟩=some v):=by
 unfold ju at hs
 split at hs
 ·simp at hs;subst hs
  cases hx
  exact .inl ⟨rfl,rfl⟩
 ·rename_i i o e n c
  cases hx with
  | slice hr ho hn hc hb=>
   rename_i o' c' r
   split at hs
   ·rename_i h0
    simp at hs;subst hs;subst h0
    exact .inr ⟨_,_,_,_,rfl,rfl,by simp,by simp,[],.nil,by simp⟩
   ·rename_i h0
    simp only [Option.bind_eq_some_iff] at hs
    obtain ⟨xs,hx,hl⟩:=hs
    split at hl
    ·rename_i hle
     simp at hl;subst hl
     obtain ⟨c,_,fr,pS,hc⟩:=H.cells hr hx
     obtain ⟨ys,h1,h2,h3,h4⟩:=hc.Q7 hle
     have c9:o'=r.sh+o:=by
      rcases ho with ho | ⟨q1,q2,q3⟩
      ·exact ho
      ·omega
     subst c9
     refine .inr ⟨_,_,_,_,rfl,rfl,by simp;omega,h3,ys,h1,?_⟩
     intro j v hj
     rw [Ev pS]
     exact h4 j v hj
    ·cases hl
 ·cases hs

theorem aaZ:∀{cs:List Value} {l:List UInt8},cs.mapM Al=some l→∃ns:List Int,cs=ns.map (Value.int .u8)∧l=ns.map fun n=>UInt8.ofNat n.toNat
 | [],l,h=>by simp at h;subst h;exact ⟨[],rfl,rfl⟩
 | c::cs,l,h=>by
  simp only [List.mapM_cons,Option.bind_eq_bind,Option.bind_eq_some_iff] at h
  obtain ⟨b,hb,bs,A2,h⟩:=h
  simp at h;subst h
  obtain ⟨ns,rfl,rfl⟩:=aaZ A2
  unfold Al at hb
  split at hb
  ·rename_i n
   simp at hb;subst hb
   exact ⟨n::ns,rfl,rfl⟩
  ·cases hb

theorem bn.ints {ns:List Int} {k:IntKind} {ys:List Value} (h:bn ρ (ns.map (Value.int k)) ys):ys=ns.map (Value.int k):=by
 induction ns generalizing ys with
 | nil=>cases h;rfl
 | cons n ns ih=>
  cases h with
  | cons a b=>rw [a.kh,ih b];rfl

theorem auY (ns:List Int):∀(s:ByteArray),ns.foldl (fun r n=>r.push (UInt8.ofNat n.toNat)) s=⟨(bytes s++ns.map fun n=>UInt8.ofNat n.toNat).toArray⟩:=by
 induction ns with
 | nil=>intro s;simp [yZ]
 | cons n ns ih=>
  intro s
  rw [List.foldl_cons,ih]
  simp [bytes]

theorem ays (H:aU P ρ h w) {x x' v:Value} (hi:pb h x=some v) (hx:av ρ x x'):(Conv.bytesToString x').run P w=.ok v w∧av ρ v v:=by
 unfold pb at hi
 simp only [Option.bind_eq_some_iff,Option.map_eq_some_iff] at hi
 obtain ⟨cs,hs,l,hl,rfl⟩:=hi
 refine ⟨?_,av.S _ _⟩
 obtain ⟨ns,rfl,rfl⟩:=aaZ hl
 rcases Hu H hs hx with ⟨rfl,h0⟩ | ⟨b,o,n,c',rfl,_,hlen,_,ys,hy,yx⟩
 ·have:ns=[]:=by simpa using h0
  subst this
  simp [Conv.bytesToString,S]
  rfl
 ·have e:=hy.ints
  subst e
  simp at hlen
  have hld:(loadCells ⟨b,o,none⟩ n).run P w=.ok (ns.map (Value.int .u8)).toArray w:=by
   have:=run_loadCells_list (P:=P) w ⟨b,o,none⟩ (ns.map (Value.int .u8)) (fun j v hj=>by rw [Addr.add_lit];exact yx j v hj)
   simpa [hlen] using this
  rw [run_bytesToString w _ n c' ns hld,auY]
  rfl

end
end Go.Sim


namespace Go.Sim

theorem aap {a b:Value} (h:wJ a b=true):a=b:=by
 unfold wJ at h
 split at h
 ·simp only [Bool.and_eq_true,decide_eq_true_eq] at h;rw [h.1,h.2]
 ·cases h

theorem aaq:∀{a b:List Value},yS a b=true→a=b
 | [],[],_=>rfl
 | a::rM,b::bs,h=>by
  simp only [yS,Bool.and_eq_true] at h
  rw [aap h.1,aaq h.2]
 | [],_::_,h=>by cases h
 | _::_,[],h=>by cases h

theorem aar {k:IntKind}:∀{a:List Value},(∀v∈a,jE k v=true)→yS a a=true
 | [],_=>rfl
 | a::rM,h=>by
  simp only [yS,Bool.and_eq_true]
  refine ⟨?_,aar fun v hv=>h v (by simp [hv])⟩
  have:=h a (by simp)
  unfold jE at this
  split at this
  ·simp [wJ]
  ·cases this

theorem YE {a b:Value} (h:nN a b=true):a=b:=by
 unfold nN at h
 split at h
 ·rename_i s t
  simp at h
  have:=yZ s
  rw [h,yZ] at this
  rw [this]
 ·rw [Array.ext' (aaq h)]
 ·exact aap h

theorem aru {g:fq} {a:Value} (h:dZ g a=true):nN a a=true:=by
 unfold dZ at h
 split at h
 ·unfold jE at h
  split at h
  ·simp [nN,wJ]
  ·cases h
 ·simp [nN]
 ·simp only [Bool.and_eq_true,List.all_eq_true] at h
  exact aar fun v hv=>(h.2 v hv).1
 ·cases h

theorem art {g:fq} {a b:Value} (h:dZ g a=true):nN a b=true↔a=b:=⟨YE,fun e=>e ▸ aru h⟩

theorem GR {g:fq} {k:Value} (hk:dZ g k=true):∀es:List (Nat×Value×Value),(lZ k es=none∧∀e∈es,e.2.1≠k)∨∃j e,lZ k es=some j∧es[j]?=some e∧e.2.1=k
 | []=>.inl ⟨rfl,by simp⟩
 | (b,k',v)::es=>by
  simp only [lZ]
  by_cases h:nN k k'=true
  ·rw [if_pos h]
   exact .inr ⟨0,(b,k',v),rfl,rfl,(YE h).symm⟩
  ·rw [if_neg h]
   rcases GR hk es with ⟨h1,h2⟩ | ⟨j,e,h1,h2,h3⟩
   ·refine .inl ⟨by rw [h1];rfl,?_⟩
    intro e he
    rcases List.mem_cons.1 he with rfl | he
    ·intro e'
     exact h ((art hk).2 e'.symm)
    ·exact h2 e he
   ·exact .inr ⟨j+1,e,by rw [h1];rfl,by simpa using h2,h3⟩

structure CD (P:Program) (kt:TypeId) (g:fq):Prop where
 check:∀(w:World) (em:Bool) (v:Value),dZ g v=true→(Instr.checkKey em 10000 kt v).run P w=.ok () w
 find:∀(w:World) (x:Value),dZ g x=true→∀es:List MapEntry,(∀e∈es,dZ g e.key=true)→
  ((Instr.findKey kt x es).run P w=.ok none w∧∀e∈es,e.key≠x)∨∃j e,(Instr.findKey kt x es).run P w=.ok (some (j,e.val)) w∧es[j]?=some e∧e.key=x
 stays:∀(w:World) (v:Value),dZ g v=true→(Instr.keyThatStays v v).run P w=.ok v w

theorem afQ {P:Program} {kt:TypeId} {g:fq} {d:TypeDesc} (hd:P.underlying kt=some d) (hg:∀v,dZ g v=true→MapKept.IsKey d v):CD P kt g where
 check w em v hv:=MapKept.run_checkKey hd (hg v hv) em 9999
 find w x hx es iX:=by
  rcases MapKept.findNow_spec (hg x hx) es 0 (fun e he=>hg _ (iX e he)) with ⟨h1,h2⟩ | ⟨j,e,h1,h2,h3⟩
  ·exact .inl ⟨MapKept.run_findKey hd h1,h2⟩
  ·exact .inr ⟨j,e,by simpa using MapKept.run_findKey hd h1,h2,h3⟩
 stays w v hv:=MapKept.run_keyThatStays (hg v hv)

section
variable {P : Program}

theorem aas {k:IntKind} {e:TypeId} {D:Nat} (he:P.underlying e=some (.int k)) (hc:P.cellsOf e=1) (cs:List Value) (h:∀v∈cs,(jE k v&&NV k v)=true):
  ∀m,m≤cs.length→∃ls,((List.range m).mapM fun i=>P.keyLits (D+1) e ((cs.drop (i*P.cellsOf e)).take (P.cellsOf e)))=some ls
 | 0,_=>⟨[],rfl⟩
 | m+1,hm=>by
  obtain ⟨ls,M3⟩:=aas he hc cs h m (by omega)
  have so:m<cs.length:=by omega
  have hv:=h cs[m] (List.getElem_mem so)
  rw [Bool.and_eq_true] at hv
  have h1:(cs.drop (m*P.cellsOf e)).take (P.cellsOf e)=[cs[m]]:=by
   rw [hc,Nat.mul_one]
   apply List.ext_getElem?
   intro i
   rw [List.getElem?_take]
   cases i with
   | zero=>simp [so]
   | succ i=>simp
  generalize cs[m]=v at hv h1
  obtain ⟨k',n,rfl⟩:∃k' n,v=.int k' n:=by
   cases v <;> first | exact ⟨_,_,rfl⟩ | simp [jE] at hv
  have hk:k'=k:=by simpa [jE] using hv.1
  subst hk
  have hr:k'.min≤n∧n≤k'.max:=by simpa [NV] using hv.2
  have hw:(Lit.int k' n).wf=true:=by simp [Lit.wf,hr]
  refine ⟨ls++[[.int k' n]],?_⟩
  rw [List.range_succ,List.mapM_append,M3]
  simp [h1,Program.keyLits,he,hw]

theorem as2 {kt e:TypeId} {n:Nat} {k:IntKind} (hu:P.underlying kt=some (.array n e)) (he:P.underlying e=some (.int k)) (Y3:P.cellsOf e=1) (MG:P.cellsOf kt=n) (jC:P.types.size≠0):CD P kt (.ints n k):=by
 have A:WideMaps.ArrKey P kt e n:=⟨hu,by simp [Program.plainKey,he],Y3,MG⟩
 have key:∀v,dZ (.ints n k) v=true→∃l,keyOf P kt v=some l:=by
  intro v hv
  cases v <;> simp [dZ] at hv
  rename_i cs
  obtain ⟨h1,h2⟩:=hv
  have hkt:=A.keyType ⟨P.types.size-1,by omega⟩
  obtain ⟨D,hD⟩:∃D,P.types.size=D+1:=⟨P.types.size-1,by omega⟩
  obtain ⟨ls,M3⟩:=aas (D:=D) he Y3 cs.toList (fun v hv=>by obtain ⟨i,hi,e⟩:=List.mem_iff_getElem.1 hv;have:=h2 i (by simpa using hi);rw [←e];simpa using this) n (by simp [h1])
  refine ⟨.string (keyBytes ls.flatten),?_⟩
  unfold keyOf
  rw [hu]
  have hf:(Value.agg cs).formed P kt=true:=by simp [Value.formed,hu,MG,h1]
  simp only [hkt,hf,Bool.and_self,if_true]
  unfold Program.keyLits
  rw [hu]
  have hl:(Value.agg cs).cells.toList.length=P.cellsOf kt:=by simp [Value.cells,MG,h1]
  simp only [hl,if_true,hD]
  have:(Value.agg cs).cells.toList=cs.toList:=rfl
  rw [this,M3]
  rfl
 have K:=A.law
 exact {
  check:=fun w em v hv=>let ⟨l,hl⟩:=key v hv;K.check w em hl
  find:=fun w x hx es iX=>let ⟨l,hl⟩:=key x hx;K.find w hl es fun e he=>key _ (iX e he)
  stays:=fun w v hv=>let ⟨l,hl⟩:=key v hv;K.stays w hl }

theorem EZ {t:TypeId} {g:fq} (h:oM P t=some g):∃kt et,P.underlying t=some (.map kt et)∧CD P kt g:=by
 unfold oM at h
 split at h
 ·rename_i kt et ht
  refine ⟨kt,et,ht,?_⟩
  split at h
  ·cases h
  ·split at h
   ·rename_i hk
    simp at h;subst h
    exact afQ hk fun v hv=>by cases v <;> simp [dZ] at hv;trivial
   ·rename_i k hk
    simp at h;subst h
    exact afQ hk fun v hv=>by cases v <;> simp [dZ,jE] at hv;exact hv
   ·rename_i n e hk
    split at h
    ·rename_i k he
     split at h
     ·rename_i hc
      simp at h;subst h
      simp at hc
      exact as2 hk he hc.1.1 hc.1.2 (by rw [Ne,Array.size_eq_zero_iff];exact hc.2)
     ·cases h
    ·cases h
   ·cases h
 ·cases h

end

section
variable {P : Program} {w : World} {ρ : aI} {h : ae}

structure pF (ρ:aI) (g:fq) (es:List (Nat×Value×Value)) (aH:Array MapEntry):Prop where
 size:aH.size=es.length
 nodup:(es.map fun e=>e.2.1).Nodup
 get:∀(j b:Nat) (k v:Value),es[j]?=some (b,k,v)→dZ g k=true∧∃en,aH[j]?=some en∧en.key=k∧en.born=b∧av ρ v en.val

theorem aU.yc (H:aU P ρ h w) {i:Nat} {r:RI} {g:fq} {c:Nat} {es:List (Nat×Value×Value)} (hi:ρ i=some r) (he:h[i]?=some (.dH g c es)):
  ∃aH,w.heap[r.bm]?=some (.map aH c)∧pF ρ g es aH:=by
 obtain ⟨o,ho,hr⟩:=H.obj i r hi
 rw [he] at ho
 cases ho
 obtain ⟨h0,aH,h1,h2,h3⟩:=hr
 exact ⟨aH,h1,h2,h0,h3⟩

theorem pF.inv {g:fq} {es:List (Nat×Value×Value)} {aH:Array MapEntry} (E:pF ρ g es aH) {j:Nat} {en:MapEntry} (hj:aH[j]?=some en):∃v,es[j]?=some (en.born,en.key,v)∧dZ g en.key=true∧av ρ v en.val:=by
 have aB:j<es.length:=by rw [←E.size];exact (Array.getElem?_eq_some_iff.1 hj).1
 obtain ⟨b,k,v⟩:Nat×Value×Value:=es[j]
 have iX:=List.getElem?_eq_getElem aB
 generalize he:es[j]=x at iX
 obtain ⟨b,k,v⟩:=x
 obtain ⟨g1,Yf,g2,g3,g4,g5⟩:=E.get j b k v iX
 rw [hj] at g2
 cases g2
 subst g3;subst g4
 exact ⟨v,iX,g1,g5⟩

theorem QA {g:fq} {kt:TypeId} {es:List (Nat×Value×Value)} {aH:Array MapEntry} (L:CD P kt g) (E:pF ρ g es aH) {k:Value} (hk:dZ g k=true):
  ((lZ k es=none∧(∀e∈es,e.2.1≠k))∧(Instr.findKey kt k aH.toList).run P w=.ok none w)∨
  ∃j b v en,lZ k es=some j∧es[j]?=some (b,k,v)∧aH[j]?=some en∧en.key=k∧en.born=b∧av ρ v en.val∧(Instr.findKey kt k aH.toList).run P w=.ok (some (j,en.val)) w:=by
 have eQ:∀e∈aH.toList,dZ g e.key=true:=by
  intro e he
  obtain ⟨j,hj,e'⟩:=List.mem_iff_getElem.1 he
  have:aH[j]?=some e:=by
   rw [←Array.getElem?_toList,List.getElem?_eq_getElem hj,e']
  exact (E.inv this).choose_spec.2.1
 rcases L.find w k hk aH.toList eQ with ⟨h1,h2⟩ | ⟨j,en,h1,h2,h3⟩
 ·rcases GR hk es with ⟨p1,p2⟩ | ⟨j,e,p1,p2,p3⟩
  ·exact .inl ⟨⟨p1,p2⟩,h1⟩
  ·exfalso
   obtain ⟨b,k',v⟩:=e
   obtain ⟨_,en,q1,q2,_⟩:=E.get j b k' v p2
   have hm:en∈aH.toList:=by
    rw [←Array.getElem?_toList] at q1
    exact List.mem_of_getElem? q1
   exact h2 en hm (q2.trans p3)
 ·have YO:aH[j]?=some en:=by rw [←Array.getElem?_toList];exact h2
  obtain ⟨v,q1,q2,q3⟩:=E.inv YO
  rcases GR hk es with ⟨p1,p2⟩ | ⟨j',e,p1,p2,p3⟩
  ·exact absurd h3 (p2 _ (List.mem_of_getElem? q1))
  ·have hj:j'=j:=by
    have hn:=List.pairwise_iff_getElem.1 E.nodup
    have l1:j<es.length:=(List.getElem?_eq_some_iff.1 q1).1
    have l2:j'<es.length:=(List.getElem?_eq_some_iff.1 p2).1
    have k1:(es.map fun e=>e.2.1)[j]'(by simpa using l1)=k:=by
     have:=(List.getElem?_eq_some_iff.1 q1).2
     simp [this,h3]
    have k2:(es.map fun e=>e.2.1)[j']'(by simpa using l2)=k:=by
     have:=(List.getElem?_eq_some_iff.1 p2).2
     simp [this,p3]
    rcases Nat.lt_trichotomy j j' with aB | heq | aB
    ·exact absurd (k1.trans k2.symm) (hn j j' _ _ aB)
    ·exact heq.symm
    ·exact absurd (k2.trans k1.symm) (hn j' j _ _ aB)
   subst hj
   exact .inr ⟨_,_,v,en,p1,by rw [q1,h3],YO,h3,rfl,q3,h1⟩

theorem xt.rel {z:Value} (h:xt z=true):av ρ z z:=by
 unfold xt at h
 split at h
 ·rename_i cs
  rw [List.all_eq_true] at h
  have cl:∀x∈cs.toList,j6 x=true∧fw x=true:=fun x hx=>by have:=h x hx;simpa [xY] using this
  refine .agg rfl (fun x hx=>(cl x hx).2) (fun k x x' hx bJ=>?_)
  rw [hx] at bJ
  cases bJ
  exact j6.rel (cl x (by rw [←Array.getElem?_toList] at hx;exact List.mem_of_getElem? hx)).1
 ·exact j6.rel h

theorem ayz (H:aU P ρ h w) {it BB v:Value} (hi:wE h it=some v) (hv:av ρ it BB):∃v',(Instr.entry BB).run P w=.ok v' w∧av ρ v v':=by
 unfold wE at hi
 split at hi
 ·rename_i j
  split at hi
  ·rename_i i since seen last pY
   split at hi
   ·rename_i g c es b iX hb
    split at hi
    ·rename_i fa
     subst fa
     cases hv with
     | ptr hr=>
      rename_i r
      obtain ⟨o,ho,kV⟩:=H.obj j r hr
      rw [pY] at ho
      cases ho
      obtain ⟨FA,rm,Fz,pS⟩:=kV
      obtain ⟨aH,hm,E⟩:=H.yc Fz iX
      rw [FA]
      rw [Option.map_eq_some_iff] at hi
      obtain ⟨e,he,rfl⟩:=hi
      have arO:∃en,aH.find? (fun x=>x.born==b)=some en∧en.key=e.2.1∧dZ g e.2.1=true∧av ρ e.2.2 en.val:=by
       rw [←Array.find?_toList]
       have key:∀(l1:List (Nat×Value×Value)) (l2:List MapEntry),l2.length=l1.length→(∀(j b:Nat) (k v:Value),l1[j]?=some (b,k,v)→dZ g k=true∧∃en,l2[j]?=some en∧en.key=k∧en.born=b∧av ρ v en.val)→
         l1.find? (fun x=>x.1==b)=some e→∃en,l2.find? (fun x=>x.born==b)=some en∧en.key=e.2.1∧dZ g e.2.1=true∧av ρ e.2.2 en.val:=by
        intro l1
        induction l1 with
        | nil=>intro l2 _ _ h;simp at h
        | cons x l1 ih=>
         intro l2 hl eQ hf
         obtain ⟨bx,kx,vx⟩:=x
         cases l2 with
         | nil=>simp at hl
         | cons y l2=>
          obtain ⟨g1,en,g2,g3,g4,g5⟩:=eQ 0 bx kx vx rfl
          simp at g2
          subst g2
          rw [List.find?_cons] at hf⊢
          by_cases yw:(bx==b)=true
          ·simp only [yw] at hf
           cases hf
           rw [g4]
           simp only [yw]
           exact ⟨y,rfl,g3,g1,g5⟩
          ·have yw:(bx==b)=false:=by simpa using yw
           simp only [yw] at hf
           rw [g4]
           simp only [yw]
           exact ih l2 (by simpa using hl) (fun j b k v hj=>by simpa using eQ (j+1) b k v (by simpa using hj)) hf
       exact key es aH.toList (by simp [E.size]) (fun j b k v hj=>by simpa using E.get j b k v hj) he
      obtain ⟨en,f1,f2,f3,f4⟩:=arO
      have bP:(getObj r.bm).run P w=.ok (.mapIter (some rm.bm) since seen.toArray c) w:=by simp [getObj,Sem.run,pS]
      have MO:(getObj rm.bm).run P w=.ok (.map aH c) w:=by simp [getObj,Sem.run,hm]
      have vK:seen.toArray.back?=some b:=by simpa using hb
      refine ⟨.tuple #[en.key,en.val],?_,?_⟩
      ·unfold Instr.entry
       simp [bP,MO,hb,f1]
      ·rw [f2]
       have MZ:av ρ e.2.1 e.2.1:=by
        have ints:∀{kd:IntKind} {v:Value},jE kd v=true→av ρ v v∧fw v=true:=by
         intro kd v hv
         cases v <;> simp [jE] at hv
         exact ⟨.int _ _,rfl⟩
        cases Bb:e.2.1 with
        | int kd n=>exact .int _ _
        | string s=>exact .string _
        | agg cs=>
         rw [Bb] at f3
         cases g with
         | ints n kd=>
          simp only [dZ,Bool.and_eq_true,List.all_eq_true] at f3
          refine .agg rfl (fun x hx=>(ints (f3.2 x hx).1).2) (fun k x x' hx bJ=>?_)
          rw [hx] at bJ
          cases bJ
          exact (ints (f3.2 x (by rw [←Array.getElem?_toList] at hx;exact List.mem_of_getElem? hx)).1).1
         | int _=>simp [dZ,jE] at f3
         | str=>simp [dZ] at f3
        | _=>rw [Bb] at f3;cases g <;> simp [dZ,jE] at f3
       exact av.pv (.cons MZ (.cons f4 .nil))
    ·cases hi
   ·cases hi
  ·cases hi
 ·cases hi

theorem aAm {t:TypeId} {z:Value} (hz:H4 P t=some z):(∀w,(zeroValue t).run P w=.ok z w)∧xt z=true:=by
 unfold H4 at hz
 split at hz
 ·rename_i i hi
  split at hz
  ·rename_i z' pa
   split at hz
   ·rename_i hc
    simp at hz;subst hz
    exact ⟨fun w=>xj w hi pa,hc⟩
   ·cases hz
  ·cases hz
 ·cases hz

theorem av.key {g:fq} {k k':Value} (hk:dZ g k=true) (h:av ρ k k'):k'=k:=by
 have ints:∀{kd:IntKind} {v v':Value},jE kd v=true→av ρ v v'→v'=v:=by
  intro kd v v' hv hr
  cases hr <;> first | rfl | simp [jE] at hv
 cases h with
 | int=>rfl
 | string=>rfl
 | agg hs _ eQ=>
  rename_i xs xs' _
  cases g with
  | ints n kd=>
   simp only [dZ,Bool.and_eq_true,List.all_eq_true] at hk
   congr 1
   apply Array.ext
   ·exact hs.symm
   ·intro i h1 h2
    exact ints (hk.2 xs[i] (by simp)).1 (eQ i _ _ (Array.getElem?_eq_getElem h2) (Array.getElem?_eq_getElem h1))
  | int _=>simp [dZ,jE] at hk
  | str=>simp [dZ] at hk
 | _=>cases g <;> simp [dZ,jE] at hk

theorem ayH (H:aU P ρ h w) {t kt et:TypeId} {g:fq} {ok:Bool} {z m m' k k' v:Value} (hg:oM P t=some g) (ht:P.underlying t=some (.map kt et)) (hz:H4 P et=some z)
  (hi:FG g ok z h m k=some v) (hm:av ρ m m') (jB:av ρ k k'):∃v',(Instr.lookup t m' k' ok).run P w=.ok v' w∧av ρ v v':=by
 obtain ⟨kt',et',ZS,L⟩:=EZ hg
 rw [ht] at ZS
 cases ZS
 unfold FG at hi
 split at hi
 ·rename_i i
  cases hm with
  | map hr=>
   rename_i r
   split at hi
   ·rename_i g' c es he
    split at hi
    ·rename_i mH
     obtain ⟨rfl,hk⟩:=mH
     rw [jB.key hk]
     have ag4:∀{aH:Array MapEntry} {clock:Nat},w.heap[r.bm]?=some (.map aH clock)→(getObj r.bm).run P w=.ok (.map aH clock) w:=by
      intro aH clock hb
      simp [getObj,Sem.run,hb]
     obtain ⟨aH,hb,E⟩:=H.yc hr he
     obtain ⟨np,lU⟩:=aAm hz
     rcases QA (w:=w) L E hk with ⟨⟨e1,_⟩,e2⟩ | ⟨j,b,u,en,e1,e2,e3,e4,e5,e6,e7⟩
     ·have:vC k es=none:=by simp [vC,e1]
      rw [this] at hi
      simp at hi
      have fz:(Instr.lookup t (.map (some r.bm)) k ok).run P w=.ok (if ok then .tuple #[z,.bool false] else z) w:=by
       simp [Instr.lookup,run_underlying ht,ag4 hb,L.check w _ k hk,e2,np]
      refine ⟨_,fz,?_⟩
      subst hi
      cases ok
      ·exact xt.rel lU
      ·exact av.pv (.cons (xt.rel lU) (.cons (.bool _) .nil))
     ·have:vC k es=some u:=by simp [vC,e1,e2]
      rw [this] at hi
      simp at hi
      have fz:(Instr.lookup t (.map (some r.bm)) k ok).run P w=.ok (if ok then .tuple #[en.val,.bool true] else en.val) w:=by
       simp [Instr.lookup,run_underlying ht,ag4 hb,L.check w _ k hk,e7]
      refine ⟨_,fz,?_⟩
      subst hi
      cases ok
      ·exact e6
      ·exact av.pv (.cons e6 (.cons (.bool _) .nil))
    ·cases hi
   ·cases hi
 ·cases hi

end
end Go.Sim


namespace Go.Sim

inductive km (ρ:aI):List (ByteArray×Value)→List MapEntry→Prop
 | nil:km ρ [] []
 | cons {k:ByteArray} {v:Value} {en:MapEntry} {es:List (ByteArray×Value)} {aH:List MapEntry}:en.key=.string k→av ρ v en.val→km ρ es aH→km ρ ((k,v)::es) (en::aH)

theorem km.of {ρ:aI}:∀{es:List (ByteArray×Value)} {aH:List MapEntry},aH.length=es.length→
  (∀(j:Nat) (k:ByteArray) (v:Value),es[j]?=some (k,v)→∃en,aH[j]?=some en∧en.key=.string k∧av ρ v en.val)→km ρ es aH
 | [],[],_,_=>.nil
 | (k,v)::es,en::aH,hl,h=>by
  obtain ⟨Yf,h1,h2,h3⟩:=h 0 k v rfl
  simp at h1;subst h1
  exact .cons h2 h3 (km.of (by simpa using hl) fun j k' v' hj=>by simpa using h (j+1) k' v' (by simpa using hj))

theorem km.to {ρ:aI} {es:List (ByteArray×Value)} {aH:List MapEntry} (h:km ρ es aH):
  aH.length=es.length∧∀(j:Nat) (k:ByteArray) (v:Value),es[j]?=some (k,v)→∃en,aH[j]?=some en∧en.key=.string k∧av ρ v en.val:=by
 induction h with
 | nil=>exact ⟨rfl,fun j k v hj=>by simp at hj⟩
 | cons h1 h2 _ ih=>
  refine ⟨by simp [ih.1],?_⟩
  intro j k v hj
  cases j with
  | zero=>simp at hj;obtain ⟨rfl,rfl⟩:=hj;exact ⟨_,rfl,h1,h2⟩
  | succ j=>simp at hj;simpa using ih.2 j k v hj

theorem km.mono {ρ ar:aI} (hle:ρ.le ar) {es:List (ByteArray×Value)} {aH:List MapEntry} (h:km ρ es aH):km ar es aH:=by
 induction h with
 | nil=>exact .nil
 | cons h1 h2 _ ih=>exact .cons h1 (h2.mono hle) ih

theorem aq9 {ρ:aI} {es:List (ByteArray×Value)} {aH:List MapEntry} (h:km ρ es aH) (k:ByteArray):∀i:Nat,
  (rT k es=none∧Instr.findNow .string (.string k) aH i=some none)∨
  (∃v v' j,rT k es=some v∧Instr.findNow .string (.string k) aH i=some (some (i+j,v'))∧av ρ v v'∧(∃en,aH[j]?=some en∧en.key=.string k)):=by
 induction h with
 | nil=>intro i;exact .inl ⟨rfl,rfl⟩
 | cons h1 h2 _ ih=>
  rename_i k0 v0 en es aH _
  intro i
  by_cases hk:k=k0
  ·subst hk
   refine .inr ⟨v0,en.val,0,by simp [rT],?_,h2,en,rfl,h1⟩
   have hb:(k==k)=true:=(MapKept.bytes_beq k k).2 rfl
   simp [Instr.findNow,h1,Instr.sameNow,hb]
  ·have hb:(k==k0)=false:=by
    rw [Bool.eq_false_iff]
    exact fun e=>hk ((MapKept.bytes_beq k k0).1 e)
   rcases ih (i+1) with ⟨e1,e2⟩ | ⟨v,v',j,e1,e2,e3,e4⟩
   ·refine .inl ⟨by simp [rT,hk,e1],?_⟩
    simp [Instr.findNow,h1,Instr.sameNow,hb,e2]
   ·refine .inr ⟨v,v',j+1,by simp [rT,hk,e1],?_,e3,?_⟩
    ·simp [Instr.findNow,h1,Instr.sameNow,hb,e2];omega
    ·simpa using e4

inductive kn (kd:IntKind) (ρ:aI):List (Int×Value)→List MapEntry→Prop
 | nil:kn kd ρ [] []
 | cons {k:Int} {v:Value} {en:MapEntry} {es:List (Int×Value)} {aH:List MapEntry}:en.key=.int kd k→av ρ v en.val→kn kd ρ es aH→kn kd ρ ((k,v)::es) (en::aH)

theorem kn.of {kd:IntKind} {ρ:aI}:∀{es:List (Int×Value)} {aH:List MapEntry},aH.length=es.length→
  (∀(j:Nat) (k:Int) (v:Value),es[j]?=some (k,v)→∃en,aH[j]?=some en∧en.key=.int kd k∧av ρ v en.val)→kn kd ρ es aH
 | [],[],_,_=>.nil
 | (k,v)::es,en::aH,hl,h=>by
  obtain ⟨Yf,h1,h2,h3⟩:=h 0 k v rfl
  simp at h1;subst h1
  exact .cons h2 h3 (kn.of (by simpa using hl) fun j k' v' hj=>by simpa using h (j+1) k' v' (by simpa using hj))

theorem kn.to {kd:IntKind} {ρ:aI} {es:List (Int×Value)} {aH:List MapEntry} (h:kn kd ρ es aH):
  aH.length=es.length∧∀(j:Nat) (k:Int) (v:Value),es[j]?=some (k,v)→∃en,aH[j]?=some en∧en.key=.int kd k∧av ρ v en.val:=by
 induction h with
 | nil=>exact ⟨rfl,fun j k v hj=>by simp at hj⟩
 | cons h1 h2 _ ih=>
  refine ⟨by simp [ih.1],?_⟩
  intro j k v hj
  cases j with
  | zero=>simp at hj;obtain ⟨rfl,rfl⟩:=hj;exact ⟨_,rfl,h1,h2⟩
  | succ j=>simp at hj;simpa using ih.2 j k v hj

theorem kn.mono {kd:IntKind} {ρ ar:aI} (hle:ρ.le ar) {es:List (Int×Value)} {aH:List MapEntry} (h:kn kd ρ es aH):kn kd ar es aH:=by
 induction h with
 | nil=>exact .nil
 | cons h1 h2 _ ih=>exact .cons h1 (h2.mono hle) ih

theorem ara {kd:IntKind} {ρ:aI} {es:List (Int×Value)} {aH:List MapEntry} (h:kn kd ρ es aH) (k:Int):∀i:Nat,
  (mB k es=none∧Instr.findNow (.int kd) (.int kd k) aH i=some none)∨
  (∃v v' j,mB k es=some v∧Instr.findNow (.int kd) (.int kd k) aH i=some (some (i+j,v'))∧av ρ v v'∧(∃en,aH[j]?=some en∧en.key=.int kd k)):=by
 induction h with
 | nil=>intro i;exact .inl ⟨rfl,rfl⟩
 | cons h1 h2 _ ih=>
  rename_i k0 v0 en es aH _
  intro i
  by_cases hk:k=k0
  ·subst hk
   refine .inr ⟨v0,en.val,0,by simp [mB],?_,h2,en,rfl,h1⟩
   have hb:(k==k)=true:=beq_self_eq_true k
   simp [Instr.findNow,h1,Instr.sameNow]
  ·have hb:(k==k0)=false:=by
    exact beq_false_of_ne hk
   rcases ih (i+1) with ⟨e1,e2⟩ | ⟨v,v',j,e1,e2,e3,e4⟩
   ·refine .inl ⟨by simp [mB,hk,e1],?_⟩
    simp [Instr.findNow,h1,Instr.sameNow,hb,e2]
   ·refine .inr ⟨v,v',j+1,by simp [mB,hk,e1],?_,e3,?_⟩
    ·simp [Instr.findNow,h1,Instr.sameNow,hb,e2];omega
    ·simpa using e4

section
variable {P : Program} {w : World} {ρ : aI} {h : ae}

theorem aay {t:TypeId} (h:isString P t=true):P.underlying t=some .string:=by
 unfold isString at h
 split at h
 ·assumption
 ·cases h

theorem run_checkKey (b:Bool) {kt:TypeId} (hk:P.underlying kt=some .string) (k:ByteArray):(Instr.checkKey b 10000 kt (.string k)).run P w=.ok () w:=by
 rw [show (10000:Nat)=9999+1 from rfl,Instr.checkKey]
 simp [run_underlying hk]

theorem run_findKey {kt:TypeId} (hk:P.underlying kt=some .string) (k:ByteArray) (aH:List MapEntry) {r:Option (Nat×Value)} (hr:Instr.findNow .string (.string k) aH 0=some r):
  (Instr.findKey kt (.string k) aH).run P w=.ok r w:=by
 simp [Instr.findKey,run_underlying hk,hr]

theorem He (b:Bool) {kt:TypeId} {kd:IntKind} (hk:P.underlying kt=some (.int kd)) (k:Int):(Instr.checkKey b 10000 kt (.int kd k)).run P w=.ok () w:=by
 rw [show (10000:Nat)=9999+1 from rfl,Instr.checkKey]
 simp [run_underlying hk]

theorem Hf {kt:TypeId} {kd:IntKind} (hk:P.underlying kt=some (.int kd)) (k:Int) (aH:List MapEntry) {r:Option (Nat×Value)} (hr:Instr.findNow (.int kd) (.int kd k) aH 0=some r):
  (Instr.findKey kt (.int kd k) aH).run P w=.ok r w:=by
 simp [Instr.findKey,run_underlying hk,hr]

theorem aU.aH (H:aU P ρ h w) {i:Nat} {r:RI} {es:List (ByteArray×Value)} (hi:ρ i=some r) (he:h[i]?=some (.smap es)):
  ∃aH clock,w.heap[r.bm]?=some (.map aH clock)∧km ρ es aH.toList:=by
 obtain ⟨o,ho,hr⟩:=H.obj i r hi
 rw [he] at ho
 cases ho
 obtain ⟨aH,clock,h1,h2,h3⟩:=hr
 exact ⟨aH,clock,h1,km.of (by simpa using h2) (by simpa using h3)⟩

theorem aU.Yg (H:aU P ρ h w) {i:Nat} {r:RI} {kd:IntKind} {es:List (Int×Value)} (hi:ρ i=some r) (he:h[i]?=some (.jm kd es)):
  ∃aH clock,w.heap[r.bm]?=some (.map aH clock)∧kn kd ρ es aH.toList:=by
 obtain ⟨o,ho,hr⟩:=H.obj i r hi
 rw [he] at ho
 cases ho
 obtain ⟨aH,clock,h1,h2,h3⟩:=hr
 exact ⟨aH,clock,h1,kn.of (by simpa using h2) (by simpa using h3)⟩

theorem run_getObj_map {b:Nat} {aH:Array MapEntry} {clock:Nat} (hb:w.heap[b]?=some (.map aH clock)):(getObj b).run P w=.ok (.map aH clock) w:=by
 simp [getObj,Sem.run,hb]

theorem ah4 {t:TypeId} {z:Value} (hz:zT P t=some z):(∀w,(zeroValue t).run P w=.ok z w)∧j6 z=true:=by
 unfold zT at hz
 split at hz
 ·rename_i i hi
  split at hz
  ·rename_i z' pa
   split at hz
   ·rename_i hc
    simp at hz;subst hz
    simp [xY] at hc
    exact ⟨fun w=>xj w hi pa,hc.1⟩
   ·cases hz
  ·cases hz
 ·cases hz

theorem ayG (H:aU P ρ h w) {t kt et:TypeId} {ok:Bool} {z m m' k k' v:Value} (ht:P.underlying t=some (.map kt et)) (hk:isString P kt=true) (hz:zT P et=some z)
  (hi:FF ok z h m k=some v) (hm:av ρ m m') (jB:av ρ k k'):∃v',(Instr.lookup t m' k' ok).run P w=.ok v' w∧av ρ v v':=by
 unfold FF at hi
 split at hi
 ·rename_i i key
  rw [jB.sY]
  cases hm with
  | map hr=>
   rename_i r
   split at hi
   ·rename_i es he
    obtain ⟨aH,clock,hb,vW⟩:=H.aH hr he
    obtain ⟨np,lU⟩:=ah4 hz
    have j9:=aay hk
    rcases aq9 vW key 0 with ⟨e1,e2⟩ | ⟨u,u',j,e1,e2,e3,_⟩
    ·rw [e1] at hi
     simp at hi
     have fz:(Instr.lookup t (.map (some r.bm)) (.string key) ok).run P w=.ok (if ok then .tuple #[z,.bool false] else z) w:=by
      simp [Instr.lookup,run_underlying ht,run_getObj_map hb,run_checkKey _ j9,run_findKey j9 key _ e2,np]
     refine ⟨_,fz,?_⟩
     subst hi
     cases ok
     ·exact j6.rel lU
     ·exact av.pv (.cons (j6.rel lU) (.cons (.bool _) .nil))
    ·rw [e1] at hi
     simp at hi
     have fz:(Instr.lookup t (.map (some r.bm)) (.string key) ok).run P w=.ok (if ok then .tuple #[u',.bool true] else u') w:=by
      simp [Instr.lookup,run_underlying ht,run_getObj_map hb,run_checkKey _ j9,run_findKey j9 key _ e2]
     refine ⟨_,fz,?_⟩
     subst hi
     cases ok
     ·exact e3
     ·exact av.pv (.cons e3 (.cons (.bool _) .nil))
   ·cases hi
 ·cases hi

theorem aau {t:TypeId} {kd:IntKind} (h:wL P t=some kd):P.underlying t=some (.int kd):=by
 unfold wL at h
 split at h
 ·simp at h;subst h;assumption
 ·cases h

theorem ayI (H:aU P ρ h w) {t kt et:TypeId} {kd:IntKind} {ok:Bool} {z m m' k k' v:Value} (ht:P.underlying t=some (.map kt et)) (hk:wL P kt=some kd) (hz:zT P et=some z)
  (hi:FH kd ok z h m k=some v) (hm:av ρ m m') (jB:av ρ k k'):∃v',(Instr.lookup t m' k' ok).run P w=.ok v' w∧av ρ v v':=by
 unfold FH at hi
 split at hi
 ·rename_i i yU key
  rw [jB.kh]
  cases hm with
  | map hr=>
   rename_i r
   split at hi
   ·rename_i kX es he
    split at hi
    ·rename_i mH
     obtain ⟨rfl,rfl⟩:=mH
     obtain ⟨aH,clock,hb,vW⟩:=H.Yg hr he
     obtain ⟨np,lU⟩:=ah4 hz
     have j9:=aau hk
     rcases ara vW key 0 with ⟨e1,e2⟩ | ⟨u,u',j,e1,e2,e3,_⟩
     ·rw [e1] at hi
      simp at hi
      have fz:(Instr.lookup t (.map (some r.bm)) (.int kX key) ok).run P w=.ok (if ok then .tuple #[z,.bool false] else z) w:=by
       simp [Instr.lookup,run_underlying ht,run_getObj_map hb,He _ j9,Hf j9 key _ e2,np]
      refine ⟨_,fz,?_⟩
      subst hi
      cases ok
      ·exact j6.rel lU
      ·exact av.pv (.cons (j6.rel lU) (.cons (.bool _) .nil))
     ·rw [e1] at hi
      simp at hi
      have fz:(Instr.lookup t (.map (some r.bm)) (.int kX key) ok).run P w=.ok (if ok then .tuple #[u',.bool true] else u') w:=by
       simp [Instr.lookup,run_underlying ht,run_getObj_map hb,He _ j9,Hf j9 key _ e2]
      refine ⟨_,fz,?_⟩
      subst hi
      cases ok
      ·exact e3
      ·exact av.pv (.cons e3 (.cons (.bool _) .nil))
    ·cases hi
   ·cases hi
 ·cases hi

theorem at9 {o:Oper} {lo:mT} {g g':Operand→Value} (hc:rO P o.op=some lo) (aA:o.op.operands.all hY=true) (H:aU P ρ h w)
  (hg:∀x,hY x=true→av ρ (g x) (g' x)) {v:Value} (hi:eJ lo g h=some v):∃v',(execOp g' o).run P w=.ok (.value v') w∧av ρ v v':=by
 cases ho:o.op with
 | load t a=>
  rw [ho] at hc aA
  simp [Op.operands] at aA
  simp only [rO] at hc
  split at hc
  ·rename_i d ht
   split at hc
   ·rename_i hk
    simp at hc;subst hc
    simp only [Bool.and_eq_true] at hk
    obtain ⟨v',h1,h2⟩:=ag7 H ht hk.1 hi (hg a aA)
    exact ⟨v',by simp [execOp,ho,h1],h2⟩
   ·cases hc
  ·cases hc
 | entry it=>
  rw [ho] at hc aA
  simp [Op.operands] at aA
  simp [rO] at hc;subst hc
  obtain ⟨v',h1,h2⟩:=ayz H hi (hg it aA)
  exact ⟨v',by simp [execOp,ho,h1],h2⟩
 | convert s d x=>
  rw [ho] at hc aA
  simp [Op.operands] at aA
  simp only [rO] at hc
  split at hc
  ·rename_i e hs hd
   split at hc
   ·rename_i he
    simp at hc;subst hc
    have hx:=hg x aA
    obtain ⟨h1,h2⟩:=ays H hi hx
    refine ⟨v,?_,h2⟩
    have:(convert s d (g' x)).run P w=.ok v w:=by
     simp only [eJ,pb,Option.bind_eq_some_iff] at hi
     obtain ⟨cs,tQ,_⟩:=hi
     rcases Hu H tQ hx with ⟨e1,_⟩ | ⟨b,o',n,c',e1,_⟩
     ·rw [e1] at h1⊢;rw [run_convert_bytes_string w s d e _ _ _ hs he hd];exact h1
     ·rw [e1] at h1⊢;rw [run_convert_bytes_string w s d e _ _ _ hs he hd];exact h1
    simp [execOp,ho,this]
   ·cases hc
  ·cases hc
 | lookup t m k ok=>
  rw [ho] at hc aA
  simp [Op.operands] at aA
  simp only [rO] at hc
  split at hc
  ·rename_i g ji
   split at hc
   ·rename_i kt et ht
    simp only [Option.map_eq_some_iff] at hc
    obtain ⟨z,hz,rfl⟩:=hc
    obtain ⟨v',h1,h2⟩:=ayH H ji ht hz hi (hg m aA.1) (hg k aA.2)
    exact ⟨v',by simp [execOp,ho,h1],h2⟩
   ·cases hc
  split at hc
  ·rename_i kt et ht
   split at hc
   ·rename_i hk
    simp only [Option.map_eq_some_iff] at hc
    obtain ⟨z,hz,rfl⟩:=hc
    obtain ⟨v',h1,h2⟩:=ayG H ht hk hz hi (hg m aA.1) (hg k aA.2)
    exact ⟨v',by simp [execOp,ho,h1],h2⟩
   ·simp only [Option.bind_eq_some_iff,Option.map_eq_some_iff] at hc
    obtain ⟨kd,mH,z,hz,rfl⟩:=hc
    obtain ⟨v',h1,h2⟩:=ayI H ht mH hz hi (hg m aA.1) (hg k aA.2)
    exact ⟨v',by simp [execOp,ho,h1],h2⟩
  ·cases hc
 | _=>rw [ho] at hc;simp [rO] at hc

end
end Go.Sim


namespace Go.Sim

theorem Hm {xs:List Value} {o:Nat} {vs:List Value} (h:o+vs.length≤xs.length) (j:Nat):
  (setAt xs o vs)[j]?=if j<o then xs[j]? else if j<o+vs.length then vs[j-o]? else xs[j]?:=by
 have hl:(xs.take o).length=o:=by simp;omega
 unfold setAt
 by_cases h1:j<o
 ·rw [if_pos h1,List.append_assoc,List.getElem?_append_left (by omega),List.getElem?_take,if_pos h1]
 ·rw [if_neg h1]
  by_cases h2:j<o+vs.length
  ·rw [if_pos h2,List.append_assoc,List.getElem?_append_right (by omega),hl,List.getElem?_append_left (by omega)]
  ·rw [if_neg h2,List.getElem?_append_right (by simp;omega),List.getElem?_drop]
   congr 1
   simp
   omega

theorem QK {xs:List Value} {o:Nat} {vs:List Value} (h:o+vs.length≤xs.length):(setAt xs o vs).length=xs.length:=by
 unfold setAt
 simp
 omega

theorem fm.le {ρ:aI} {c:Array Value} {xs:List Value} (h:fm ρ c 0 xs):xs.length≤c.size:=by
 rcases Nat.eq_zero_or_pos xs.length with hz | hz
 ·omega
 ·have hx:xs[xs.length-1]?=some (xs[xs.length-1]'(by omega)):=List.getElem?_eq_getElem _
  obtain ⟨_,y,hy,_⟩:=h _ _ hx
  have:=(Array.getElem?_eq_some_iff.1 hy).1
  omega

theorem fm.put {ρ:aI} {c:Array Value} {xs:List Value} {o:Nat} {vs iB:List Value} (h:fm ρ c 0 xs) (hv:bn ρ vs iB) (h1:∀x∈vs,fw x=true) (hl:o+vs.length≤xs.length):
  fm ρ (setAt c.toList o iB).toArray 0 (setAt xs o vs):=by
 intro j x hj
 have fa:=h.le
 have hlen:=hv.length
 rw [Hm hl] at hj
 have e:(setAt c.toList o iB).toArray[0+j]?=if j<o then c.toList[j]? else if j<o+iB.length then iB[j-o]? else c.toList[j]?:=by
  rw [Nat.zero_add,List.getElem?_toArray,Hm (by simp;omega)]
 rw [e]
 by_cases ym:j<o
 ·rw [if_pos ym] at hj⊢
  obtain ⟨q1,y,q2,q3⟩:=h j x hj
  exact ⟨q1,y,by simpa using q2,q3⟩
 ·rw [if_neg ym] at hj⊢
  by_cases h2:j<o+vs.length
  ·rw [if_pos h2] at hj
   rw [if_pos (by omega)]
   obtain ⟨y,q2,q3⟩:=hv.get hj
   exact ⟨h1 x (List.mem_of_getElem? hj),y,q2,q3⟩
  ·rw [if_neg h2] at hj
   rw [if_neg (by omega)]
   obtain ⟨q1,y,q2,q3⟩:=h j x hj
   exact ⟨q1,y,by simpa using q2,q3⟩

theorem Yu (z:List Value) (n:Nat):∀(j:Nat),j<n*z.length→(List.replicate n z).flatten[j]?=z[j%z.length]?:=by
 induction n with
 | zero=>intro j hj;simp at hj
 | succ n ih=>
  intro j hj
  rw [List.replicate_succ,List.flatten_cons]
  by_cases h:j<z.length
  ·rw [List.getElem?_append_left h,Nat.mod_eq_of_lt h]
  ·have e:j%z.length=(j-z.length)%z.length:=by rw [Nat.mod_eq_sub_mod (by omega)]
   rw [List.getElem?_append_right (by omega),ih _ (by rw [Nat.add_mul] at hj;omega),e]

theorem Rk (z:List Value) (n:Nat):(gH z n).length=n*z.length:=by
 induction n with
 | zero=>simp [gH]
 | succ n ih=>simp only [gH,List.replicate_succ,List.flatten_cons,List.length_append] at ih⊢;rw [ih,Nat.add_mul];omega

theorem ah5 {z:List Value} {n:Nat} {p:Value→Prop} (h:∀x∈z,p x):∀x∈gH z n,p x:=by
 intro x hx
 simp only [gH,List.mem_flatten,List.mem_replicate] at hx
 obtain ⟨l,⟨_,rfl⟩,hm⟩:=hx
 exact h x hm

theorem aaV (z:Array Value) (m j:Nat) (hj:j<m) (hz:0<z.size):(madeCells z m)[j]?=z[j%z.size]?:=by
 have aB:j%z.size<z.size:=Nat.mod_lt _ hz
 simp [madeCells,hj,aB]

theorem aub (z:Value) (n k:Nat) (hk:(cZ z).length=k):((Array.range (n*k)).map (z.cells[·%z.cells.size]!)).toList=gH (cZ z) n:=by
 have hs:z.cells.size=k:=by rw [←hk];simp [cZ]
 apply List.ext_getElem?
 intro j
 by_cases hj:j<n*k
 ·have hz:0<z.cells.size:=by
   rcases Nat.eq_zero_or_pos k with h | h
   ·subst h;simp at hj
   ·omega
  have:=aaV z.cells (n*k) j hj hz
  simp only [madeCells] at this
  rw [Array.getElem?_toList,this,gH,Yu _ _ _ (by rw [hk];exact hj)]
  simp [cZ]
 ·rw [List.getElem?_eq_none (by simp;omega),List.getElem?_eq_none (by rw [Rk,hk];omega)]

section
variable {P : Program} {w : World} {ρ : aI} {h : ae}

def iT (P:Program) (ρ:aI) (h:ae) (w:World) (v:Value) (h':ae) (s:Result Next):Prop:=
 ∃nx w' ar v',s=.ok nx w'∧(nx=.value v'∨(nx=.skip∧v'=undef))∧av ar v v'∧aU P ar h' w'∧Tr ρ h w ar h' w'

theorem aU.arr (H:aU P ρ h w) {i:Nat} {r:RI} {e:TypeId} {xs:List Value} (hi:ρ i=some r) (hx:h[i]?=some (.arr e xs)):
  r.elem=e∧r.sh=0∧∃c,w.heap[r.bm]?=some (.cells c e (0,0))∧c.size=r.size∧fm ρ c 0 xs:=by
 obtain ⟨o,ho,hr⟩:=H.obj i r hi
 rw [hx] at ho
 cases ho
 exact hr

theorem ayS (H:aU P ρ h w) {t:TypeId} {a a' v v':Value} {h':ae} (hk:gw P t=true) (hi:uk (P.cellsOf t) h a v=some h') (ha:av ρ a a') (hv:av ρ v v'):
  ∃w',(Instr.storeAt t a' v').run P w=.ok () w'∧aU P ρ h' w'∧Tr ρ h w ρ h' w':=by
 unfold uk at hi
 split at hi
 ·rename_i i o
  obtain ⟨r,hr,rfl⟩:=ha.B7
  split at hi
  ·rename_i e xs hx
   split at hi
   ·rename_i hc
    obtain ⟨lT,hl,hle⟩:=hc
    simp at hi;subst hi
    obtain ⟨h1,h2,c,h3,h4,h5⟩:=H.arr hr hx
    have yO:=hv.cells lT
    have kU:(cZ v').length=P.cellsOf t:=by rw [←yO.length];exact hl
    have dD:=run_storeCells_at P r.bm o e (cZ v') 0 c w h3 (by have:=h5.le;simp;omega) (yO.BQ (hv.Ew lT))
    have heq:(c.toList.take (o+0)++cZ v'++c.toList.drop (o+0+(cZ v').length)).toArray=(setAt c.toList o (cZ v')).toArray:=by simp [setAt]
    rw [heq] at dD
    have gT:ca h i:=.inl ⟨e,xs,hx⟩
    obtain ⟨q1,q2⟩:=H.set (o:=.arr e (setAt xs o (cZ v))) hr gT (ko.row h3 (setAt c.toList o (cZ v')).toArray)
     ⟨h1,h2,_,(ko.row h3 _).here,by simp [QK (show o+(cZ v').length≤c.toList.length by have:=h5.le;simp;omega),h4],h5.put yO (hv.Ew lT) (by omega)⟩
    refine ⟨_,?_,q1,q2⟩
    have jC:v'.cells.size=P.cellsOf t:=by rw [←kU];simp [cZ]
    have asD:(storeCells ⟨r.bm,r.sh+o,none⟩ v'.cells.toList).run P w=.ok () (w.setRow r.bm (setAt c.toList o (cZ v')).toArray):=by
     rw [h2,Nat.zero_add]
     exact dD
    simp [Instr.storeAt,Instr.sureAddr,storeVar,oz w hk,jC,asD]
   ·cases hi
  ·cases hi
 ·cases hi

theorem BM (H:aU P ρ h w) {w':World} {e:TypeId} {c:Array Value} {xs:List Value} (nb:iI w (.cells c e) w') (hc:fm ρ c 0 xs):
  aU P (ρ.add h.length ⟨w.heap.size,0,e,P.cellsOf e,c.size⟩) (h++[.arr e xs]) w'∧Tr ρ h w (ρ.add h.length ⟨w.heap.size,0,e,P.cellsOf e,c.size⟩) (h++[.arr e xs]) w':=
 H.new nb rfl rfl rfl (fun _=>.inl rfl) ⟨rfl,rfl,c,nb.new,rfl,hc.mono (aI.sM H.none)⟩

theorem xS (ρ:aI) (i:Nat) (r:RI):ρ.add i r i=some r:=by simp [aI.add]

theorem abi (ρ:aI) (h:ae) (r:RI) (hs:r.sh=0):av (ρ.add h.length r) (zf h) (.pointer (some ⟨r.bm,0,none⟩)):=by
 have:=av.ptr (ρ:=ρ.add h.length r) (i:=h.length) (o:=0) (xS _ _ _)
 rw [hs] at this
 exact this

theorem Ce (ρ:aI) (i:Nat) (r:RI) (hs:r.sh=0) {n c':Nat} (hn:n≤c') (hc:c'≤maxLen) (hb:c'*r.aV≤r.size):av (ρ.add i r) (sl r.elem i 0 n) (.slice (some ⟨r.bm,0,none⟩) n c'):=
 av.slice (xS _ _ _) (.inl (by omega)) hn hc (by omega)

theorem ayu (H:aU P ρ h w) {e:TypeId} {x x' v:Value} {h':ae} (hi:bc e h x=some (v,h')) (hx:av ρ x x'):
  ∃w' ar v',(Instr.box e x').run P w=.ok v' w'∧av ar v v'∧aU P ar h' w'∧Tr ρ h w ar h' w':=by
 unfold bc at hi
 split at hi
 ·rename_i lT
  simp at hi
  obtain ⟨rfl,rfl⟩:=hi
  have hc:fm ρ x'.cells 0 (cZ x):=fm.of (hx.cells lT) (hx.Ew lT)
  obtain ⟨q1,q2⟩:=BM H (iI.alloc w (.cells x'.cells e)) hc
  exact ⟨_,_,_,by simp [Instr.box,newVar,newRow],abi _ _ _ rfl,q1,q2⟩
 ·cases hi

theorem ayq (H:aU P ρ h w) {e:TypeId} {zs:List Value} (hz:zeroOf P e=some zs):
  ∃w' ar v',(Instr.alloc e true (.tuple #[])).run P w=.ok v' w'∧av ar (zf h) v'∧aU P ar (h++[.arr e zs]) w'∧Tr ρ h w ar (h++[.arr e zs]) w':=by
 obtain ⟨i,z,hi,oa,rfl,lT,fa,hlen⟩:=zU hz
 have hc:fm ρ z.cells 0 (cZ z):=fm.of (bn.closed fun x hx=>(fa x hx).1) (fun x hx=>(fa x hx).2)
 obtain ⟨q1,q2⟩:=BM H (iI.alloc w (.cells z.cells e)) hc
 exact ⟨_,_,_,by simp [Instr.alloc,xj w hi oa,newVar,newRow],abi _ _ _ rfl,q1,q2⟩

theorem Lu {t:TypeId} {i:TypeInfo} (hi:P.info? t=some i):P.cellsOf t=i.size:=by simp [Program.cellsOf,hi]
theorem Um {t:TypeId} {i:TypeInfo} (hi:P.info? t=some i):P.bytesOf t=i.bytes:=by simp [Program.bytesOf,hi]

theorem ayN (H:aU P ρ h w) {t e:TypeId} {n:Nat} {zs:List Value} {ps:List (Nat×Nat×Value)} {qs:Array (Nat×Value)} {v:Value} {h':ae} (ht:P.underlying t=some (.slice e)) (hz:zeroOf P e=some zs)
  (hn:n*P.cellsOf e≤16777216) (br:P.cellsOf e≠0) (hp:rL ρ (fun i=>some (i*P.cellsOf e,P.cellsOf e)) ps qs.toList) (hi:cT e n zs h ps=some (v,h')):
  ∃w' ar v',(Instr.buildSlice t n qs).run P w=.ok v' w'∧av ar v v'∧aU P ar h' w'∧Tr ρ h w ar h' w':=by
 obtain ⟨i,z,lQ,oa,rfl,lT,fa,hlen⟩:=zU hz
 have hk:gw P e=true:=by simp [gw,lQ]
 have rY:=Lu lQ
 simp only [cT,Option.map_eq_some_iff,Prod.mk.injEq] at hi
 obtain ⟨cs,hf,rfl,rfl⟩:=hi
 obtain ⟨zero,hzero,hzl⟩:∃zero:Array Value,(if n*P.cellsOf e=0 then (Pure.pure #[]:Sem (Array Value)) else do pure (←zeroValue e).cells).run P w=.ok zero w∧
   ((Array.range (n*P.cellsOf e)).map (zero[·%zero.size]!)).toList=gH (cZ z) n:=by
  by_cases h0:n*P.cellsOf e=0
  ·refine ⟨#[],by simp [h0],?_⟩
   have lR:n=0:=by
    rcases Nat.mul_eq_zero.1 h0 with h | h
    ·exact h
    ·exact absurd h br
   subst lR
   simp [gH,Array.range_zero']
  ·exact ⟨z.cells,by simp [h0,xj w lQ oa],by rw [rY];exact aub z n i.size hlen⟩
 have arI:bn ρ (gH (cZ z) n) (gH (cZ z) n):=bn.closed (ah5 fun x hx=>(fa x hx).1)
 obtain ⟨hC,yB,hr,h1,nQ⟩:=L7 (ys:=(Array.range (n*P.cellsOf e)).map (zero[·%zero.size]!)) hp hf (by rw [hzl];exact arI) (ah5 fun x hx=>(fa x hx).2)
 obtain ⟨q1,q2⟩:=BM H (iI.alloc w (.cells hC e)) (fm.of hr h1)
 have jC:hC.size=n*P.cellsOf e:=by
  have:=hr.length
  rw [nQ,Rk,hlen,←rY] at this
  simpa using this.symm
 have Bh:n≤maxLen:=by
  have h1:1≤P.cellsOf e:=by omega
  have:=Nat.mul_le_mul_left n h1
  unfold maxLen
  omega
 refine ⟨_,_,.slice (some ⟨w.heap.size,0,none⟩) n n,?_,Ce ρ h.length ⟨w.heap.size,0,e,P.cellsOf e,hC.size⟩ rfl (Nat.le_refl _) Bh (by simp [jC]),q1,q2⟩
 unfold Instr.buildSlice
 simp only [Sem.run_bind,run_underlying ht,Result.andThen_ok,oz w hk]
 have h24:¬(n*P.cellsOf e>2^24):=by rw [show (2^24:Nat)=16777216 from rfl];omega
 rw [if_neg h24]
 by_cases h0:n*P.cellsOf e=0
 ·rw [if_pos h0] at hzero⊢
  simp only [Sem.run_pure,Result.ok.injEq,and_true] at hzero
  subst hzero
  simp only [Sem.run_bind,Sem.run_pure,Result.andThen_ok,yB]
  simp [newRow]
 ·rw [if_neg h0] at hzero⊢
  simp only [Sem.run_bind,Sem.run_pure] at hzero⊢
  rw [xj w lQ oa] at hzero⊢
  simp only [Result.andThen_ok,Result.ok.injEq,and_true] at hzero⊢
  subst hzero
  rw [yB]
  simp [newRow]

end
end Go.Sim


namespace Go.Sim

section
variable {P : Program} {w : World} {ρ : aI} {h : ae}

theorem ayJ (H:aU P ρ h w) {t e:TypeId} {zs:List Value} {l c l' c' v:Value} {h':ae} (ht:P.underlying t=some (.slice e)) (hz:zeroOf P e=some zs)
  (hi:kD e (P.bytesOf e) zs h l c=some (v,h')) (hl:av ρ l l') (hc:av ρ c c'):
  ∃w' ar v',(Instr.makeSlice t l' c').run P w=.ok v' w'∧av ar v v'∧aU P ar h' w'∧Tr ρ h w ar h' w':=by
 obtain ⟨i,z,lQ,oa,rfl,lT,fa,hlen⟩:=zU hz
 unfold kD at hi
 split at hi
 ·rename_i k1 l k2 c
  rw [hl.kh,hc.kh]
  split at hi
  ·rename_i hb
   obtain ⟨h0,h1,h2,h3⟩:=hb
   simp at hi
   obtain ⟨rfl,rfl⟩:=hi
   rw [Um lQ] at h2
   have fz:=run_make (P:=P) w t e i z ht lQ oa k1 k2 l c h0 h1 h2 h3
   have vQ:fm ρ (madeCells z.cells (c.toNat*i.size)) 0 (gH (cZ z) l.toNat):=by
    intro j x hj
    have pZ:j<l.toNat*i.size:=by
     have:=(List.getElem?_eq_some_iff.1 hj).1
     rwa [Rk,hlen] at this
    have NB:z.cells.size=i.size:=by rw [←hlen];simp [cZ]
    have gU:0<z.cells.size:=by
     rcases Nat.eq_zero_or_pos i.size with q | q
     ·rw [q] at pZ;simp at pZ
     ·omega
    have hmul:l.toNat*i.size≤c.toNat*i.size:=Nat.mul_le_mul_right _ (by omega)
    rw [gH,Yu _ _ _ (by rw [hlen];exact pZ)] at hj
    have hx:x∈cZ z:=List.mem_of_getElem? hj
    refine ⟨(fa x hx).2,x,?_,j6.rel (fa x hx).1⟩
    rw [Nat.zero_add,aaV _ _ _ (by omega) gU]
    simpa [cZ] using hj
   obtain ⟨q1,q2⟩:=BM H (iI.alloc w (.cells (madeCells z.cells (c.toNat*i.size)) e)) vQ
   refine ⟨_,_,_,fz,?_,q1,q2⟩
   exact Ce ρ h.length ⟨w.heap.size,0,e,P.cellsOf e,(madeCells z.cells (c.toNat*i.size)).size⟩ rfl (by omega) (by unfold maxLen;omega) (by simp [size_madeCells,Lu lQ])
  ·cases hi
 ·cases hi

theorem ag3 {t e:TypeId} {i:TypeInfo} (ht:P.underlying t=some (.slice e)) (hi:P.info? e=some i) (type:TypeId) (b:Option Addr) (n c:Nat) (x:Value) (hn:n≤c)
  (hx:x=.slice none 0 0∨∃a c2,x=.slice (some a) 0 c2):(Builtin.append_ #[t,t] type #[.slice b n c,x]).run P w=.ok (.slice b n c) w:=by
 rcases hx with rfl | ⟨a,c2,rfl⟩
 ·cases b <;> simp [Builtin.append_,run_underlying ht,sizeOf,typeInfo,hi,Builtin.lenOf,hn,Builtin.firstCells,storeCells]
 ·cases b <;> simp [Builtin.append_,run_underlying ht,sizeOf,typeInfo,hi,Builtin.lenOf,hn,Builtin.firstCells,loadCells,loadCellsFrom,storeCells]

theorem Lv {ρ:aI} {c:Array Value} {xs ys zs:List Value} (hx:∀(j:Nat) (x:Value),xs[j]?=some x→fw x=true∧∃y,c[j]?=some y∧av ρ x y) (hz:bn ρ zs ys) (h1:∀x∈zs,fw x=true)
  (hc:∀(j:Nat) (y:Value),ys[j]?=some y→c[xs.length+j]?=some y):fm ρ c 0 (xs++zs):=by
 intro j x hj
 by_cases aB:j<xs.length
 ·rw [List.getElem?_append_left aB] at hj
  simpa using hx j x hj
 ·rw [List.getElem?_append_right (by omega)] at hj
  obtain ⟨y,hy,hr⟩:=hz.get hj
  refine ⟨h1 x (List.mem_of_getElem? hj),y,?_,hr⟩
  have:=hc _ y hy
  rw [←this]
  congr 1
  omega

theorem ayr (H:aU P ρ h w) {t e:TypeId} {zs:List Value} {type:TypeId} {s x s' x' v:Value} {h':ae} (ht:P.underlying t=some (.slice e)) (hz:zeroOf P e=some zs)
  (hi:dA e (P.cellsOf e) (P.bytesOf e) h s x=some (v,h')) (hs:av ρ s s') (hx:av ρ x x'):
  ∃w' ar v',(Builtin.append_ #[t,t] type #[s',x']).run P w=.ok v' w'∧av ar v v'∧aU P ar h' w'∧Tr ρ h w ar h' w':=by
 obtain ⟨i,z,lQ,oa,rfl,lT,fa,hlen⟩:=zU hz
 have rY:=Lu lQ
 have Y1:=Um lQ
 have NB:z.cells.size=i.size:=by rw [←hlen];simp [cZ]
 unfold dA at hi
 split at hi
 ·rename_i news m hn hm
  have Z6:=Hu H hn hx
  have hzero:m=0→(x'=.slice none 0 0∨∃a c2,x'=.slice (some a) 0 c2):=by
   intro nR
   rcases Z6 with ⟨e1,_⟩ | ⟨b,o,n2,c2,e1,e2,_⟩
   ·exact .inl e1
   ·rw [hm] at e2;cases e2;subst nR;exact .inr ⟨_,_,e1⟩
  have ZR:0<m→∃b o c2,x'=.slice (some ⟨b,o,none⟩) m c2∧news.length=m*i.size∧(∀v∈news,fw v=true)∧
    ∃ys,bn ρ news ys∧ys.length=m*i.size∧∀j v,ys[j]?=some v→w.cell? ((⟨b,o,none⟩:Addr).add j)=some v:=by
   intro nR
   rcases Z6 with ⟨e1,e2⟩ | ⟨b,o,n2,c2,e1,e2,e3,e4,ys,e5,e6⟩
   ·subst e1
    cases hx
    ·simp [nu] at hm
     omega
    ·simp [nu] at hm
   ·rw [hm] at e2;cases e2
    refine ⟨b,o,c2,e1,by rw [e3,rY],e4,ys,e5,by rw [←e5.length,e3,rY],?_⟩
    intro j v hj
    rw [Addr.add_lit]
    exact e6 j v hj
  split at hi
  ·cases hs
   split at hi
   ·rename_i nR
    simp at hi
    obtain ⟨rfl,rfl⟩:=hi
    exact ⟨w,ρ,_,ag3 ht lQ type none 0 0 x' (Nat.le_refl _) (hzero nR),.om,H,Tr.refl H⟩
   ·rename_i nR
    split at hi
    ·rename_i hb
     obtain ⟨jN,A1⟩:=hb
     simp at hi
     obtain ⟨rfl,rfl⟩:=hi
     obtain ⟨b,o,c2,rfl,f1,f2,ys,f3,f4,f5⟩:=ZR (by omega)
     have fz:=run_append_nil (P:=P) w t type e i z ht lQ oa ⟨b,o,none⟩ m c2 ys f4 f5 (by omega) (by unfold maxLen at A1;omega) (by rw [←Y1];omega)
     have cH:=grownCap_ge w m 0 e
     have vQ:fm ρ (ys.toArray++Builtin.zeroCells z.cells (grownCap w m 0 e-m)) 0 news:=by
      have:=Lv (ρ:=ρ) (c:=ys.toArray++Builtin.zeroCells z.cells (grownCap w m 0 e-m)) (xs:=[]) (ys:=ys) (zs:=news) (by simp) f3 f2 (by
       intro j y hj
       have aB:=(List.getElem?_eq_some_iff.1 hj).1
       rw [Array.getElem?_append_left (by simpa using aB)]
       simpa using hj)
      simpa using this
     obtain ⟨q1,q2⟩:=BM H (iI.drew w (.cells (ys.toArray++Builtin.zeroCells z.cells (grownCap w m 0 e-m)) e)) vQ
     refine ⟨_,_,_,fz,?_,q1,q2⟩
     refine Ce ρ h.length ⟨w.heap.size,0,e,P.cellsOf e,(ys.toArray++Builtin.zeroCells z.cells (grownCap w m 0 e-m)).size⟩ rfl cH (grownCap_le_maxLen w m 0 e A1) ?_
     simp only [Array.size_append,List.size_toArray,size_zeroCells,f4,NB,rY]
     rw [←Nat.add_mul]
     exact Nat.mul_le_mul_right _ (by omega)
    ·cases hi
  ·rename_i ii e' n cc
   split at hi
   ·rename_i Yc xs nm
    split at hi
    ·rename_i hb
     obtain ⟨rfl,rfl,hb3,hb4,YX⟩:=hb
     have Nn:=hs
     cases hs with
     | slice hr ho hnc hcm yr=>
      rename_i o' c' r
      obtain ⟨g1,g2,c,g3,g4,g5⟩:=H.arr hr nm
      obtain rfl:o'=0:=by
       rcases ho with ho | ⟨_,q,_⟩
       ·omega
       ·omega
      have iX:=H.aV _ _ hr
      split at hi
      ·rename_i nR
       simp at hi
       obtain ⟨rfl,rfl⟩:=hi
       exact ⟨w,ρ,_,ag3 ht lQ type _ n c' x' hnc (hzero nR),Nn,H,Tr.refl H⟩
      ·rename_i nR
       simp at hi
       obtain ⟨rfl,rfl⟩:=hi
       obtain ⟨b,o,c2,rfl,f1,f2,ys,f3,f4,f5⟩:=ZR (by omega)
       rw [rY] at hb3
       have yA:r.aV=i.size:=by rw [iX,rY]
       have gT:ca h ii:=.inl ⟨_,xs,nm⟩
       by_cases Nk:n+m≤c'
       ·have Fg:n*i.size+ys.length≤c.size:=by
         rw [f4,g4,←Nat.add_mul]
         have:=Nat.mul_le_mul_right i.size Nk
         rw [yA] at yr
         omega
        have fz:=run_append_room (P:=P) w t type r.elem i ht lQ r.bm n c' c g3 ⟨b,o,none⟩ m c2 ys f4 f5 (f3.BQ f2) Nk Fg
        have tQ:(c.toList.take (n*i.size)++ys++c.toList.drop (n*i.size+ys.length)).toArray=(setAt c.toList (n*i.size) ys).toArray:=rfl
        rw [tQ] at fz
        have jC:(setAt c.toList (n*i.size) ys).toArray.size=c.size:=by simp [QK (show n*i.size+ys.length≤c.toList.length by simpa using Fg)]
        have vQ:fm ρ (setAt c.toList (n*i.size) ys).toArray 0 (xs++news):=by
         refine Lv (ys:=ys) ?_ f3 f2 ?_
         ·intro j x hj
          have aB:=(List.getElem?_eq_some_iff.1 hj).1
          obtain ⟨k1,y,k2,k3⟩:=g5 j x hj
          refine ⟨k1,y,?_,k3⟩
          rw [List.getElem?_toArray,Hm (by simpa using Fg),if_pos (by omega)]
          simpa using k2
         ·intro j y hj
          have aB:=(List.getElem?_eq_some_iff.1 hj).1
          rw [List.getElem?_toArray,Hm (by simpa using Fg),if_neg (by omega),if_pos (by omega)]
          rw [←hj]
          congr 1
          omega
        have sb:=ko.row g3 (setAt c.toList (n*i.size) ys).toArray
        obtain ⟨q1,q2⟩:=H.move (o:=.arr r.elem (xs++news)) hr gT sb ⟨rfl,g2,_,sb.here,by rw [jC,g4],vQ.mono (aI.sM H.none)⟩
        refine ⟨_,_,_,fz,?_,q1,q2⟩
        exact Ce ρ h.length r g2 Nk hcm (by omega)
       ·obtain ⟨OC,o1,o2,o3,o4⟩:=g5.Q7 (o:=0) (n:=n*i.size) (by omega)
        have asI:(xs.drop 0).take (n*i.size)=xs:=by rw [List.drop_zero];exact List.take_of_length_le (by omega)
        rw [asI] at o1 o3
        have hold:∀j v,OC[j]?=some v→w.cell? ((⟨r.bm,0,none⟩:Addr).add j)=some v:=by
         intro j v hj
         rw [Addr.add_lit,Ev g3]
         simpa using o4 j v hj
        have Zc:=growslice_fits (need:=n+m) (old:=c') (bytes:=P.bytesOf r.elem) (by omega) hb4
        rw [Y1] at Zc
        have fz:=run_append_grow (P:=P) w t type r.elem i z ht lQ oa ⟨r.bm,0,none⟩ n c' OC o2 hold ⟨b,o,none⟩ m c2 ys f4 f5 (by omega) (by unfold maxLen at YX;omega) Zc
        have cH:=grownCap_ge w (n+m) c' r.elem
        generalize vO:OC.toArray++ys.toArray++Builtin.zeroCells z.cells (grownCap w (n+m) c' r.elem-(n+m))=cc at fz
        have arH:cc.size=n*i.size+m*i.size+(grownCap w (n+m) c' r.elem-(n+m))*i.size:=by
         rw [←vO];simp only [Array.size_append,List.size_toArray,size_zeroCells,o2,f4,NB]
        have vQ:fm ρ cc 0 (xs++news):=by
         refine Lv (ys:=ys) ?_ f3 f2 ?_
         ·intro j x hj
          have aB:=(List.getElem?_eq_some_iff.1 hj).1
          obtain ⟨y,k2,k3⟩:=o1.get hj
          refine ⟨o3 x (List.mem_of_getElem? hj),y,?_,k3⟩
          rw [←vO,Array.append_assoc,Array.getElem?_append_left (by simp;omega)]
          simpa using k2
         ·intro j y hj
          have aB:=(List.getElem?_eq_some_iff.1 hj).1
          rw [←vO,Array.append_assoc,Array.getElem?_append_right (by simp;omega),Array.getElem?_append_left (by simp;omega)]
          rw [←hj,List.getElem?_toArray]
          congr 1
          simp
          omega
        have nb:=iI.drew w (.cells cc r.elem)
        obtain ⟨q1,q2⟩:=H.new (h₀:=h.set ii .dead) (o:=.arr r.elem (xs++news)) (r:=⟨w.heap.size,0,r.elem,P.cellsOf r.elem,cc.size⟩) nb rfl rfl (by simp) (by
          intro j
          by_cases hj:j=ii
          ·subst hj;right;rw [List.getElem?_set_self (H.lt hr)]
          ·left;rw [List.getElem?_set_ne (Ne.symm hj)]) ⟨rfl,rfl,cc,nb.new,rfl,vQ.mono (aI.sM H.none)⟩
        refine ⟨_,_,_,fz,?_,q1,q2⟩
        refine Ce ρ h.length ⟨w.heap.size,0,r.elem,P.cellsOf r.elem,cc.size⟩ rfl cH (grownCap_le_maxLen w (n+m) c' r.elem YX) ?_
        simp only [arH,rY]
        rw [←Nat.add_mul,←Nat.add_mul]
        exact Nat.mul_le_mul_right _ (by omega)
    ·cases hi
   ·cases hi
  ·cases hi
 ·cases hi


theorem ayx (H:aU P ρ h w) {t e tt:TypeId} {type:TypeId} {d x d' x' v:Value} {h':ae} (ht:P.underlying t=some (.slice e)) (hz:(P.info? e).map (·.size)=some 1) (hi:NH h d x=some (v,h')) (hd:av ρ d d') (hx:av ρ x x'):
  ∃w',(Builtin.copy_ #[t,tt] type #[d',x']).run P w=.ok v w'∧av ρ v v∧aU P ρ h' w'∧Tr ρ h w ρ h' w':=by
 unfold NH at hi
 split at hi
 ·rename_i n m cs hn hm tQ
  have lO:∃p c,d'=.slice p n c:=by
   unfold nu at hn
   split at hn
   ·cases hd;cases hn;exact ⟨_,_,rfl⟩
   ·cases hd;cases hn;exact ⟨_,_,rfl⟩
   ·cases hn
  have fQ:∃p c,x'=.slice p m c:=by
   unfold nu at hm
   split at hm
   ·cases hx;cases hm;exact ⟨_,_,rfl⟩
   ·cases hx;cases hm;exact ⟨_,_,rfl⟩
   ·cases hm
  split at hi
  ·rename_i h0
   simp at hi
   obtain ⟨rfl,rfl⟩:=hi
   obtain ⟨p,c,rfl⟩:=lO
   obtain ⟨q,c',rfl⟩:=fQ
   exact ⟨w,run_copy_none (P:=P) w t tt type e p q n c m c' ht hz h0,.int _ _,H,.refl H⟩
  ·rename_i h0
   split at hi
   ·rename_i i o e' n' c0
    split at hi
    ·rename_i e2 xs hg
     split at hi
     ·rename_i hle
      simp only [Option.some.injEq,Prod.mk.injEq] at hi
      obtain ⟨rfl,rfl⟩:=hi
      cases hd with
      | slice hr ho hn2 hc hb=>
       rename_i o' c' r
       simp [nu] at hn
       subst hn
       have gU:0<n':=by
        have:Nat.min m n'≤n':=Nat.min_le_right _ _
        omega
       have c9:o'=r.sh+o:=by
        rcases ho with ho | ⟨q1,q2,q3⟩
        ·exact ho
        ·omega
       subst c9
       obtain ⟨a1,a2,c,a3,a4,a5⟩:=H.arr hr hg
       rcases Hu H tQ hx with ⟨rfl,rfl⟩ | ⟨b,ob,nn,cc,rfl,hl,hlen,yx,ys,wB,ar5⟩
       ·obtain ⟨q,c',hq⟩:=fQ
        cases hq
        exact absurd (Nat.zero_min n') h0
       ·rw [hm] at hl
        cases hl
        rw [Nat.mul_one] at hlen
        have asK:=wB.length
        have aB:(ys.take (Nat.min m n')).length=Nat.min m n':=by
         rw [List.length_take,←asK,hlen];exact Nat.min_eq_left (Nat.min_le_left _ _)
        have hct:(cs.take (Nat.min m n')).length=Nat.min m n':=by
         rw [List.length_take,hlen];exact Nat.min_eq_left (Nat.min_le_left _ _)
        have wz:bn ρ (cs.take (Nat.min m n')) (ys.take (Nat.min m n')):=wB.take _
        have YN:∀v∈cs.take (Nat.min m n'),fw v=true:=fun v hv=>yx v (List.mem_of_mem_take hv)
        have fz:=run_copy_row (P:=P) w t tt type e r.bm (r.sh+o) n' c' ⟨b,ob,none⟩ m cc c e2 (ys.take (Nat.min m n')) ht hz a3 aB
         (fun j v hj=>by
          rw [List.getElem?_take] at hj
          split at hj
          ·rw [Addr.add_lit];exact ar5 j v hj
          ·cases hj) (by have:=a5.le;rw [aB,a2];omega) (wz.BQ YN)
        rw [aB,a2,Nat.zero_add] at fz
        have heq:(c.toList.take o++ys.take (Nat.min m n')++c.toList.drop (o+Nat.min m n')).toArray=(setAt c.toList o (ys.take (Nat.min m n'))).toArray:=by simp only [setAt,aB]
        rw [heq] at fz
        have gT:ca h i:=.inl ⟨e2,xs,hg⟩
        obtain ⟨q1,q2⟩:=H.set (o:=.arr e2 (setAt xs o (cs.take (Nat.min m n')))) hr gT (ko.row a3 (setAt c.toList o (ys.take (Nat.min m n'))).toArray)
         ⟨a1,a2,_,(ko.row a3 _).here,by simp [QK (show o+(ys.take (Nat.min m n')).length≤c.toList.length by have:=a5.le;simp only [Array.length_toList];omega),a4],a5.put wz YN (by omega)⟩
        refine ⟨_,?_,.int _ _,q1,q2⟩
        rw [a2,Nat.zero_add];exact fz
     ·cases hi
    ·cases hi
   ·cases hi
 ·cases hi

end
end Go.Sim


namespace Go.Sim

theorem ko.obj {w:World} {g:Nat} {x:Obj} (hg:w.heap[g]?=some x) (b:Obj):ko w g b { w with heap:=w.heap.setIfInBounds g b } where
 here:=by
  have:=(Array.getElem?_eq_some_iff.1 hg).1
  simp [this]
 other:=by intro j hj;simp [Ne.symm hj]
 size:=by simp
 os:=rfl
 tape:=rfl
 output:=rfl

theorem arb {ρ:aI} {es:List (ByteArray×Value)} {aH:List MapEntry} (h:km ρ es aH) (k:ByteArray) {v v':Value} (hv:av ρ v v') (born:Nat):∀i:Nat,
  (Instr.findNow .string (.string k) aH i=some none∧km ρ (qA k v es) (aH++[{ key:=.string k,val:=v',born }]))∨
  (∃u j,Instr.findNow .string (.string k) aH i=some (some (i+j,u))∧(∃en,aH[j]?=some en∧en.key=.string k)∧km ρ (qA k v es) (aH.modify j fun e=>{ e with key:=.string k,val:=v' })):=by
 induction h with
 | nil=>intro i;exact .inl ⟨rfl,.cons rfl hv .nil⟩
 | cons h1 h2 h3 ih=>
  rename_i k0 v0 en es aH
  intro i
  by_cases hk:k=k0
  ·subst hk
   have hb:(k==k)=true:=(MapKept.bytes_beq k k).2 rfl
   refine .inr ⟨en.val,0,?_,⟨en,rfl,h1⟩,?_⟩
   ·simp [Instr.findNow,h1,Instr.sameNow,hb]
   ·simp only [qA,if_true,List.modify_zero_cons]
    exact .cons rfl hv h3
  ·have hb:(k==k0)=false:=by
    rw [Bool.eq_false_iff]
    exact fun e=>hk ((MapKept.bytes_beq k k0).1 e)
   rcases ih (i+1) with ⟨e1,e2⟩ | ⟨u,j,e1,e2,e3⟩
   ·refine .inl ⟨?_,?_⟩
    ·simp [Instr.findNow,h1,Instr.sameNow,hb,e1]
    ·simp only [qA,if_neg hk,List.cons_append]
     exact .cons h1 h2 e2
   ·refine .inr ⟨u,j+1,?_,by simpa using e2,?_⟩
    ·simp [Instr.findNow,h1,Instr.sameNow,hb,e1];omega
    ·simp only [qA,if_neg hk,List.modify_succ_cons]
     exact .cons h1 h2 e3

theorem arc {kd:IntKind} {ρ:aI} {es:List (Int×Value)} {aH:List MapEntry} (h:kn kd ρ es aH) (k:Int) {v v':Value} (hv:av ρ v v') (born:Nat):∀i:Nat,
  (Instr.findNow (.int kd) (.int kd k) aH i=some none∧kn kd ρ (qz k v es) (aH++[{ key:=.int kd k,val:=v',born }]))∨
  (∃u j,Instr.findNow (.int kd) (.int kd k) aH i=some (some (i+j,u))∧(∃en,aH[j]?=some en∧en.key=.int kd k)∧kn kd ρ (qz k v es) (aH.modify j fun e=>{ e with key:=.int kd k,val:=v' })):=by
 induction h with
 | nil=>intro i;exact .inl ⟨rfl,.cons rfl hv .nil⟩
 | cons h1 h2 h3 ih=>
  rename_i k0 v0 en es aH
  intro i
  by_cases hk:k=k0
  ·subst hk
   have hb:(k==k)=true:=beq_self_eq_true k
   refine .inr ⟨en.val,0,?_,⟨en,rfl,h1⟩,?_⟩
   ·simp [Instr.findNow,h1,Instr.sameNow]
   ·simp only [qz,if_true,List.modify_zero_cons]
    exact .cons rfl hv h3
  ·have hb:(k==k0)=false:=by
    exact beq_false_of_ne hk
   rcases ih (i+1) with ⟨e1,e2⟩ | ⟨u,j,e1,e2,e3⟩
   ·refine .inl ⟨?_,?_⟩
    ·simp [Instr.findNow,h1,Instr.sameNow,hb,e1]
    ·simp only [qz,if_neg hk,List.cons_append]
     exact .cons h1 h2 e2
   ·refine .inr ⟨u,j+1,?_,by simpa using e2,?_⟩
    ·simp [Instr.findNow,h1,Instr.sameNow,hb,e1];omega
    ·simp only [qz,if_neg hk,List.modify_succ_cons]
     exact .cons h1 h2 e3

section
variable {P : Program} {w : World} {ρ : aI} {h : ae}

theorem ayK (H:aU P ρ h w) (t:TypeId):∃w' ar v',(Instr.makeMap t none).run P w=.ok v' w'∧av ar (.map (some h.length)) v'∧aU P ar (h++[.smap []]) w'∧Tr ρ h w ar (h++[.smap []]) w':=by
 have nb:=iI.alloc w (.map #[] 0)
 obtain ⟨q1,q2⟩:=H.new (h₀:=h) (o:=.smap []) (r:=⟨w.heap.size,0,0,P.cellsOf 0,0⟩) nb rfl rfl rfl (fun _=>.inl rfl) ⟨#[],0,nb.new,rfl,fun j k v hj=>by simp at hj⟩
 refine ⟨_,_,.map (some w.heap.size),?_,av.map (xS _ _ _),q1,q2⟩
 simp [Instr.makeMap]

theorem ayM (H:aU P ρ h w) (t:TypeId) (kd:IntKind):∃w' ar v',(Instr.makeMap t none).run P w=.ok v' w'∧av ar (.map (some h.length)) v'∧aU P ar (h++[.jm kd []]) w'∧Tr ρ h w ar (h++[.jm kd []]) w':=by
 have nb:=iI.alloc w (.map #[] 0)
 obtain ⟨q1,q2⟩:=H.new (h₀:=h) (o:=.jm kd []) (r:=⟨w.heap.size,0,0,P.cellsOf 0,0⟩) nb rfl rfl rfl (fun _=>.inl rfl) ⟨#[],0,nb.new,rfl,fun j k v hj=>by simp at hj⟩
 refine ⟨_,_,.map (some w.heap.size),?_,av.map (xS _ _ _),q1,q2⟩
 simp [Instr.makeMap]

theorem uB {g:Nat} {aH:Array MapEntry} {clock:Nat} (hg:w.heap[g]?=some (.map aH clock)) (o:Obj):(setObj g o).run P w=.ok () { w with heap:=w.heap.setIfInBounds g o }:=by
 simp [setObj,Sem.run,hg]

theorem ag8 (H:aU P ρ h w) {t kt et:TypeId} {m m' k k' v v':Value} {h':ae} (ht:P.underlying t=some (.map kt et)) (hk:isString P kt=true)
  (hi:NK h m k v=some h') (hm:av ρ m m') (jB:av ρ k k') (hv:av ρ v v'):∃w',(Instr.mapUpdate t m' k' v').run P w=.ok () w'∧aU P ρ h' w'∧Tr ρ h w ρ h' w':=by
 unfold NK at hi
 split at hi
 ·rename_i i key
  rw [jB.sY]
  cases hm with
  | map hr=>
   rename_i r
   split at hi
   ·rename_i es he
    simp at hi;subst hi
    obtain ⟨aH,clock,hb,vW⟩:=H.aH hr he
    have j9:=aay hk
    have gT:ca h i:=.inr (.inl ⟨es,he⟩)
    have mk:∀(nL:Array MapEntry) (pJ:Nat),km ρ (qA key v es) nL.toList→aU P ρ (h.set i (.smap (qA key v es))) { w with heap:=w.heap.setIfInBounds r.bm (.map nL pJ) }∧
      Tr ρ h w ρ (h.set i (.smap (qA key v es))) { w with heap:=w.heap.setIfInBounds r.bm (.map nL pJ) }:=by
     intro nL pJ fc
     have sb:=ko.obj hb (.map nL pJ)
     have:=fc.to
     exact H.set (o:=.smap (qA key v es)) hr gT sb ⟨nL,pJ,sb.here,by simpa using this.1,by simpa using this.2⟩
    rcases arb vW key hv clock 0 with ⟨e1,e2⟩ | ⟨u,j,e1,⟨en,e2,vp⟩,e3⟩
    ·obtain ⟨q1,q2⟩:=mk (aH.push { key:=.string key,val:=v',born:=clock }) (clock+1) (by simpa using e2)
     refine ⟨_,?_,q1,q2⟩
     simp [Instr.mapUpdate,run_underlying ht,run_getObj_map hb,run_checkKey _ j9,run_findKey j9 key _ e1,uB hb]
    ·obtain ⟨q1,q2⟩:=mk (aH.modify j fun e=>{ e with key:=.string key,val:=v' }) clock (by simpa using e3)
     refine ⟨_,?_,q1,q2⟩
     have bP:aH[j]?=some en:=by simpa using e2
     have wx:Instr.sameBits 10000 (.string key) (.string key)=true:=by
      simp [Instr.sameBits,(MapKept.bytes_beq key key).2 rfl]
     have Bn:(Instr.keyThatStays (((aH[j]?).map (·.key)).getD (.string key)) (.string key)).run P w=.ok (.string key) w:=by
      rw [bP]
      simp [Instr.keyThatStays,vp,wx]
     simp only [Instr.mapUpdate,Sem.run_bind,run_underlying ht,Result.andThen_ok,run_getObj_map hb,run_checkKey _ j9,run_findKey j9 key _ e1]
     simp only [Nat.zero_add,Bn,Result.andThen_ok,uB hb]
   ·cases hi
 ·cases hi

theorem aha (H:aU P ρ h w) {t kt et:TypeId} {kd:IntKind} {m m' k k' v v':Value} {h':ae} (ht:P.underlying t=some (.map kt et)) (hk:wL P kt=some kd)
  (hi:NL kd h m k v=some h') (hm:av ρ m m') (jB:av ρ k k') (hv:av ρ v v'):∃w',(Instr.mapUpdate t m' k' v').run P w=.ok () w'∧aU P ρ h' w'∧Tr ρ h w ρ h' w':=by
 unfold NL at hi
 split at hi
 ·rename_i i yU key
  rw [jB.kh]
  cases hm with
  | map hr=>
   rename_i r
   split at hi
   ·rename_i kX es he
    split at hi
    ·rename_i mH
     obtain ⟨rfl,rfl⟩:=mH
     simp at hi;subst hi
     obtain ⟨aH,clock,hb,vW⟩:=H.Yg hr he
     have j9:=aau hk
     have gT:ca h i:=.inr (.inr (.inr (.inl ⟨_,es,he⟩)))
     have mk:∀(nL:Array MapEntry) (pJ:Nat),kn kX ρ (qz key v es) nL.toList→aU P ρ (h.set i (.jm kX (qz key v es))) { w with heap:=w.heap.setIfInBounds r.bm (.map nL pJ) }∧
       Tr ρ h w ρ (h.set i (.jm kX (qz key v es))) { w with heap:=w.heap.setIfInBounds r.bm (.map nL pJ) }:=by
      intro nL pJ fc
      have sb:=ko.obj hb (.map nL pJ)
      have:=fc.to
      exact H.set (o:=.jm kX (qz key v es)) hr gT sb ⟨nL,pJ,sb.here,by simpa using this.1,by simpa using this.2⟩
     rcases arc vW key hv clock 0 with ⟨e1,e2⟩ | ⟨u,j,e1,⟨en,e2,vp⟩,e3⟩
     ·obtain ⟨q1,q2⟩:=mk (aH.push { key:=.int kX key,val:=v',born:=clock }) (clock+1) (by simpa using e2)
      refine ⟨_,?_,q1,q2⟩
      simp [Instr.mapUpdate,run_underlying ht,run_getObj_map hb,He _ j9,Hf j9 key _ e1,uB hb]
     ·obtain ⟨q1,q2⟩:=mk (aH.modify j fun e=>{ e with key:=.int kX key,val:=v' }) clock (by simpa using e3)
      refine ⟨_,?_,q1,q2⟩
      have bP:aH[j]?=some en:=by simpa using e2
      have wx:∀kd,Instr.sameBits 10000 (.int kd key) (.int kd key)=true:=by
       intro kd
       simp [Instr.sameBits]
      have Bn:(Instr.keyThatStays (((aH[j]?).map (·.key)).getD (.int kX key)) (.int kX key)).run P w=.ok (.int kX key) w:=by
       rw [bP]
       simp [Instr.keyThatStays,vp,wx]
      simp only [Instr.mapUpdate,Sem.run_bind,run_underlying ht,Result.andThen_ok,run_getObj_map hb,He _ j9,Hf j9 key _ e1]
      simp only [Nat.zero_add,Bn,Result.andThen_ok,uB hb]
    ·cases hi
   ·cases hi
 ·cases hi

theorem ayL (H:aU P ρ h w) (t:TypeId) (g:fq):∃w' ar v',(Instr.makeMap t none).run P w=.ok v' w'∧av ar (.map (some h.length)) v'∧aU P ar (h++[.dH g 0 []]) w'∧Tr ρ h w ar (h++[.dH g 0 []]) w':=by
 have nb:=iI.alloc w (.map #[] 0)
 obtain ⟨q1,q2⟩:=H.new (h₀:=h) (o:=.dH g 0 []) (r:=⟨w.heap.size,0,0,P.cellsOf 0,0⟩) nb rfl rfl rfl (fun _=>.inl rfl) ⟨by simp,#[],nb.new,rfl,fun j b k v hj=>by simp at hj⟩
 refine ⟨_,_,.map (some w.heap.size),?_,av.map (xS _ _ _),q1,q2⟩
 simp [Instr.makeMap]

theorem pF.set {g:fq} {c:Nat} {es:List (Nat×Value×Value)} {aH:Array MapEntry} (E:pF ρ g es aH) {k v v':Value} (hk:dZ g k=true) (hv:av ρ v v'):
  (lZ k es=none→pF ρ g (es++[(c,k,v)]) (aH.push { key:=k,val:=v',born:=c }))∧∀j b u,lZ k es=some j→es[j]?=some (b,k,u)→pF ρ g (es.modify j fun e=>(e.1,k,v)) (aH.modify j fun e=>{ e with key:=k,val:=v' }):=by
 constructor
 ·intro hp
  have cU:∀e∈es,e.2.1≠k:=by
   rcases GR hk es with ⟨_,h2⟩ | ⟨j,e,h1,_⟩
   ·exact h2
   ·rw [hp] at h1;cases h1
  refine ⟨by simp [E.size],?_,?_⟩
  ·rw [List.map_append,List.nodup_append]
   refine ⟨E.nodup,by simp,?_⟩
   intro a ha b hb
   obtain ⟨e,he,rfl⟩:=List.mem_map.1 ha
   simp at hb
   subst hb
   exact cU e he
  ·intro j b k1 v1 hj
   by_cases aB:j<es.length
   ·rw [List.getElem?_append_left aB] at hj
    obtain ⟨g1,en,g2,g3⟩:=E.get j b k1 v1 hj
    exact ⟨g1,en,by rw [Array.getElem?_push_lt (by rw [E.size];exact aB)];rw [Array.getElem?_eq_getElem (by rw [E.size];exact aB)] at g2;exact g2,g3⟩
   ·rw [List.getElem?_append_right (by omega)] at hj
    have re:j=es.length:=by
     have:=(List.getElem?_eq_some_iff.1 hj).1
     simp at this
     omega
    subst re
    simp at hj
    obtain ⟨rfl,rfl,rfl⟩:=hj
    exact ⟨hk,{ key:=k,val:=v',born:=c },by rw [←E.size];simp,rfl,rfl,hv⟩
 ·intro j b u hp hj
  have ar2:((es.modify j fun e=>(e.1,k,v)).map fun e=>e.2.1)=es.map fun e=>e.2.1:=by
   apply List.ext_getElem?
   intro i
   simp only [List.getElem?_map,List.getElem?_modify]
   by_cases dO:j=i
   ·subst dO;simp [hj]
   ·simp [dO]
  refine ⟨by simp [E.size],by rw [ar2];exact E.nodup,?_⟩
  intro i b1 k1 v1 hi
  rw [List.getElem?_modify] at hi
  by_cases dO:j=i
  ·subst dO
   simp [hj] at hi
   obtain ⟨rfl,rfl,rfl⟩:=hi
   obtain ⟨g1,en,g2,g3,g4,_⟩:=E.get j b k u hj
   refine ⟨hk,{ en with key:=k,val:=v' },?_,rfl,g4,hv⟩
   rw [Array.getElem?_modify]
   simp [g2]
  ·simp [dO] at hi
   obtain ⟨g1,en,g2,g3⟩:=E.get i b1 k1 v1 hi
   refine ⟨g1,en,?_,g3⟩
   rw [Array.getElem?_modify]
   simp [dO,g2]

theorem ag9 (H:aU P ρ h w) {t:TypeId} {g:fq} {m m' k k' v v':Value} {h':ae} (hg:oM P t=some g)
  (hi:BA g h m k v=some h') (hm:av ρ m m') (jB:av ρ k k') (hv:av ρ v v'):∃w',(Instr.mapUpdate t m' k' v').run P w=.ok () w'∧aU P ρ h' w'∧Tr ρ h w ρ h' w':=by
 obtain ⟨kt,et,ht,L⟩:=EZ hg
 unfold BA at hi
 split at hi
 ·rename_i i
  cases hm with
  | map hr=>
   rename_i r
   split at hi
   ·rename_i g' c es he
    split at hi
    ·rename_i mH
     obtain ⟨rfl,hk,_⟩:=mH
     simp at hi;subst hi
     rw [jB.key hk]
     obtain ⟨aH,hb,E⟩:=H.yc hr he
     have gT:ca h i:=.inr (.inr (.inr (.inr (.inl ⟨_,_,es,he⟩))))
     obtain ⟨S1,S2⟩:=E.set (c:=c) hk hv
     rcases QA (w:=w) L E hk with ⟨⟨e1,_⟩,e2⟩ | ⟨j,b,u,en,e1,e2,e3,e4,e5,e6,e7⟩
     ·have E':=S1 e1
      have sb:=ko.obj hb (.map (aH.push { key:=k,val:=v',born:=c }) (c+1))
      have jQ:qy c k v es=es++[(c,k,v)]:=by simp [qy,e1]
      have MF:rN c k es=c+1:=by simp [rN,e1]
      obtain ⟨q1,q2⟩:=H.set (o:=.dH g' (rN c k es) (qy c k v es)) hr gT sb (by rw [jQ,MF];exact ⟨E'.nodup,_,sb.here,E'.size,E'.get⟩)
      refine ⟨_,?_,q1,q2⟩
      simp [Instr.mapUpdate,run_underlying ht,run_getObj_map hb,L.check w _ k hk,e2,uB hb]
     ·have E':=S2 j b u e1 e2
      have sb:=ko.obj hb (.map (aH.modify j fun e=>{ e with key:=k,val:=v' }) c)
      have jQ:qy c k v es=es.modify j fun e=>(e.1,k,v):=by simp [qy,e1]
      have MF:rN c k es=c:=by simp [rN,e1]
      obtain ⟨q1,q2⟩:=H.set (o:=.dH g' (rN c k es) (qy c k v es)) hr gT sb (by rw [jQ,MF];exact ⟨E'.nodup,_,sb.here,E'.size,E'.get⟩)
      refine ⟨_,?_,q1,q2⟩
      have Bn:(Instr.keyThatStays (((aH[j]?).map (·.key)).getD k) k).run P w=.ok k w:=by
       rw [e3]
       simp [e4,L.stays w k hk]
      simp only [Instr.mapUpdate,Sem.run_bind,run_underlying ht,Result.andThen_ok,run_getObj_map hb,L.check w _ k hk,e7]
      simp only [Bn,Result.andThen_ok,uB hb]
    ·cases hi
   ·cases hi
 ·cases hi

theorem pF.era {g:fq} {es:List (Nat×Value×Value)} {aH:Array MapEntry} (E:pF ρ g es aH) {j:Nat} (hj:j<es.length):pF ρ g (es.eraseIdx j) (aH.eraseIdxIfInBounds j):=by
 have aB:j<aH.size:=by rw [E.size];exact hj
 have he:aH.eraseIdxIfInBounds j=aH.eraseIdx j aB:=by simp [Array.eraseIdxIfInBounds,aB]
 rw [he]
 refine ⟨by rw [Array.size_eraseIdx,List.length_eraseIdx,if_pos hj,E.size],?_,?_⟩
 ·refine List.Nodup.sublist ?_ E.nodup
  exact (List.eraseIdx_sublist _ _).map _
 ·intro i b k v hi
  rw [List.getElem?_eraseIdx] at hi
  split at hi
  ·rename_i dO
   obtain ⟨g1,en,g2,g3⟩:=E.get i b k v hi
   exact ⟨g1,en,by rw [Array.getElem?_eraseIdx,if_pos dO];exact g2,g3⟩
  ·rename_i dO
   obtain ⟨g1,en,g2,g3⟩:=E.get (i+1) b k v hi
   exact ⟨g1,en,by rw [Array.getElem?_eraseIdx,if_neg dO];exact g2,g3⟩

theorem ayy (H:aU P ρ h w) {t ty:TypeId} {ts:Array TypeId} {g:fq} {m m' k k':Value} {h':ae} (Bq:ts[0]?=some t) (hg:oM P t=some g)
  (hi:By g h m k=some h') (hm:av ρ m m') (jB:av ρ k k'):∃w',(Builtin.delete_ ts ty #[m',k']).run P w=.ok (.tuple #[]) w'∧aU P ρ h' w'∧Tr ρ h w ρ h' w':=by
 obtain ⟨kt,et,ht,L⟩:=EZ hg
 unfold By at hi
 split at hi
 ·rename_i i
  cases hm with
  | map hr=>
   rename_i r
   split at hi
   ·rename_i g' c es he
    split at hi
    ·rename_i mH
     obtain ⟨rfl,hk⟩:=mH
     simp at hi;subst hi
     rw [jB.key hk]
     obtain ⟨aH,hb,E⟩:=H.yc hr he
     have gT:ca h i:=.inr (.inr (.inr (.inr (.inl ⟨_,_,es,he⟩))))
     rcases QA (w:=w) L E hk with ⟨⟨e1,_⟩,e2⟩ | ⟨j,b,u,en,e1,e2,e3,e4,e5,e6,e7⟩
     ·have sb:=ko.obj hb (.map aH c)
      have jQ:oL k es=es:=by simp [oL,e1]
      obtain ⟨q1,q2⟩:=H.set (o:=.dH g' c (oL k es)) hr gT sb (by rw [jQ];exact ⟨E.nodup,_,sb.here,E.size,E.get⟩)
      refine ⟨_,?_,q1,q2⟩
      simp [Builtin.delete_,Bq,run_underlying ht,run_getObj_map hb,L.check w _ k hk,e2,uB hb]
     ·have E':=E.era (List.getElem?_eq_some_iff.1 e2).1
      have sb:=ko.obj hb (.map (aH.eraseIdxIfInBounds j) c)
      have jQ:oL k es=es.eraseIdx j:=by simp [oL,e1]
      obtain ⟨q1,q2⟩:=H.set (o:=.dH g' c (oL k es)) hr gT sb (by rw [jQ];exact ⟨E'.nodup,_,sb.here,E'.size,E'.get⟩)
      refine ⟨_,?_,q1,q2⟩
      simp [Builtin.delete_,Bq,run_underlying ht,run_getObj_map hb,L.check w _ k hk,e7,uB hb]
    ·cases hi
   ·cases hi
 ·cases hi

theorem ayP (H:aU P ρ h w) {t:TypeId} {g:fq} {x x' v:Value} {h':ae} (hg:oM P t=some g) (hi:yP h x=some (v,h')) (hx:av ρ x x'):
  ∃w' ar v',(Instr.range t x').run P w=.ok v' w'∧av ar v v'∧aU P ar h' w'∧Tr ρ h w ar h' w':=by
 obtain ⟨kt,et,ht,L⟩:=EZ hg
 unfold yP at hi
 split at hi
 ·rename_i i
  cases hx with
  | map hr=>
   rename_i r
   split at hi
   ·rename_i g' c es he
    simp at hi
    obtain ⟨rfl,rfl⟩:=hi
    obtain ⟨aH,hb,E⟩:=H.yc hr he
    have nb:=iI.alloc w (.mapIter (some r.bm) c #[] c)
    have br:i≠h.length:=by
     have:=(List.getElem?_eq_some_iff.1 he).1
     omega
    obtain ⟨q1,q2⟩:=H.new (h₀:=h) (o:=.iter i c [] c) (r:=⟨w.heap.size,0,0,P.cellsOf 0,0⟩) nb rfl rfl rfl (fun _=>.inl rfl)
     ⟨rfl,r,by simp [aI.add,br,hr],nb.new⟩
    refine ⟨_,_,.pointer (some ⟨w.heap.size,0,none⟩),?_,?_,q1,q2⟩
    ·simp [Instr.range,run_underlying ht,run_getObj_map hb,newObj,Sem.run,Result.andThen]
    ·exact av.ptr (o:=0) (xS _ _ _)
   ·cases hi
 ·cases hi

theorem iT.val {v v':Value} {h':ae} {s:Result Next} {w':World} {ar:aI} (e:s=.ok (.value v') w') (a:av ar v v') (b:aU P ar h' w') (c:Tr ρ h w ar h' w'):iT P ρ h w v h' s:=
 ⟨_,_,_,_,e,.inl rfl,a,b,c⟩
theorem iT.skip {h':ae} {s:Result Next} {w':World} (e:s=.ok .skip w') (b:aU P ρ h' w') (c:Tr ρ h w ρ h' w'):iT P ρ h w undef h' s:=
 ⟨_,_,_,_,e,.inr ⟨rfl,rfl⟩,av.undef _,b,c⟩

theorem aqN {o:Oper} {eo:mR} {g g':Operand→Value} (hc:gq P o.op=some eo) (aA:o.op.operands.all hY=true) (H:aU P ρ h w)
  (hg:∀x,hY x=true→av ρ (g x) (g' x)) {v:Value} {h':ae} (hi:fv eo g h=some (v,h')):iT P ρ h w v h' ((execOp g' o).run P w):=by
 cases ho:o.op with
 | store t a x=>
  rw [ho] at hc aA
  simp [Op.operands] at aA
  simp only [gq] at hc
  split at hc
  ·rename_i hk
   simp at hc;subst hc
   simp only [fv,Option.map_eq_some_iff,Prod.mk.injEq] at hi
   obtain ⟨aR,hi,rfl,rfl⟩:=hi
   obtain ⟨w',q1,q2,q3⟩:=ayS H hk hi (hg a aA.1) (hg x aA.2)
   exact iT.skip (w':=w') (by simp [execOp,ho,q1]) q2 q3
  ·cases hc
 | box e x=>
  rw [ho] at hc aA
  simp [Op.operands] at aA
  simp [gq] at hc;subst hc
  obtain ⟨w',ar,v',q1,q2,q3,q4⟩:=ayu H hi (hg x aA)
  exact iT.val (v':=v') (w':=w') (by simp [execOp,ho,q1]) q2 q3 q4
 | alloc e=>
  rw [ho] at hc
  simp only [gq,Option.map_eq_some_iff] at hc
  obtain ⟨zs,hz,rfl⟩:=hc
  simp [fv] at hi
  obtain ⟨rfl,rfl⟩:=hi
  obtain ⟨w',ar,v',q1,q2,q3,q4⟩:=ayq H hz
  exact iT.val (v':=v') (w':=w') (by simp [execOp,ho,q1]) q2 q3 q4
 | buildSlice t n ps=>
  rw [ho] at hc aA
  simp only [gq] at hc
  simp only [Op.operands] at aA
  split at hc
  ·rename_i e ht
   split at hc
   ·rename_i zs hz
    split at hc
    ·rename_i hb
     simp at hc;subst hc
     have hq:∀q∈ps.toList,hY q.2=true:=by
      intro q hm
      rw [Array.all_eq_true'] at aA
      exact aA q.2 (by simp;exact ⟨q.1,by simpa using hm⟩)
     have hp:=P6 hg (fun i=>(i*P.cellsOf e,P.cellsOf e)) ps.toList hq
     obtain ⟨w',ar,v',q1,q2,q3,q4⟩:=ayN H ht hz hb.1 hb.2 (qs:=ps.map fun (i,x)=>(i,g' x)) (by simpa using hp) hi
     exact iT.val (v':=v') (w':=w') (by simp [execOp,ho,q1]) q2 q3 q4
    ·cases hc
   ·cases hc
  ·cases hc
 | makeSlice t l c=>
  rw [ho] at hc aA
  simp [Op.operands] at aA
  simp only [gq] at hc
  split at hc
  ·rename_i e ht
   split at hc
   ·rename_i zs hz
    simp at hc;subst hc
    obtain ⟨w',ar,v',q1,q2,q3,q4⟩:=ayJ H ht hz hi (hg l aA.1) (hg c aA.2)
    exact iT.val (v':=v') (w':=w') (by simp [execOp,ho,q1]) q2 q3 q4
   ·cases hc
  ·cases hc
 | range t x=>
  rw [ho] at hc aA
  simp [Op.operands] at aA
  simp only [gq,Option.map_eq_some_iff] at hc
  obtain ⟨g,ji,rfl⟩:=hc
  obtain ⟨w',ar,v',q1,q2,q3,q4⟩:=ayP H ji hi (hg x aA)
  exact iT.val (v':=v') (w':=w') (by simp [execOp,ho,q1]) q2 q3 q4
 | next it b=>
  rw [ho] at hc
  cases b with
  | false=>simp [gq] at hc;subst hc;simp [fv] at hi
  | true=>simp [gq] at hc
 | makeMap t r=>
  rw [ho] at hc
  cases r with
  | none=>
   cases ji:oM P t with
   | some g=>
    simp only [gq,ji,Option.some.injEq] at hc
    subst hc
    simp [fv] at hi
    obtain ⟨rfl,rfl⟩:=hi
    obtain ⟨w',ar,v',q1,q2,q3,q4⟩:=ayL H t g
    exact iT.val (v':=v') (w':=w') (by simp [execOp,ho,q1]) q2 q3 q4
   | none=>
   have two:eo=.mkMap∨∃kd,eo=.F3 kd:=by
    simp only [gq,ji] at hc
    split at hc
    ·split at hc
     ·simp at hc;exact .inr ⟨_,hc.symm⟩
     ·simp at hc;exact .inl hc.symm
    ·simp at hc;exact .inl hc.symm
   rcases two with rfl | ⟨kd,rfl⟩
   ·simp [fv] at hi
    obtain ⟨rfl,rfl⟩:=hi
    obtain ⟨w',ar,v',q1,q2,q3,q4⟩:=ayK H t
    exact iT.val (v':=v') (w':=w') (by simp [execOp,ho,q1]) q2 q3 q4
   ·simp [fv] at hi
    obtain ⟨rfl,rfl⟩:=hi
    obtain ⟨w',ar,v',q1,q2,q3,q4⟩:=ayM H t kd
    exact iT.val (v':=v') (w':=w') (by simp [execOp,ho,q1]) q2 q3 q4
  | some r=>simp [gq] at hc
 | mapUpdate t m k x=>
  rw [ho] at hc aA
  simp [Op.operands] at aA
  simp only [gq] at hc
  split at hc
  ·rename_i g ji
   simp at hc;subst hc
   simp only [fv,Option.map_eq_some_iff,Prod.mk.injEq] at hi
   obtain ⟨aR,hi,rfl,rfl⟩:=hi
   obtain ⟨w',q1,q2,q3⟩:=ag9 H ji hi (hg m aA.1) (hg k aA.2.1) (hg x aA.2.2)
   exact iT.skip (w':=w') (by simp [execOp,ho,q1]) q2 q3
  split at hc
  ·rename_i kt et ht
   split at hc
   ·rename_i hk
    simp at hc;subst hc
    simp only [fv,Option.map_eq_some_iff,Prod.mk.injEq] at hi
    obtain ⟨aR,hi,rfl,rfl⟩:=hi
    obtain ⟨w',q1,q2,q3⟩:=ag8 H ht hk hi (hg m aA.1) (hg k aA.2.1) (hg x aA.2.2)
    exact iT.skip (w':=w') (by simp [execOp,ho,q1]) q2 q3
   ·simp only [Option.map_eq_some_iff] at hc
    obtain ⟨kd,mH,rfl⟩:=hc
    simp only [fv,Option.map_eq_some_iff,Prod.mk.injEq] at hi
    obtain ⟨aR,hi,rfl,rfl⟩:=hi
    obtain ⟨w',q1,q2,q3⟩:=aha H ht mH hi (hg m aA.1) (hg k aA.2.1) (hg x aA.2.2)
    exact iT.skip (w':=w') (by simp [execOp,ho,q1]) q2 q3
  ·cases hc
 | insert t m k x=>
  rw [ho] at hc aA
  simp [Op.operands] at aA
  simp only [gq] at hc
  split at hc
  ·rename_i g ji
   simp at hc;subst hc
   simp only [fv,Option.map_eq_some_iff,Prod.mk.injEq] at hi
   obtain ⟨aR,hi,rfl,rfl⟩:=hi
   obtain ⟨w',q1,q2,q3⟩:=ag9 H ji hi (hg m aA.1) (hg k aA.2.1) (hg x aA.2.2)
   exact iT.skip (w':=w') (by simp [execOp,ho,q1]) q2 q3
  split at hc
  ·rename_i kt et ht
   split at hc
   ·rename_i hk
    simp at hc;subst hc
    simp only [fv,Option.map_eq_some_iff,Prod.mk.injEq] at hi
    obtain ⟨aR,hi,rfl,rfl⟩:=hi
    obtain ⟨w',q1,q2,q3⟩:=ag8 H ht hk hi (hg m aA.1) (hg k aA.2.1) (hg x aA.2.2)
    exact iT.skip (w':=w') (by simp [execOp,ho,q1]) q2 q3
   ·simp only [Option.map_eq_some_iff] at hc
    obtain ⟨kd,mH,rfl⟩:=hc
    simp only [fv,Option.map_eq_some_iff,Prod.mk.injEq] at hi
    obtain ⟨aR,hi,rfl,rfl⟩:=hi
    obtain ⟨w',q1,q2,q3⟩:=aha H ht mH hi (hg m aA.1) (hg k aA.2.1) (hg x aA.2.2)
    exact iT.skip (w':=w') (by simp [execOp,ho,q1]) q2 q3
  ·cases hc
 | call c=>
  rw [ho] at hc aA
  obtain ⟨callee,args,argTypes⟩:=c
  cases callee with
  | builtin b=>
   cases b with
   | append=>
    simp only [gq] at hc
    split at hc
    ·rename_i s x t t' hx sC
     obtain rfl:args=#[s,x]:=Array.ext' hx
     obtain rfl:argTypes=#[t,t']:=Array.ext' sC
     simp [Op.operands,Call.operands] at aA
     split at hc
     ·rename_i hte
      subst hte
      split at hc
      ·rename_i e ht
       split at hc
       ·rename_i zs hz
        simp at hc;subst hc
        obtain ⟨w',ar,v',q1,q2,q3,q4⟩:=ayr (type:=o.type) H ht hz hi (hg s aA.1) (hg x aA.2)
        exact iT.val (v':=v') (w':=w') (by simp [execOp,ho,resolve,invoke,builtin,q1]) q2 q3 q4
       ·cases hc
      ·cases hc
     ·cases hc
    ·cases hc
   | copy=>
    simp only [gq] at hc
    split at hc
    ·rename_i d x t t' hx sC
     obtain rfl:args=#[d,x]:=Array.ext' hx
     obtain rfl:argTypes=#[t,t']:=Array.ext' sC
     simp [Op.operands,Call.operands] at aA
     split at hc
     ·rename_i e ht
      split at hc
      ·rename_i hz
       simp at hc;subst hc
       obtain ⟨w',q1,q2,q3,q4⟩:=ayx (tt:=t') (type:=o.type) H ht hz hi (hg d aA.1) (hg x aA.2)
       exact iT.val (v':=v) (w':=w') (by simp [execOp,ho,resolve,invoke,builtin,q1]) q2 q3 q4
      ·cases hc
     ·cases hc
    ·cases hc
   | delete=>
    simp only [gq] at hc
    split at hc
    ·rename_i m k t hx sC
     obtain rfl:args=#[m,k]:=Array.ext' hx
     simp [Op.operands,Call.operands] at aA
     simp only [Option.map_eq_some_iff] at hc
     obtain ⟨g,ji,rfl⟩:=hc
     simp only [fv,Option.map_eq_some_iff,Prod.mk.injEq] at hi
     obtain ⟨aR,hi,rfl,rfl⟩:=hi
     obtain ⟨w',q1,q2,q3⟩:=ayy (ty:=o.type) H sC ji hi (hg m aA.1) (hg k aA.2)
     exact iT.val (v':=.tuple #[]) (w':=w') (by simp [execOp,ho,resolve,invoke,builtin,q1]) (av.undef _) q2 q3
    ·cases hc
   | _=>simp [gq] at hc
  | _=>simp [gq] at hc
 | panic x=>rw [ho] at hc;simp [gq] at hc;subst hc;simp [fv] at hi
 | makeInterface t x=>rw [ho] at hc;simp [gq] at hc;subst hc;simp [fv] at hi
 | _=>rw [ho] at hc;simp [gq] at hc

end
end Go.Sim


namespace Go.Sim

inductive fL where
 | p (o:nG)
 | l (o:mT)
 | e (o:mR)
 | call (f:FuncId) (args:List Operand)
 | jx (x:Operand) (args:List Operand)

structure gI where
 dst:Option Nat
 op:fL
 guard:Option (Nat×Bool)

structure gR where
 dst:Option Nat
 op:fL

structure cD where
 op:gI
 pre:Nat

structure iU where
 dst:Option Nat
 op:fL
 pre:Nat

inductive dT where
 | skip
 | EF (l:List (Option (Nat×Bool)×List iU))
 | ops (g:Option (Nat×Bool)) (l:List gR)
 | seq (a b:dT)
 | cut (ls:List Nat) (c:dT)
 | cond (c:Operand) (a b:dT)
 | block (id:Nat) (c:dT)
 | loop (ks ls:List Nat) (c:dT)
 | exit (id:Nat)
 | ret
 | range (g:Operand) (ls:List Nat) (c:Ae)

abbrev FR (R:Option Nat):Fence:={ Fence.wide with round:=R }

def tn (P:Program) (F:FuncId) (args:List Value) (h:ae) (v:Value) (h':ae):Prop:=
 ∀(ρ:aI) (args':Array Value) (w:World),bn ρ args args'.toList→aU P ρ h w→
  Calls P F args' w fun e w'=>∃v' ar,e=.returned v'∧av ar v v'∧aU P ar h' w'∧Tr ρ h w ar h' w'

def pe (P:Program) (F:FuncId) (args:List Value) (h:ae) (K:Value→ae→Prop):Prop:=∃v h',tn P F args h v h'∧K v h'

theorem pe.mono {P:Program} {F:FuncId} {args:List Value} {h:ae} {K K':Value→ae→Prop} (hc:pe P F args h K) (hk:∀v h',K v h'→K' v h'):pe P F args h K':=
 let ⟨v,h',a,b⟩:=hc;⟨v,h',a,hk v h' b⟩

def Ir (P:Program) (i:Nat) (args:List Value) (h:ae) (v:Value) (h':ae):Prop:=
 ∀(ρ:aI) (r:RI) (args':Array Value) (w:World),ρ i=some r→bn ρ args args'.toList→aU P ρ h w→
  ∃fn tmps iW body,(Instr.yield r.bm args').run P w=.ok (.round r.bm fn tmps iW body) w∧
   RoundIn Fence.wide 0 P r.bm fn tmps iW body w fun e w'=>∃v' ar,e=.returned v'∧av ar v v'∧aU P ar h' w'∧Tr ρ h w ar h' w'

def BC (P:Program) (i:Nat) (args:List Value) (h:ae) (K:Value→ae→Prop):Prop:=∃v h',Ir P i args h v h'∧K v h'

theorem BC.mono {P:Program} {i:Nat} {args:List Value} {h:ae} {K K':Value→ae→Prop} (hc:BC P i args h K) (hk:∀v h',K v h'→K' v h'):BC P i args h K':=
 let ⟨v,h',a,b⟩:=hc;⟨v,h',a,hk v h' b⟩

def pI (P:Program) (f:FuncId):Bool:=
 match P.funcs[f]? with
 | some fn=>fn.name != "runtime.NumGoroutine" &&fn.body.isSome
 | none=>false

def eK (o:Option Value) (K:Value→Prop):Prop:=
 match o with
 | some v=>K v
 | none=>False

def lh (o:Option (Value×ae)) (K:Value→ae→Prop):Prop:=
 match o with
 | some (v,h')=>K v h'
 | none=>False

def qO (P:Program) (x:Value) (args:List Value) (h:ae) (K:Value→ae→Prop):Prop:=
 match x with
 | .func (.func g) first cap=>pI P g=true∧pe P g (first.toList++args++cap.toList) h K
 | .func (.yield i) first cap=>(first=#[]∧cap=#[])∧BC P i args h K
 | _=>False

def rA (P:Program) (g:Value) (ls:List Nat) (vs:List Value) (c:Ae) (h:ae) (K:ae→Prop):Prop:=
 match g with
 | .func (.func F) first cap=>pI P F=true∧pe P F (first.toList++[.func (.yield h.length) #[] #[]]++cap.toList) (h++[.loop c ls vs]) fun _ h'=>
   (∃c' ls' iB,h'[h.length]?=some (.loop c' ls' iB))∧K (h'.set h.length .dead)
 | _=>False

def cL (P:Program) (o:fL) (f:Nat→Value) (h:ae) (K:Value→ae→Prop):Prop:=
 match o with
 | .p o=>eK (hX o (ev f)) fun v=>K v h
 | .l o=>eK (eJ o (ev f) h) fun v=>K v h
 | .e o=>lh (fv o (ev f) h) K
 | .call g args=>pe P g (args.map (ev f)) h K
 | .jx x args=>qO P (ev f x) (args.map (ev f)) h K

def od (v:Value) (b:Bool):Bool:=
 match v with
 | .bool c=>c==b
 | _=>false

def sH:Value→Bool
 | .complex _ _ _=>true
 | _=>false

def gD (g:Option (Nat×Bool)) (f:Nat→Value):Bool:=
 match g with
 | none=>true
 | some (s,b)=>od (f s) b

def jg (v:Value) (b:Bool) (A B:Prop):Prop:=
 match v with
 | .bool c=>if (c==b)=true then A else B
 | .complex _ _ _=>False
 | _=>B

def cX (f:Nat→Value) (d:Option Nat) (v:Value):Nat→Value:=
 match d with
 | some d=>uD f d v
 | none=>f

def qj (P:Program):List gI→((Nat→Value)→ae→Prop)→(Nat→Value)→ae→Prop
 | [],K,f,h=>K f h
 | o::os,K,f,h=>
  match o.guard with
  | none=>cL P o.op f h fun v h'=>qj P os K (cX f o.dst v) h'
  | some (s,b)=>jg (f s) b (cL P o.op f h fun v h'=>qj P os K (cX f o.dst v) h') (qj P os K (cX f o.dst undef) h)

def tO (P:Program):List gR→((Nat→Value)→ae→Prop)→(Nat→Value)→ae→Prop
 | [],K,f,h=>K f h
 | o::os,K,f,h=>cL P o.op f h fun v h'=>tO P os K (cX f o.dst v) h'

def zJ:List gR→(Nat→Value)→(Nat→Value)
 | [],f=>f
 | o::os,f=>zJ os (cX f o.dst undef)

def qw (P:Program) (g:Option (Nat×Bool)) (l:List gR) (K:(Nat→Value)→ae→Prop) (f:Nat→Value) (h:ae):Prop:=
 match g with
 | none=>tO P l K f h
 | some (s,b)=>jg (f s) b (tO P l K f h) (K (zJ l f) h)

def fL.cW:fL→Bool
 | .p _=>false
 | .l _=>false
 | _=>true

abbrev dN:=List (Nat×mT×(Nat→Value)×Value)

def tD (pre:Nat) (lo:mT) (f:Nat→Value) (v:Value):List (Nat×ae)→Prop
 | []=>True
 | (e,H)::r=>if pre.testBit e=true then tD pre lo f v r else eJ lo (ev f) H=some v∧tD pre lo f v r

def jK (pre:Nat) (H:ae):dN→Prop
 | []=>True
 | (j,lo,f,v)::r=>if pre.testBit j=true then jK pre H r else eJ lo (ev f) H=some v∧jK pre H r

def jz (P:Program) (io:fL) (pre j:Nat) (aK:List (Nat×ae)) (aG:dN) (f:Nat→Value) (h:ae) (next:List (Nat×ae)→dN→Value→ae→Prop):Prop:=
 match io with
 | .p po=>eK (hX po (ev f)) fun v=>next aK aG v h
 | .l lo=>eK (eJ lo (ev f) h) fun v=>tD pre lo f v aK∧next aK (aG++[(j,lo,f,v)]) v h
 | .e (.fl a)=>lh (fv (.fl a) (ev f) h) fun v h'=>eK (ee h' v) fun u=>jK pre h' aG∧next (aK++[(j,h)]) (aG++[(j,.obj (.const v),f,u)]) v h'
 | .e eo=>lh (fv eo (ev f) h) fun v h'=>jK pre h' aG∧next (aK++[(j,h)]) aG v h'
 | .call g args=>pe P g (args.map (ev f)) h fun v h'=>jK pre h' aG∧next (aK++[(j,h)]) aG v h'
 | .jx x args=>qO P (ev f x) (args.map (ev f)) h fun v h'=>jK pre h' aG∧next (aK++[(j,h)]) aG v h'

def tI (io:fL) (pre j:Nat) (aK:List (Nat×ae)) (aG:dN) (h:ae) (next:List (Nat×ae)→dN→Value→ae→Prop):Prop:=
 match io.cW with
 | false=>next aK aG undef h
 | true=>jK pre h aG∧next (aK++[(j,h)]) aG undef h

def jD (P:Program):List cD→Nat→List (Nat×ae)→dN→((Nat→Value)→ae→Prop)→(Nat→Value)→ae→Prop
 | [],_,_,_,K,f,h=>K f h
 | o::os,j,aK,aG,K,f,h=>
  match o.op.guard with
  | none=>jz P o.op.op o.pre j aK aG f h fun aK aG v h'=>jD P os (j+1) aK aG K (cX f o.op.dst v) h'
  | some (s,b)=>
   jg (f s) b (jz P o.op.op o.pre j aK aG f h fun aK aG v h'=>jD P os (j+1) aK aG K (cX f o.op.dst v) h')
    (tI o.op.op o.pre j aK aG h fun aK aG v h'=>jD P os (j+1) aK aG K (cX f o.op.dst v) h')

def mE (P:Program):List iU→Nat→List (Nat×ae)→dN→(List (Nat×ae)→dN→(Nat→Value)→ae→Prop)→(Nat→Value)→ae→Prop
 | [],_,aK,aG,K,f,h=>K aK aG f h
 | o::os,j,aK,aG,K,f,h=>jz P o.op o.pre j aK aG f h fun aK aG v h'=>mE P os (j+1) aK aG K (cX f o.dst v) h'

def rW:List iU→Nat→List (Nat×ae)→dN→(List (Nat×ae)→dN→(Nat→Value)→ae→Prop)→(Nat→Value)→ae→Prop
 | [],_,aK,aG,K,f,h=>K aK aG f h
 | o::os,j,aK,aG,K,f,h=>tI o.op o.pre j aK aG h fun aK aG v h'=>rW os (j+1) aK aG K (cX f o.dst v) h'

def lL (P:Program):List (Option (Nat×Bool)×List iU)→Nat→List (Nat×ae)→dN→((Nat→Value)→ae→Prop)→(Nat→Value)→ae→Prop
 | [],_,_,_,K,f,h=>K f h
 | (none,l)::gs,j,aK,aG,K,f,h=>mE P l j aK aG (fun aK aG f h=>lL P gs (j+l.length) aK aG K f h) f h
 | (some (s,b),l)::gs,j,aK,aG,K,f,h=>
  jg (f s) b (mE P l j aK aG (fun aK aG f h=>lL P gs (j+l.length) aK aG K f h) f h)
   (rW l j aK aG (fun aK aG f h=>lL P gs (j+l.length) aK aG K f h) f h)

def aC (next:(Nat→Value)→ae→Prop) (K:Exit→(Nat→Value)→ae→Prop):Exit→(Nat→Value)→ae→Prop
 | .normal,f,h=>next f h
 | e,f,h=>K e f h

def bz (id:Nat) (K:Exit→(Nat→Value)→ae→Prop):Exit→(Nat→Value)→ae→Prop
 | .exit i,f,h=>if i=id then K .normal f h else K (.exit i) f h
 | e,f,h=>K e f h

def mX (c:Value) (a b:Prop):Prop:=
 match c with
 | .bool t=>if t=true then a else b
 | _=>False

def ya (Q:(Nat→Value)→ae→Prop) (ls:List Nat) (vs:List Value) (h:ae):Prop:=Q (jc ls vs) h

def wT (init:List Value) (h:ae) (Q:(List Value→ae→Prop)→List Value→ae→Prop):Prop:=
 ∃(J:List Value→ae→Prop) (μ:List Value→ae→Nat),J init h∧∀(xs:List Value) (hx:ae),J xs hx→Q (fun ys hy=>J ys hy∧μ ys hy<μ xs hx) xs hx

abbrev aq:=Exit→(Nat→Value)→ae→Prop

noncomputable def gN (P:Program) (c:dT):aq→(Nat→Value)→ae→Prop:=
 dT.rec (motive:=fun _=>aq→(Nat→Value)→ae→Prop)
  (fun K f h=>K .normal f h)
  (fun l K f h=>lL P l 0 [] [] (K .normal) f h)
  (fun g l K f h=>qw P g l (K .normal) f h)
  (fun _ _ ia ib K f h=>ia (aC (ib K) K) f h)
  (fun ls _ ic K f h=>ya (ic K) ls (ls.map f) h)
  (fun c _ _ ia ib K f h=>mX (ev f c) (ia K f h) (ib K f h))
  (fun id _ ic K f h=>ic (bz id K) f h)
  (fun ks ls _ ic K f h=>wT (ls.map f) h fun L xs hx=>ic (aC (fun f' aR=>ks.map f'=ks.map f∧L (ls.map f') aR) K) (jc (ks++ls) (ks.map f++xs)) hx)
  (fun id K f h=>K (.exit id) f h)
  (fun K f h=>K .ret f h)
  (fun g ls c K f h=>rA P (ev f g) ls (ls.map f) c h (K .normal f)) c

theorem aaz {P:Program} {c:Operand} {a b:dT} {K:aq} {f:Nat→Value} {h:ae}:gN P (.cond c a b) K f h=mX (ev f c) (gN P a K f h) (gN P b K f h):=rfl

def rQ (P:Program) (op:Op):Option fL:=
 match gJ P op with
 | some o=>some (.p o)
 | none=>match rO P op with
  | some o=>some (.l o)
  | none=>match gq P op with
   | some o=>some (.e o)
   | none=>match op with
    | .call { callee:=.value (.func f),args,.. }=>if pI P f then some (.call f args.toList) else none
    | .call { callee:=.value x,args,.. }=>some (.jx x args.toList)
    | _=>none

def Ey (N:Nat) (ops:Array Oper):Option (Nat×Bool)→Option (Option (Nat×Bool))
 | none=>some none
 | some (j,b)=>match (ops[j]?).bind (·.dst) with
  | some s=>if s<N then some (some (s,b)) else none
  | none=>none

def vk (P:Program) (N:Nat) (ops:Array Oper) (o:Oper):Option gI:=
 if o.op.operands.all hY&&o.dst.all (·<N) then
  match rQ P o.op,Ey N ops o.guard with
  | some op,some g=>some ⟨o.dst,op,g⟩
  | _,_=>none
 else none

def jL (P:Program) (N:Nat) (ops:Array Oper):List Oper→Option (List gI)
 | []=>some []
 | o::os=>match vk P N ops o,jL P N ops os with
  | some x,some xs=>some (x::xs)
  | _,_=>none

def nG.fR:nG→List Operand
 | .mv x | .un _ x | .conv _ x | .QO x | .N8 x | .N9 x | .L6 _ x | .L9 _ _ _ x | .Oq x | .ext x _=>[x]
 | .pick c a b=>[c,a,b]
 | .bin _ x y | .EK _ x y | .EL _ x y | .NR x y | .NP _ _ _ x y | .KK _ x y | .KJ _ _ x y=>[x,y]
 | .FV _=>[]
 | .BK _ xs=>xs
 | .Hr x lo hi=>x::(lo.toList++hi.toList)
 | .Ht _ _ x lo hi=>x::(lo.toList++hi.toList)
 | .fn _ first captured=>first++captured
 | .build _ parts=>parts.map (·.2.2)
 | .NQ f x c=>[.func f,x,c]

def mT.fR:mT→List Operand
 | .load _ _ a=>[a]
 | .uZ x=>[x]
 | .lookup _ _ m k=>[m,k]
 | .FX _ _ _ m k=>[m,k]
 | .FW _ _ _ m k=>[m,k]
 | .entry it=>[it]
 | .obj x=>[x]

def kl.fR:kl→List Operand
 | .alloc _ _=>[]
 | .kZ _ _ _ parts=>parts.map (·.2.2)
 | .make _ _ _ l c=>[l,c]
 | .mN _=>[]

def mR.fR:mR→List Operand
 | .fl a=>a.fR
 | .store _ a v=>[a,v]
 | .box _ x=>[x]
 | .alloc _ _=>[]
 | .kZ _ _ _ parts=>parts.map (·.2.2)
 | .make _ _ _ l c=>[l,c]
 | .app _ _ _ s x=>[s,x]
 | .mkMap=>[]
 | .F3 _=>[]
 | .die=>[]
 | .mN _=>[]
 | .Ol _ m k v=>[m,k,v]
 | .AF _ m k=>[m,k]
 | .Qs x=>[x]
 | .next it=>[it]
 | .Om _ m k v=>[m,k,v]
 | .Ok m k v=>[m,k,v]
 | .copy d s=>[d,s]

def fL.fR:fL→List Operand
 | .p o=>o.fR
 | .l o=>o.fR
 | .e o=>o.fR
 | .call _ args=>args
 | .jx x args=>x::args

def tmpsOf:List Operand→List Nat
 | []=>[]
 | .tmp t::xs=>t::tmpsOf xs
 | _::xs=>tmpsOf xs

def gI.reads (o:gI):List Nat:=(match o.guard with | some (s,_)=>[s] | none=>[])++tmpsOf o.op.fR

def sS (nz:List Nat):List Nat→Nat
 | []=>0
 | e::es=>(2^e ||| nz.getD e 0) ||| sS nz es

def ik:List (List Nat)→List Nat→List Nat
 | [],acc=>acc
 | es::r,acc=>ik r (acc++[sS acc es])

def rF (o:cD) (t:Nat):Bool:=o.op.dst==some t||o.op.reads.contains t

def zp (oj:cD) (j:Nat) (oi:cD) (i:Nat):Bool:=
 (i==j||(match oi.op.dst with
  | none=>true
  | some t=> !rF oj t||(if i<j then oj.pre.testBit i else oi.pre.testBit j)))&&
 (!(decide (i<j)&&oi.op.op.cW&&oj.op.op.cW)||oj.pre.testBit i)

def GN (l:List cD):Bool:=l.zipIdx.all fun (oj,j)=>l.zipIdx.all fun (oi,i)=>zp oj j oi i

def eD (o:Oper):List Nat:=o.after.toList.filterMap fun e=>if Region.binds .any e then some e.on else none

def u7 (ops:List Oper):Nat→Bool
 | i=>match ops with
  | []=>true
  | o::os=>(eD o).all (·<i)&&u7 os (i+1)

def mi:List gI→List Nat→List cD
 | o::os,p::ps=>⟨o,p⟩::mi os ps
 | _,_=>[]

def Lx (P:Program) (N:Nat) (ops:Array Oper):Option (List cD):=
 match jL P N ops ops.toList with
 | some ios=>
  if P.follows .mixedOrders&&u7 ops.toList 0&&GN (mi ios (ik (ops.toList.map eD) [])) then some (mi ios (ik (ops.toList.map eD) [])) else none
 | none=>none


def gy (o:cD):Bool:=match o.op.op with | .e (.fl _)=>true | _=>false

def Mb (l:List cD):List Nat:=
 l.zipIdx.filterMap fun (oi,i)=>
  if (match oi.op.op with | .e eo=>eo.HD.isSome | _=>false)&&oi.op.guard.isNone&&(l.zipIdx.any fun (oj,j)=>j != i&&oj.op.op.cW&& !(oi.pre.testBit j)&& !(oj.pre.testBit i)) then some i else none

def AP (o:gI):gI:=
 match o.op,o.guard with
 | .e eo,none=>match eo.HD with | some a=>⟨o.dst,.e (.fl a),none⟩ | none=>o
 | _,_=>o

def F0 (pre:Nat):List Nat→Nat→Nat
 | [],_=>0
 | i::is,q=>(if pre.testBit i then 2^q else 0) ||| F0 pre is (q+1)

def auO (l:List cD) (fl:List Nat):List Nat:=
 let inD:=fun i=>fl.contains i||fl.any fun a=>((l[a]?).map fun o=>o.pre.testBit i).getD false
 (List.range l.length).filter inD++(List.range l.length).filter fun i=> !inD i

def aaJ (l:List cD) (fl perm:List Nat):List cD:=
 perm.filterMap fun i=>(l[i]?).map fun o=>⟨if fl.contains i then AP o.op else o.op,F0 o.pre perm 0⟩

def EE:List Nat→Bool
 | []=>true
 | x::xs=> !(xs.contains x)&&EE xs

def zt (oj:cD) (j:Nat) (oi:cD) (i:Nat):Bool:=
 (i==j||(match oi.op.dst with
  | none=>true
  | some t=> !rF oj t||(if i<j then oj.pre.testBit i else oi.pre.testBit j)))&&
 (!(decide (i<j)&&oi.op.op.cW&&oj.op.op.cW&& !(gy oi)&& !(gy oj))||oj.pre.testBit i)

def rb (l:List cD):Nat:=l.length-((l.reverse.takeWhile fun o=> !(gy o)).length)

def okF (l:List cD) (perm:List Nat) (nz:List Nat):Bool:=
 l.length==nz.length&&perm.length==nz.length&&EE perm&&perm.all (·<nz.length)&&
 (l.zipIdx.all fun (oj,j)=>l.zipIdx.all fun (oi,i)=>zt oj j oi i)&&
 (l.zipIdx.all fun (o,q)=>if q<rb l then !(o.op.op.cW)||gy o else !(gy o))&&
 (l.zipIdx.all fun (o,q)=>(List.range nz.length).all fun k=>o.pre.testBit k==(nz.getD (perm.getD q 0) 0).testBit (perm.getD k 0))&&
 (l.zipIdx.all fun (o,_)=> !(gy o)||o.op.guard.isNone)

def Ex (P:Program) (N:Nat) (ops:Array Oper):Option (List cD×List Nat):=
 match jL P N ops ops.toList with
 | some ios=>
  let nz:=ik (ops.toList.map eD) []
  let l:=mi ios nz
  let fl:=Mb l
  let perm:=auO l fl
  let l':=aaJ l fl perm
  if P.follows .mixedOrders&&u7 ops.toList 0&&okF l' perm nz then some (l',perm) else none
 | none=>none

def Ly (P:Program) (N:Nat) (ops:Array Oper):Option (List cD):=
 match Lx P N ops with
 | some l=>some l
 | none=>(Ex P N ops).map Prod.fst

def qW:List gI→List (Option (Nat×Bool)×List gR)
 | []=>[]
 | o::os=>match qW os with
  | (g,l)::gs=>if o.guard=g then (g,⟨o.dst,o.op⟩::l)::gs else (o.guard,[⟨o.dst,o.op⟩])::(g,l)::gs
  | []=>[(o.guard,[⟨o.dst,o.op⟩])]

def leaves (g:Option (Nat×Bool)) (d:Option Nat):Bool:=
 match g with
 | some (s,_)=>d != some s
 | none=>true

def tH:List cD→List (Option (Nat×Bool)×List iU)
 | []=>[]
 | o::os=>match tH os with
  | (g,l)::gs=>if o.op.guard=g then (g,⟨o.op.dst,o.op.op,o.pre⟩::l)::gs else (o.op.guard,[⟨o.op.dst,o.op.op,o.pre⟩])::(g,l)::gs
  | []=>[(o.op.guard,[⟨o.op.dst,o.op.op,o.pre⟩])]

abbrev Hints:=List (List Nat)

def tF (ls:List Nat) (c:dT):dT:=
 match ls with
 | []=>c
 | l::ls=>.cut (l::ls) c

def ow:List (Option (Nat×Bool)×List gR)→Hints→dT×Hints
 | [],hs=>(.skip,hs)
 | (g,l)::gs,hs=>
  match gs,hs with
  | [],hs=>(.ops g l,hs)
  | gs,h::hs=>let r:=ow gs hs;(.seq (.ops g l) (tF h r.1),r.2)
  | gs,[]=>let r:=ow gs [];(.seq (.ops g l) r.1,r.2)

def eC (P:Program) (N:Nat):Code→Hints→Option (dT×Hints)
 | .skip,hs=>some (.skip,hs)
 | .region _ ops false,hs=>
  match jL P N ops ops.toList with
  | some l=>if l.all fun o=>leaves o.guard o.dst then some (ow (qW l) hs) else none
  | none=>some (.ops none [⟨none,.e .die⟩],hs)
 | .region _ ops true,hs=>
  match Ly P N ops with
  | some l=>if l.all fun o=>leaves o.op.guard o.op.dst then some (.EF (tH l),hs) else none
  | none=>none
 | .seq a b,hs=>
  match eC P N a hs with
  | some (x,h::hs)=>match eC P N b hs with
   | some (y,hs)=>some (.seq x (tF h y),hs)
   | none=>none
  | some (x,[])=>match eC P N b [] with
   | some (y,hs)=>some (.seq x y,hs)
   | none=>none
  | none=>none
 | .cond c a b,hs=>if hY c then match eC P N a hs with
  | some (x,hs)=>match eC P N b hs with
   | some (y,hs)=>some (.cond c x y,hs)
   | none=>none
  | none=>none
  else none
 | .block id c,hs=>match eC P N c hs with
  | some (x,hs)=>some (.block id x,hs)
  | none=>none
 | .loop c,hs=>
  match hs with
  | ks::ls::hs=>match eC P N c hs with
   | some (x,hs)=>some (.loop ks ls x,hs)
   | none=>none
  | _=>none
 | .exit id,hs=>some (.exit id,hs)
 | .ret,hs=>some (.ret,hs)
 | .rangeFunc g ps iW body,hs=>
  match hs with
  | ls::hs=>if hY g&&ps.all (·<N) then some (.range g ls ⟨N,ps,iW,body⟩,hs) else none
  | []=>none
 | _,_=>none

def gh:Code→Bool
 | .seq a b=>gh a&&gh b
 | .cond _ a b=>gh a&&gh b
 | .block _ c=>gh c
 | .loop c=>gh c
 | .rangeFunc .. =>false
 | _=>true

section
variable {P : Program} {N : Nat}

def uQ (P:Program) (N B:Nat) (ρ:aI) (h:ae) (w:World) (e:Exit) (f':Nat→Value) (h':ae):Exit→Act→World→Prop:=
 fun e' a' w'=>e'=e∧∃ar,Rel P N B ar f' h' a' w'∧Tr ρ h w ar h' w'

def fE (P:Program) (N:Nat) (out:Bool) (c:Code) (f:Nat→Value) (h:ae) (e:Exit) (f':Nat→Value) (h':ae):Prop:=
 ∀R,(out=true→R=none)→∀B ρ a w,Rel P N B ρ f h a w→c.wpIn (FR R) 0 P (uQ P N B ρ h w e f' h') a w

def C6 (P:Program) (N:Nat) (o:Oper) (f:Nat→Value) (h:ae) (v:Value) (h':ae):Prop:=
 ∀R B ρ a w,Rel P N B ρ f h a w→∀(next:Act→World→Prop) (Q:Exit→Act→World→Prop),
  (∀ar v' w',av ar v v'→aU P ar h' w'→Tr ρ h w ar h' w'→next (a.put o.dst v') w')→o.wpIn (FR R) 0 P a w next Q

theorem Hl {o:Oper} (hn:∀c,o.op≠ .defer c) (R:Option Nat) (g:Operand→Value):o.semAt R g=execOp g o:=by
 cases R with
 | none=>rfl
 | some l=>exact Oper.semAt_some l g o hn

theorem HP {R:Option Nat} {o:Oper} {a:Act} {w w':World} {next:Act→World→Prop} {Q:Exit→Act→World→Prop} {v:Value} (hn:∀c,o.op≠ .defer c)
  (he:(execOp a.eval o).run P w=.ok (.value v) w') (hk:next (a.put o.dst v) w'):o.wpIn (FR R) 0 P a w next Q:=by
 refine ⟨fun _ _=>trivial,?_⟩
 rw [Hl hn,he,Oper.uponIn_value]
 exact hk

theorem azQ {R:Option Nat} {o:Oper} {a:Act} {w w':World} {next:Act→World→Prop} {Q:Exit→Act→World→Prop} (hn:∀c,o.op≠ .defer c)
  (he:(execOp a.eval o).run P w=.ok .skip w') (hk:next (a.put o.dst undef) w'):o.wpIn (FR R) 0 P a w next Q:=by
 refine ⟨fun _ _=>trivial,?_⟩
 rw [Hl hn,he,Oper.uponIn_skip]
 exact hk

theorem XO {f:FuncId} {args:Array Value} {w:World} {K:Ending→World→Prop} (h:Calls P f args w K) (R:Option Nat) (n:Nat):CallsIn (FR R) n P f args w K:=by
 cases R with
 | none=>exact callsIn_wide.2 h
 | some l=>exact (callsIn_wide (n:=n)).2 h

theorem ayj {l:Nat} {f:FuncId} {tmps:Array Value} {iW body:Code} {w:World} {K:Ending→World→Prop} (h:RoundIn Fence.wide 0 P l f tmps iW body w K) (R:Option Nat):
  RoundIn (FR R) 0 P l f tmps iW body w K:=h

theorem Ls {f:FuncId} (h:pI P f=true) (args:Array Value) (w:World):(callFunc f args).run P w=.ok (.enter f args) w:=by
 unfold pI at h
 split at h
 ·rename_i fn hf
  simp only [Bool.and_eq_true,bne_iff_ne] at h
  obtain ⟨h1,h2⟩:=h
  have h3:fn.body≠none:=by
   intro hb
   simp [hb] at h2
  simp [callFunc,hf,h1,h3]
 ·cases h

theorem ac8 {o:Oper} {f:Nat→Value} {h:ae} {g:FuncId} {args:List Value} {v:Value} {h':ae} (hc:tn P g args h v h')
  (hd:∀c,o.op≠ .defer c)
  (he:∀B ρ a w,Rel P N B ρ f h a w→∃args':Array Value,bn ρ args args'.toList∧(execOp a.eval o).run P w=.ok (.enter g args') w):C6 P N o f h v h':=by
 intro r B ρ a w R next Q hn
 obtain ⟨args',hv,hr⟩:=he B ρ a w R
 refine ⟨fun _ _=>trivial,?_⟩
 rw [Hl hd,hr,Oper.uponIn_enter]
 refine ⟨fun h=>(by cases h),?_⟩
 refine (XO (hc ρ args' w hv R.heap) r _).mono ?_
 rintro e w' ⟨v',ar,rfl,h1,h2,h3⟩
 exact hn ar v' w' h1 h2 h3

theorem auB {o:Oper} {f:Nat→Value} {h:ae} {i:Nat} {args:List Value} {v:Value} {h':ae} (hc:Ir P i args h v h')
  (hd:∀c,o.op≠ .defer c)
  (he:∀B ρ a w,Rel P N B ρ f h a w→∃(r:RI) (args':Array Value),ρ i=some r∧bn ρ args args'.toList∧(execOp a.eval o).run P w=(Instr.yield r.bm args').run P w):C6 P N o f h v h':=by
 intro R' B ρ a w R next Q hn
 obtain ⟨r,args',hi,hv,hr⟩:=he B ρ a w R
 obtain ⟨fn,tmps,iW,body,e1,e2⟩:=hc ρ r args' w hi hv R.heap
 refine ⟨fun _ _=>trivial,?_⟩
 rw [Hl hd,hr,e1,Oper.uponIn_round]
 refine ⟨fun h=>(by cases h),?_⟩
 refine (ayj e2 R').mono ?_
 rintro e w' ⟨v',ar,rfl,h1,h2,h3⟩
 exact hn ar v' w' h1 h2 h3

theorem XS {op:Op} {io:fL} (h:rQ P op=some io):∀c,op≠ .defer c:=by
 rintro c rfl
 simp [rQ,gJ,rO,gq] at h

theorem LB {op:Op} {io:fL} (h:rQ P op=some io):(∃o,io=.p o∧gJ P op=some o)∨(∃o,io=.l o∧rO P op=some o)∨(∃o,io=.e o∧gq P op=some o)∨
  (∃f args at_,op=.call ⟨.value (.func f),args,at_⟩∧pI P f=true∧io=.call f args.toList)∨(∃x args at_,op=.call ⟨.value x,args,at_⟩∧io=.jx x args.toList):=by
 unfold rQ at h
 split at h
 ·rename_i o ho;simp at h;exact .inl ⟨o,h.symm,ho⟩
 ·split at h
  ·rename_i o ho;simp at h;exact .inr (.inl ⟨o,h.symm,ho⟩)
  ·split at h
   ·rename_i o ho;simp at h;exact .inr (.inr (.inl ⟨o,h.symm,ho⟩))
   ·split at h
    ·split at h
     ·rename_i hc;simp at h;exact .inr (.inr (.inr (.inl ⟨_,_,_,rfl,hc,h.symm⟩)))
     ·cases h
    ·simp at h;exact .inr (.inr (.inr (.inr ⟨_,_,_,rfl,h.symm⟩)))
    ·cases h

theorem w7 {o:Oper} {io:fL} {f:Nat→Value} {h:ae} {K:Value→ae→Prop} (hc:rQ P o.op=some io) (aA:o.op.operands.all hY=true) (hs:cL P io f h K):
  ∃v h',C6 P N o f h v h'∧K v h':=by
 have ng:=XS hc
 rcases LB hc with ⟨po,rfl,hp⟩ | ⟨lo,rfl,hl⟩ | ⟨eo,rfl,he⟩ | ⟨g,args,at_,ho,kr,rfl⟩ | ⟨x,args,at_,ho,rfl⟩
 ·simp only [cL,eK] at hs
  split at hs
  ·rename_i v hv
   refine ⟨v,h,?_,hs⟩
   intro _ B ρ a w R next Q hn
   obtain ⟨v',h1,h2⟩:=auX w hp aA R.heap.aV (fun x hx=>R.ev hx) hv
   exact HP ng h1 (hn ρ v' w h2 R.heap (Tr.refl R.heap))
  ·exact hs.elim
 ·simp only [cL,eK] at hs
  split at hs
  ·rename_i v hv
   refine ⟨v,h,?_,hs⟩
   intro _ B ρ a w R next Q hn
   obtain ⟨v',h1,h2⟩:=at9 hl aA R.heap (fun x hx=>R.ev hx) hv
   exact HP ng h1 (hn ρ v' w h2 R.heap (Tr.refl R.heap))
  ·exact hs.elim
 ·simp only [cL,lh] at hs
  split at hs
  ·rename_i v h' hv
   refine ⟨v,h',?_,hs⟩
   intro _ B ρ a w R next Q hn
   obtain ⟨nx,w',ar,v',e1,e2,e3,e4,e5⟩:=aqN he aA R.heap (fun x hx=>R.ev hx) hv
   rcases e2 with rfl | ⟨rfl,rfl⟩
   ·exact HP ng e1 (hn ar v' w' e3 e4 e5)
   ·exact azQ ng e1 (hn ar undef w' e3 e4 e5)
  ·exact hs.elim
 ·obtain ⟨v,h',oO,hk⟩:=hs
  refine ⟨v,h',ac8 oO ng ?_,hk⟩
  intro B ρ a w R
  rw [ho] at aA
  simp [Op.operands,Call.operands] at aA
  refine ⟨args.map a.eval,by simpa using bn.wX (fun x hx=>R.ev hx) (xs:=args.toList) (by simpa using aA.2),?_⟩
  simp [execOp,ho,resolve,Act.eval,Deferred.ofValue,invoke,Ls kr]
 ·simp only [cL,qO] at hs
  rw [ho] at aA
  simp [Op.operands,Call.operands] at aA
  split at hs
  ·rename_i g first cap hx
   obtain ⟨kr,v,h',oO,hk⟩:=hs
   refine ⟨v,h',ac8 oO ng ?_,hk⟩
   intro B ρ a w R
   have hr:=R.ev (x:=x) aA.1
   rw [hx] at hr
   generalize hy:a.eval x=y at hr
   cases hr with
   | func _ s1 s2 r1 r2=>
    rename_i L8 Eu
    refine ⟨L8++args.map a.eval++Eu,?_,?_⟩
    ·have q1:=bn.qC s1 r1
     have q2:=bn.wX (fun x hx=>R.ev hx) (xs:=args.toList) (by simpa using aA.2)
     have q3:=bn.qC s2 r2
     simpa using (q1.append q2).append q3
    ·simp [execOp,ho,resolve,hy,Deferred.ofValue,invoke,Ls kr]
  ·rename_i i first cap hx
   obtain ⟨⟨rfl,rfl⟩,v,h',oO,hk⟩:=hs
   refine ⟨v,h',auB oO ng ?_,hk⟩
   intro B ρ a w R
   have hr:=R.ev (x:=x) aA.1
   rw [hx] at hr
   generalize hy:a.eval x=y at hr
   cases hr with
   | yield hi=>
    rename_i r
    refine ⟨r,args.map a.eval,hi,by simpa using bn.wX (fun x hx=>R.ev hx) (xs:=args.toList) (by simpa using aA.2),?_⟩
    simp [execOp,ho,resolve,hy,Deferred.ofValue,invoke]
  ·exact hs.elim

end
end Go.Sim

