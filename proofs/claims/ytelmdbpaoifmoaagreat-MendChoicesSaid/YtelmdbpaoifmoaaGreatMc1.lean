/-
  Part 1 of the texts behind a statement of this seat: Sim1, Sim2, Sim3, Sim4, Sim5, Sim6, Sim7, Sim8, Sim7d, Sim9, Sim9g, Sim10, Sim11, Sim12, Sim13, Sim14.
-/
import Derived.WalkKit
import Derived.Laws.Append
import Derived.Laws.AppendOwn
import Derived.Laws.MakeOwn
import Derived.Laws.BytesString
import Derived.RangeFuncRecord
import Derived.Lib.Bytealg
import Derived.WalkSpells
import Derived.WideKeyArr
import Derived.MapKept
import Derived.Laws.CopyRow
import Derived.Laws.IdiomCopy
namespace Go.Sim

structure RI where
 bj:Nat
 sh:Nat
 elem:TypeId
 aV:Nat
 size:Nat

abbrev aF:=Nat→Option RI

structure Ai where
 N:Nat
 ps:Array Tmp
 jc:Code
 body:Code

inductive fx where
 | int (k:IntKind)
 | str
 | ints (n:Nat) (k:IntKind)
 deriving DecidableEq

def jM (k:IntKind):Value→Bool
 | .int k' _=>decide (k'=k)
 | _=>false

def On (k:IntKind):Value→Bool
 | .int _ n=>decide (k.min≤n)&&decide (n≤k.max)
 | _=>false

def ep:fx→Value→Bool
 | .int k,v=>jM k v
 | .str,.string _=>true
 | .ints n k,.agg cs=>decide (cs.size=n)&&cs.toList.all fun v=>jM k v&&On k v
 | _,_=>false

inductive aq where
 | ro (e:TypeId) (xs:List Value)
 | arr (e:TypeId) (xs:List Value)
 | smap (es:List (ByteArray×Value))
 | jw (kd:IntKind) (es:List (Int×Value))
 | dQ (g:fx) (clock:Nat) (es:List (Nat×Value×Value))
 | iter (m since:Nat) (seen:List Nat) (last:Nat)
 | loop (c:Ai) (ls:List Nat) (vs:List Value)
 | dead

abbrev ae:=List aq

abbrev bot:Value:=.complex .f32 0 0

def ji:List Nat→List Value→Nat→Value
 | l::ls,v::vs,j=>match Nat.beq j l with | true=>v | false=>ji ls vs j
 | _,_,_=>bot

theorem avg (l:Nat) (ls:List Nat) (v:Value) (vs:List Value) (j:Nat):ji (l::ls) (v::vs) j=if j=l then v else ji ls vs j:=by
 show (match Nat.beq j l with | true=>v | false=>ji ls vs j)=_
 split
 ·rename_i h;rw [if_pos (Nat.eq_of_beq_eq_true h)]
 ·rename_i h;rw [if_neg (Nat.ne_of_beq_eq_false h)]

def eL:Value→Bool
 | .agg _ | .tuple _ | .complex _ _ _=>false
 | _=>true

inductive aw (ρ:aF):Value→Value→Prop
 | bool (b:Bool):aw ρ (.bool b) (.bool b)
 | int (k:IntKind) (n:Int):aw ρ (.int k n) (.int k n)
 | string (s:ByteArray):aw ρ (.string s) (.string s)
 | rP:aw ρ (.pointer none) (.pointer none)
 | nG:aw ρ (.slice none 0 0) (.slice none 0 0)
 | rO:aw ρ (.map none) (.map none)
 | nilFunc:aw ρ .nilFunc .nilFunc
 | nilIface:aw ρ .nilIface .nilIface
 | ptr {i o:Nat} {r:RI}:ρ i=some r→aw ρ (.pointer (some ⟨i,o,none⟩)) (.pointer (some ⟨r.bj,r.sh+o,none⟩))
 | slice {i o n o' c':Nat} {r:RI}:ρ i=some r→(o'=r.sh+o∨(n=0∧0<o∧c'=0))→n≤c'→c'≤maxLen→o'+c'*r.aV≤r.size→
   aw ρ (.slice (some ⟨i,o,some r.elem⟩) n n) (.slice (some ⟨r.bj,o',none⟩) n c')
 | void (a:Addr):aw ρ (.slice none 0 1) (.slice (some a) 0 0)
 | map {i:Nat} {r:RI}:ρ i=some r→aw ρ (.map (some i)) (.map (some r.bj))
 | func (f:FuncId) {xs ys eC xD:Array Value}:xs.size=eC.size→ys.size=xD.size→
   (∀(k:Nat) (x x':Value),xs[k]?=some x→eC[k]?=some x'→aw ρ x x')→
   (∀(k:Nat) (x x':Value),ys[k]?=some x→xD[k]?=some x'→aw ρ x x')→aw ρ (.func (.func f) xs ys) (.func (.func f) eC xD)
 | yield {i:Nat} {r:RI}:ρ i=some r→aw ρ (.func (.yield i) #[] #[]) (.func (.yield r.bj) #[] #[])
 | agg {xs eC:Array Value}:xs.size=eC.size→(∀x∈xs.toList,eL x=true)→(∀(k:Nat) (x x':Value),xs[k]?=some x→eC[k]?=some x'→aw ρ x x')→aw ρ (.agg xs) (.agg eC)
 | any (v:Value):aw ρ (.complex .f32 0 0) v
 | tuple {xs eC:Array Value}:xs.size=eC.size→(∀(k:Nat) (x x':Value),xs[k]?=some x→eC[k]?=some x'→aw ρ x x')→aw ρ (.tuple xs) (.tuple eC)

def aF.le (ρ au:aF):Prop:=∀i r,ρ i=some r→au i=some r

theorem aF.le.refl (ρ:aF):ρ.le ρ:=fun _ _ h=>h
theorem aF.le.trans {a b c:aF} (h:a.le b) (k:b.le c):a.le c:=fun i r e=>k i r (h i r e)

theorem aw.mono {ρ au:aF} (h:ρ.le au) {v v':Value} (hv:aw ρ v v'):aw au v v':=by
 induction hv with
 | bool b=>exact .bool b
 | int k n=>exact .int k n
 | string s=>exact .string s
 | rP=>exact .rP
 | nG=>exact .nG
 | rO=>exact .rO
 | nilFunc=>exact .nilFunc
 | nilIface=>exact .nilIface
 | ptr hi=>exact .ptr (h _ _ hi)
 | slice hi a b c d=>exact .slice (h _ _ hi) a b c d
 | void a=>exact .void a
 | map hi=>exact .map (h _ _ hi)
 | func f a b _ _ Ol Om=>exact .func f a b (fun k x x' e e'=>Ol k x x' e e') (fun k x x' e e'=>Om k x x' e e')
 | yield hi=>exact .yield (h _ _ hi)
 | agg a b _ ih=>exact .agg a b (fun k x x' e e'=>ih k x x' e e')
 | any v=>exact .any v
 | tuple a _ ih=>exact .tuple a (fun k x x' e e'=>ih k x x' e e')

theorem aw.undef (ρ:aF):aw ρ undef undef:=.tuple rfl (fun k x x' e e'=>by simp at e)

inductive bn (ρ:aF):List Value→List Value→Prop
 | nil:bn ρ [] []
 | cons {x y:Value} {xs ys:List Value}:aw ρ x y→bn ρ xs ys→bn ρ (x::xs) (y::ys)

theorem bn.mono {ρ au:aF} (h:ρ.le au) {xs ys:List Value} (hv:bn ρ xs ys):bn au xs ys:=by
 induction hv with
 | nil=>exact .nil
 | cons a _ ih=>exact .cons (a.mono h) ih

theorem bn.length {ρ:aF} {xs ys:List Value} (hv:bn ρ xs ys):xs.length=ys.length:=by
 induction hv with
 | nil=>rfl
 | cons _ _ ih=>simp [ih]

theorem bn.get {ρ:aF} {xs ys:List Value} (hv:bn ρ xs ys):∀{k:Nat} {x:Value},xs[k]?=some x→∃y,ys[k]?=some y∧aw ρ x y:=by
 induction hv with
 | nil=>intro k x h;simp at h
 | cons a _ ih=>
  intro k x h
  cases k with
  | zero=>simp at h;subst h;exact ⟨_,by simp,a⟩
  | succ k=>simp at h;obtain ⟨y,hy,hr⟩:=ih h;exact ⟨y,by simpa using hy,hr⟩

theorem bn.append {ρ:aF} {xs ys eC xD:List Value} (h:bn ρ xs ys) (h':bn ρ eC xD):bn ρ (xs++eC) (ys++xD):=by
 induction h with
 | nil=>exact h'
 | cons a _ ih=>exact .cons a ih

theorem bn.Gv {ρ:aF}:∀{xs ys:List Value},xs.length=ys.length→(∀(k:Nat) (x y:Value),xs[k]?=some x→ys[k]?=some y→aw ρ x y)→bn ρ xs ys
 | [],[],_,_=>.nil
 | x::xs,y::ys,hl,h=>.cons (h 0 x y rfl rfl) (bn.Gv (by simpa using hl) fun k a b ha hb=>h (k+1) a b (by simpa using ha) (by simpa using hb))

theorem bn.take {ρ:aF} {xs ys:List Value} (h:bn ρ xs ys):∀n,bn ρ (xs.take n) (ys.take n):=by
 induction h with
 | nil=>intro n;simp;exact .nil
 | cons a _ ih=>intro n;cases n with
  | zero=>exact .nil
  | succ n=>exact .cons a (ih n)

theorem bn.drop {ρ:aF} {xs ys:List Value} (h:bn ρ xs ys):∀n,bn ρ (xs.drop n) (ys.drop n):=by
 induction h with
 | nil=>intro n;simp;exact .nil
 | cons a b ih=>intro n;cases n with
  | zero=>exact .cons a b
  | succ n=>exact ih n

theorem bn.set {ρ:aF} {xs ys:List Value} (h:bn ρ xs ys) {v v':Value} (hv:aw ρ v v'):∀n,bn ρ (xs.set n v) (ys.set n v'):=by
 induction h with
 | nil=>intro n;simp;exact .nil
 | cons a b ih=>intro n;cases n with
  | zero=>exact .cons hv b
  | succ n=>exact .cons a (ih n)

theorem bn.qU {ρ:aF} {xs eC:Array Value} (hs:xs.size=eC.size) (h:∀(k:Nat) (x x':Value),xs[k]?=some x→eC[k]?=some x'→aw ρ x x'):bn ρ xs.toList eC.toList:=
 bn.Gv (by simpa using hs) fun k x y hx hy=>h k x y (by simpa using hx) (by simpa using hy)

theorem bn.ofList {ρ:aF} {xs eC:List Value} (h:bn ρ xs eC):∀(k:Nat) (x x':Value),xs.toArray[k]?=some x→eC.toArray[k]?=some x'→aw ρ x x':=by
 intro k x x' hx bG
 obtain ⟨y,hy,hr⟩:=h.get (k:=k) (x:=x) (by simpa using hx)
 simp at bG
 rw [hy] at bG
 cases bG
 exact hr

theorem aw.An {ρ:aF} {xs eC:List Value} (h:bn ρ xs eC) (h1:∀x∈xs,eL x=true):aw ρ (.agg xs.toArray) (.agg eC.toArray):=.agg (by simpa using h.length) (by simpa using h1) h.ofList
theorem aw.pO {ρ:aF} {xs eC:List Value} (h:bn ρ xs eC):aw ρ (.tuple xs.toArray) (.tuple eC.toArray):=.tuple (by simpa using h.length) h.ofList

def cZ (v:Value):List Value:=v.cells.toList

def gS:Value→Bool
 | .tuple _ | .complex _ _ _=>false
 | _=>true

theorem aw.cells {ρ:aF} {v v':Value} (h:aw ρ v v') (hn:gS v=true):bn ρ (cZ v) (cZ v'):=by
 cases h with
 | any _=>simp [gS] at hn
 | agg hs _ h=>exact bn.qU hs h
 | bool b=>exact .cons (.bool b) .nil
 | int k n=>exact .cons (.int k n) .nil
 | string s=>exact .cons (.string s) .nil
 | rP=>exact .cons .rP .nil
 | nG=>exact .cons .nG .nil
 | rO=>exact .cons .rO .nil
 | nilFunc=>exact .cons .nilFunc .nil
 | nilIface=>exact .cons .nilIface .nil
 | ptr hi=>exact .cons (.ptr hi) .nil
 | slice hi a b c d=>exact .cons (.slice hi a b c d) .nil
 | void a=>exact .cons (.void a) .nil
 | map hi=>exact .cons (.map hi) .nil
 | func f a b c d=>exact .cons (.func f a b c d) .nil
 | yield hi=>exact .cons (.yield hi) .nil
 | tuple a b=>simp [gS] at hn

def isLive (h:ae) (i:Nat):Prop:=∃o,h[i]?=some o∧o≠ .dead
def cf (h:ae) (i:Nat):Prop:=(∃e xs,h[i]?=some (.arr e xs))∨(∃es,h[i]?=some (.smap es))∨(∃c ls vs,h[i]?=some (.loop c ls vs))∨(∃kd es,h[i]?=some (.jw kd es))∨(∃g c es,h[i]?=some (.dQ g c es))∨(∃m s n l,h[i]?=some (.iter m s n l))

theorem cf.live {h:ae} {i:Nat} (hm:cf h i):isLive h i:=by
 rcases hm with ⟨e,xs,hm⟩ | ⟨es,hm⟩ | ⟨c,ls,vs,hm⟩ | ⟨kd,es,hm⟩ | ⟨g,c,es,hm⟩ | ⟨m,s,n,l,hm⟩
 ·exact ⟨_,hm,by simp⟩
 ·exact ⟨_,hm,by simp⟩
 ·exact ⟨_,hm,by simp⟩
 ·exact ⟨_,hm,by simp⟩
 ·exact ⟨_,hm,by simp⟩
 ·exact ⟨_,hm,by simp⟩

def fw (ρ:aF) (c:Array Value) (sh:Nat) (xs:List Value):Prop:=∀(j:Nat) (x:Value),xs[j]?=some x→eL x=true∧∃y,c[sh+j]?=some y∧aw ρ x y

theorem aw.B1 {ρ:aF} {v v':Value} (h:aw ρ v v') (hc:eL v=true):v'.oneCell'=true:=by
 cases h <;> first | rfl | simp [eL] at hc

theorem bn.B1 {ρ:aF} {xs ys:List Value} (h:bn ρ xs ys) (h1:∀x∈xs,eL x=true):∀y∈ys,y.oneCell'=true:=by
 induction h with
 | nil=>intro y hy;simp at hy
 | cons a _ ih=>
  intro y hy
  rcases List.mem_cons.1 hy with rfl | hy
  ·exact a.B1 (h1 _ (by simp))
  ·exact ih (fun x hx=>h1 x (by simp [hx])) y hy

theorem aw.EN {ρ:aF} {v v':Value} (h:aw ρ v v') (ht:gS v=true):∀x∈cZ v,eL x=true:=by
 cases h with
 | agg hs h1 h=>exact h1
 | tuple _ _=>simp [gS] at ht
 | any _=>simp [gS] at ht
 | _=>intro x hx;simp [cZ,Value.cells] at hx;subst hx;rfl

theorem fw.of {ρ:aF} {xs:List Value} {c:Array Value} (h:bn ρ xs c.toList) (h1:∀x∈xs,eL x=true):fw ρ c 0 xs:=by
 intro j x hj
 obtain ⟨y,hy,hr⟩:=h.get hj
 exact ⟨h1 x (List.mem_of_getElem? hj),y,by simpa using hy,hr⟩

def jO (ρ:aF) (w:World) (r:RI):aq→Prop
 | .ro e xs=>r.elem=e∧∃c t fr,w.heap[r.bj]?=some (.cells c t fr)∧c.size=r.size∧fw ρ c r.sh xs
 | .arr e xs=>r.elem=e∧r.sh=0∧∃c,w.heap[r.bj]?=some (.cells c e (0,0))∧c.size=r.size∧fw ρ c 0 xs
 | .smap es=>∃aJ clock,w.heap[r.bj]?=some (.map aJ clock)∧aJ.size=es.length∧
   ∀(j:Nat) (k:ByteArray) (v:Value),es[j]?=some (k,v)→∃en,aJ[j]?=some en∧en.key=.string k∧aw ρ v en.val
 | .jw kd es=>∃aJ clock,w.heap[r.bj]?=some (.map aJ clock)∧aJ.size=es.length∧
   ∀(j:Nat) (k:Int) (v:Value),es[j]?=some (k,v)→∃en,aJ[j]?=some en∧en.key=.int kd k∧aw ρ v en.val
 | .dQ g clock es=>(es.map fun e=>e.2.1).Nodup∧∃aJ,w.heap[r.bj]?=some (.map aJ clock)∧aJ.size=es.length∧
   ∀(j b:Nat) (k v:Value),es[j]?=some (b,k,v)→ep g k=true∧∃en,aJ[j]?=some en∧en.key=k∧en.born=b∧aw ρ v en.val
 | .iter m since seen last=>r.sh=0∧∃rm,ρ m=some rm∧w.heap[r.bj]?=some (.mapIter (some rm.bj) since seen.toArray last)
 | .loop c ls vs=>∃rec,w.heap[r.bj]?=some (.loop rec)∧rec.state=.ready∧rec.pending=none∧rec.assign=c.jc∧rec.body=c.body∧rec.params=c.ps∧rec.tmps.size=c.N∧
   ∀t,aw ρ (ji ls vs t) (rec.tmps.getD t Go.undef)
 | .dead=>True

structure aT (P:Program) (ρ:aF) (h:ae) (w:World):Prop where
 obj:∀i r,ρ i=some r→∃o,h[i]?=some o∧jO ρ w r o
 inj:∀i j r s,ρ i=some r→ρ j=some s→r.bj=s.bj→cf h i→isLive h j→i=j
 aV:∀i r,ρ i=some r→r.aV=P.cellsOf r.elem

theorem aT.lt {P:Program} {ρ:aF} {h:ae} {w:World} (H:aT P ρ h w) {i:Nat} {r:RI} (hi:ρ i=some r):i<h.length:=by
 obtain ⟨o,ho,_⟩:=H.obj i r hi
 exact (List.getElem?_eq_some_iff.1 ho).1

structure Tr (ρ:aF) (h:ae) (w:World) (au:aF) (h':ae) (w':World):Prop where
 ext:ρ.le au
 len:h.length≤h'.length
 iB:∀i r,ρ i=some r→i<h.length
 kinds:∀i,i<h.length→cf h' i→cf h i
 fresh:∀i r,au i=some r→ρ i=none→h.length≤i∧(w.heap.size≤r.bj∨∃j s,ρ j=some s∧s.bj=r.bj∧cf h j)
 gI:w.heap.size≤w'.heap.size
 gf:∀b,b<w.heap.size→(∀j s,ρ j=some s→s.bj=b→¬cf h j)→w'.heap[b]?=w.heap[b]?
 os:w'.os=w.os
 tape:w'.tape=w.tape
 output:w'.output=w.output

theorem Tr.refl {P:Program} {ρ:aF} {h:ae} {w:World} (H:aT P ρ h w):Tr ρ h w ρ h w where
 ext:=.refl _
 len:=Nat.le_refl _
 iB:=fun _ _ hi=>H.lt hi
 kinds:=fun _ _ h=>h
 fresh:=fun i r h1 h2=>by rw [h1] at h2;cases h2
 gI:=Nat.le_refl _
 gf:=fun _ _ _=>rfl
 os:=rfl
 tape:=rfl
 output:=rfl

theorem Tr.trans {kY RO aiB:aF} {h₁ aaE FY:ae} {mB Ij aik:World} (a:Tr kY h₁ mB RO aaE Ij) (b:Tr RO aaE Ij aiB FY aik):Tr kY h₁ mB aiB FY aik where
 ext:=a.ext.trans b.ext
 len:=Nat.le_trans a.len b.len
 iB:=a.iB
 kinds:=fun i hi hm=>a.kinds i hi (b.kinds i (Nat.lt_of_lt_of_le hi a.len) hm)
 fresh:=by
  intro i r h3 h1
  cases h2:RO i with
  | some r2=>
   have:=b.ext i r2 h2
   rw [h3] at this
   cases this
   exact a.fresh i r h2 h1
  | none=>
   obtain ⟨hl,hb⟩:=b.fresh i r h3 h2
   refine ⟨Nat.le_trans a.len hl,?_⟩
   rcases hb with hb | ⟨j,s,hj,hs,hm⟩
   ·exact .inl (Nat.le_trans a.gI hb)
   ·cases sF:kY j with
    | some s'=>
     have:=a.ext j s' sF
     rw [hj] at this
     cases this
     exact .inr ⟨j,s,sF,hs,a.kinds j (a.iB j s sF) hm⟩
    | none=>
     obtain ⟨_,h⟩:=a.fresh j s hj sF
     rw [hs] at h
     rcases h with h | ⟨j',s',q1,q2,q3⟩
     ·exact .inl h
     ·exact .inr ⟨j',s',q1,q2,q3⟩
 gI:=Nat.le_trans a.gI b.gI
 gf:=by
  intro k hk cW
  rw [b.gf k (Nat.lt_of_lt_of_le hk a.gI) ?_,a.gf k hk cW]
  intro j s hj hs hm
  cases sF:kY j with
  | some s'=>
   have:=a.ext j s' sF
   rw [hj] at this
   cases this
   exact cW j s sF hs (a.kinds j (a.iB j s sF) hm)
  | none=>
   obtain ⟨_,h⟩:=a.fresh j s hj sF
   rcases h with h | ⟨j',s',q1,q2,q3⟩
   ·omega
   ·exact cW j' s' q1 (by omega) q3
 os:=b.os.trans a.os
 tape:=b.tape.trans a.tape
 output:=b.output.trans a.output

theorem aT.drew {P:Program} {ρ:aF} {h:ae} {w:World} (H:aT P ρ h w) (n:Nat):aT P ρ h { w with drawn:=n }:=
 ⟨fun i r hi=>let ⟨o,ho,hr⟩:=H.obj i r hi;⟨o,ho,by cases o <;> exact hr⟩,H.inj,H.aV⟩

theorem Tr.drew {P:Program} {ρ:aF} {h:ae} {w:World} (H:aT P ρ h w) (n:Nat):Tr ρ h w ρ h { w with drawn:=n } where
 ext:=.refl _
 len:=Nat.le_refl _
 iB:=fun _ _ hi=>H.lt hi
 kinds:=fun _ _ h=>h
 fresh:=fun i r h1 h2=>by rw [h1] at h2;cases h2
 gI:=Nat.le_refl _
 gf:=fun _ _ _=>rfl
 os:=rfl
 tape:=rfl
 output:=rfl

def mark (D:Nat):Deferred:={ target:=.collected D,args:=#[] }

def marks (B:Nat):List Deferred→World→Prop
 | [],w=>B≤w.heap.size
 | d::ds,w=>(∃D,d=mark D∧B≤D∧w.heap[D]?=some (.deferred (some []))∧∀d'∈ds,d'≠mark D)∧marks B ds w

theorem aT.O0 {P:Program} {ρ:aF} {h:ae} {w:World} (H:aT P ρ h w) {D:Nat} {x:Option (List Deferred)} (hD:w.heap[D]?=some (.deferred x)) {j:Nat} {s:RI} (hj:ρ j=some s) (hs:s.bj=D):¬isLive h j:=by
 rintro ⟨o,ho,br⟩
 obtain ⟨o',de,hr⟩:=H.obj j s hj
 rw [ho] at de
 cases de
 subst hs
 cases o with
 | ro e xs=>obtain ⟨_,c,_,fr,h2,_⟩:=hr;rw [hD] at h2;cases h2
 | arr e xs=>obtain ⟨_,_,c,h2,_⟩:=hr;rw [hD] at h2;cases h2
 | smap es=>obtain ⟨aJ,clock,h1,_⟩:=hr;rw [hD] at h1;cases h1
 | jw kd es=>obtain ⟨aJ,clock,h1,_⟩:=hr;rw [hD] at h1;cases h1
 | dQ g c es=>obtain ⟨_,aJ,h1,_⟩:=hr;rw [hD] at h1;cases h1
 | iter m s n l=>obtain ⟨_,rm,_,h1⟩:=hr;rw [hD] at h1;cases h1
 | loop c ls vs=>obtain ⟨rec,h1,_⟩:=hr;rw [hD] at h1;cases h1
 | dead=>exact br rfl

theorem marks.tr {P:Program} {ρ au:aF} {h h':ae} {w w':World} (H:aT P ρ h w) (T:Tr ρ h w au h' w') {B:Nat}:∀{ds:List Deferred},marks B ds w→marks B ds w'
 | [],hb=>Nat.le_trans hb T.gI
 | d::ds,⟨⟨D,h1,h2,h3,h4⟩,h5⟩=>
  ⟨⟨D,h1,h2,by rw [T.gf D (Array.getElem?_eq_some_iff.1 h3).1 fun j s hj hs hm=>H.O0 h3 hj hs hm.live];exact h3,h4⟩,marks.tr H T h5⟩

theorem marks.lt {B:Nat} {w:World}:∀{ds:List Deferred},marks B ds w→∀d∈ds,∃D,d=mark D∧D<w.heap.size
 | [],_,d,hd=>by simp at hd
 | d::ds,⟨⟨D,h1,h2,h3,h4⟩,h5⟩,d',hd=>by
  rcases List.mem_cons.1 hd with rfl | hd
  ·exact ⟨D,h1,(Array.getElem?_eq_some_iff.1 h3).1⟩
  ·exact marks.lt h5 d' hd

theorem marks.base {B:Nat} {w:World}:∀{ds:List Deferred},marks B ds w→B≤w.heap.size
 | [],h=>h
 | _::_,h=>marks.base h.2

theorem abq {a b:Nat} (h:mark a=mark b):a=b:=by
 simp [mark] at h
 exact h

structure Rel (P:Program) (N:Nat) (B:Nat) (ρ:aF) (f:Nat→Value) (h:ae) (a:Act) (w:World):Prop where
 size:a.tmps.size=N
 defers:marks B a.defers w
 tmp:∀t,aw ρ (f t) (a.tmps.getD t Go.undef)
 heap:aT P ρ h w

def uO (f:Nat→Value) (t:Nat) (v:Value):Nat→Value:=fun j=>match Nat.beq j t with | true=>v | false=>f j

theorem qV (f:Nat→Value) (t:Nat) (v:Value):uO f t v=fun j=>if j=t then v else f j:=by
 funext j
 unfold uO
 split
 ·rename_i h;rw [if_pos (Nat.eq_of_beq_eq_true h)]
 ·rename_i h;rw [if_neg (Nat.ne_of_beq_eq_false h)]

def ev (f:Nat→Value):Operand→Value
 | .tmp t=>f t
 | .const v=>v
 | .global g=>.pointer (some ⟨g,0,none⟩)
 | .func f=>.func (.func f) #[] #[]

def km:Value→Bool
 | .bool _ | .int .. | .string _ | .nilFunc | .nilIface=>true
 | .pointer none | .map none=>true
 | .slice none 0 0=>true
 | _=>false

def iy:Operand→Bool
 | .tmp _=>true
 | .const v=>km v
 | .global _=>false
 | .func _=>true

theorem km.rel {ρ:aF} {v:Value} (h:km v=true):aw ρ v v:=by
 unfold km at h
 split at h
 ·exact .bool _
 ·exact .int _ _
 ·exact .string _
 ·exact .nilFunc
 ·exact .nilIface
 ·exact .rP
 ·exact .rO
 ·exact .nG
 ·simp at h

theorem Rel.ev {P:Program} {N B:Nat} {ρ:aF} {f:Nat→Value} {h:ae} {a:Act} {w:World} (R:Rel P N B ρ f h a w) {x:Operand} (hx:iy x=true):
  aw ρ (ev f x) (a.eval x):=by
 cases x with
 | tmp t=>exact R.tmp t
 | const v=>exact km.rel hx
 | global g=>simp [iy] at hx
 | func g=>exact .func g rfl rfl (fun k x x' e e'=>by simp at e) (fun k x x' e e'=>by simp at e)

theorem Rel.put {P:Program} {N B:Nat} {ρ au:aF} {f:Nat→Value} {h h':ae} {a:Act} {w w':World} (R:Rel P N B ρ f h a w) {d:Nat} (hd:d<N) {v v':Value}
  (T:Tr ρ h w au h' w') (hv:aw au v v') (H:aT P au h' w'):Rel P N B au (uO f d v) h' (a.put (some d) v') w' where
 size:=by simp [Act.put,R.size]
 defers:=marks.tr R.heap T R.defers
 tmp:=by
  intro t
  simp only [qV]
  by_cases ht:t=d
  ·subst ht
   have:t<a.tmps.size:=by rw [R.size];exact hd
   simp [Act.put,Array.getD,this]
   exact hv
  ·rw [if_neg ht]
   have:=(R.tmp t).mono T.ext
   have e:((a.put (some d) v').tmps.getD t Go.undef)=a.tmps.getD t Go.undef:=by
    simp only [Act.put,Array.getD_eq_getD_getElem?,Array.getElem?_setIfInBounds]
    rw [if_neg (by omega)]
   rw [e]
   exact this
 heap:=H

theorem Rel.mono {P:Program} {N B:Nat} {ρ au:aF} {f:Nat→Value} {h h':ae} {a:Act} {w w':World} (R:Rel P N B ρ f h a w) (T:Tr ρ h w au h' w') (H:aT P au h' w'):
  Rel P N B au f h' a w':=⟨R.size,marks.tr R.heap T R.defers,fun t=>(R.tmp t).mono T.ext,H⟩

end Go.Sim


namespace Go.Sim

def S (l:List UInt8):Value:=.string ⟨l.toArray⟩
def bytes (s:ByteArray):List UInt8:=s.data.toList

theorem amM (l:List UInt8):bytes ⟨l.toArray⟩=l:=by simp [bytes]
theorem zj (s:ByteArray):(⟨(bytes s).toArray⟩:ByteArray)=s:=by simp [bytes]
theorem amq (s:ByteArray):S (bytes s)=.string s:=by simp [S,zj]
inductive nS where
 | mv (x:Operand)
 | pick (c a b:Operand)
 | bin (op:BinOp) (x y:Operand)
 | E5 (neg:Bool) (x y:Operand)
 | E6 (neg:Bool) (x y:Operand)
 | un (op:UnOp) (x:Operand)
 | conv (k:IntKind) (x:Operand)
 | Re (x:Operand)
 | OD (x:Operand)
 | OE (x:Operand)
 | Gg (n:Nat)
 | BV (mx:Bool) (xs:List Operand)
 | Ok (x i:Operand)
 | Oi (n aV:Nat) (agg:Bool) (x i:Operand)
 | K9 (aV:Nat) (x i:Operand)
 | K8 (n aV:Nat) (x i:Operand)
 | Mw (off:Nat) (x:Operand)
 | Mz (agg:Bool) (off sz:Nat) (x:Operand)
 | HM (x:Operand) (lo hi:Option Operand)
 | HP (e:TypeId) (aV:Nat) (x:Operand) (lo hi:Option Operand)
 | OX (x:Operand)
 | fn (f:FuncId) (first captured:List Operand)
 | ext (x:Operand) (i:Nat)
 | build (zero:List Value) (parts:List (Nat×Nat×Operand))
 | Oj (f:FuncId) (x c:Operand)

def gn (op:BinOp) (k:IntKind) (a b:Int):Option Value:=
 match op with
 | .add=>some (.int k (k.wrap (a+b)))
 | .sub=>some (.int k (k.wrap (a-b)))
 | .mul=>some (.int k (k.wrap (a*b)))
 | .quo=>if b=0 then none else some (.int k (k.wrap (a.tdiv b)))
 | .rem=>if b=0 then none else some (.int k (a.tmod b))
 | .and=>some (.int k (k.wrap (BitVec.ofInt k.bits a &&& BitVec.ofInt k.bits b).toNat))
 | .or=>some (.int k (k.wrap (BitVec.ofInt k.bits a ||| BitVec.ofInt k.bits b).toNat))
 | .xor=>some (.int k (k.wrap (BitVec.ofInt k.bits a^^^BitVec.ofInt k.bits b).toNat))
 | .andNot=>some (.int k (k.wrap (BitVec.ofInt k.bits a &&& ~~~BitVec.ofInt k.bits b).toNat))
 | .eql=>some (.bool (decide (a=b)))
 | .neq=>some (.bool (!decide (a=b)))
 | .lss=>some (.bool (decide (a<b)))
 | .leq=>some (.bool (decide (a≤b)))
 | .gtr=>some (.bool (decide (b<a)))
 | .geq=>some (.bool (decide (b≤a)))
 | _=>none

def oD (op:BinOp) (k:IntKind) (a b:Int):Option Value:=
 if b<0 then none else
 match op with
 | .shl=>some (.int k (k.wrap (a*2^(min b.toNat k.bits))))
 | .shr=>some (.int k (a.fdiv (2^(min b.toNat k.bits))))
 | _=>none

def yU (op:BinOp) (a b:List UInt8):Option Value:=
 match op with
 | .add=>if a.length+b.length≤maxLen then some (S (a++b)) else none
 | .eql=>some (.bool (decide (a=b)))
 | .neq=>some (.bool (!decide (a=b)))
 | .lss=>some (.bool (Op.bytesLess a b))
 | .leq=>some (.bool (Op.bytesLess a b||decide (a=b)))
 | .gtr=>some (.bool (!(Op.bytesLess a b||decide (a=b))))
 | .geq=>some (.bool (!Op.bytesLess a b))
 | _=>none

def ai (op:BinOp) (x y:Value):Option Value:=
 match x,y with
 | .int k a,.int k' b=>
  match op with
  | .shl=>oD .shl k a b
  | .shr=>oD .shr k a b
  | op=>if k=k' then gn op k a b else none
 | .string s,.string t=>yU op (bytes s) (bytes t)
 | _,_=>none

def rI (neg:Bool) (x y:Value):Option Value:=
 match x,y with
 | .bool a,.bool b=>some (.bool (if neg then !(a==b) else a==b))
 | _,_=>none

def F6:Value→Option Bool
 | .slice none 0 0=>some true
 | .slice (some _) _ _=>some false
 | _=>none

def Ob (neg:Bool) (x y:Value):Option Value:=
 match F6 x,F6 y with
 | some a,some b=>if a||b then some (.bool (if neg then !(a&&b) else a&&b)) else none
 | _,_=>none

def fA (op:UnOp) (x:Value):Option Value:=
 match op,x with
 | .neg,.int k n=>some (.int k (k.wrap (0-n)))
 | .not,.bool b=>some (.bool !b)
 | .xor,.int k n=>some (.int k (k.wrap (BitVec.ofInt k.bits (if k.signed then -1 else k.max)^^^BitVec.ofInt k.bits n).toNat))
 | _,_=>none

def df (k:IntKind):Value→Option Value
 | .int _ n=>some (.int k (k.wrap n))
 | _=>none

def aaG:Value→Option Value
 | .string s=>some (.string s)
 | _=>none

def fS:Value→Option Value
 | .string s=>some (.int .i64 (bytes s).length)
 | _=>none

def aY:Value→Option Value
 | .slice _ n _=>some (.int .i64 n)
 | _=>none

def max2 (mx:Bool):Value→Value→Option Value
 | .int k x,.int _ y=>some (.int k (if mx then (if y>x then y else x) else (if y<x then y else x)))
 | _,_=>none

def rJ (mx:Bool):List Value→Option Value
 | .int k x::rest=>rest.foldlM (max2 mx) (.int k x)
 | _=>none

def iT (x i:Value):Option Value:=
 match x,i with
 | .string s,.int _ i=>if 0≤i then ((bytes s)[i.toNat]?).map fun b=>.int .u8 b.toNat else none
 | _,_=>none

def ck (agg:Bool) (off sz:Nat) (cs:List Value):Option Value:=
 if agg then (if off+sz≤cs.length then some (.agg ((cs.drop off).take sz).toArray) else none) else cs[off]?

def Oc (n aV:Nat) (agg:Bool) (x i:Value):Option Value:=
 match x,i with
 | .agg cs,.int _ i=>if 0≤i∧i<n then ck agg (i.toNat*aV) aV cs.toList else none
 | _,_=>none

def aU (aV:Nat) (x i:Value):Option Value:=
 match x,i with
 | .slice (some ⟨id,o,some _⟩) n _,.int _ i=>if 0≤i∧i<n then some (.pointer (some ⟨id,o+i.toNat*aV,none⟩)) else none
 | _,_=>none

def uD (n aV:Nat) (x i:Value):Option Value:=
 match x,i with
 | .pointer (some ⟨id,o,none⟩),.int _ i=>if 0≤i∧i<n then some (.pointer (some ⟨id,o+i.toNat*aV,none⟩)) else none
 | _,_=>none

def aK (off:Nat) (x:Value):Option Value:=
 match x with
 | .pointer (some ⟨id,o,none⟩)=>some (.pointer (some ⟨id,o+off,none⟩))
 | _=>none

def wP (agg:Bool) (off sz:Nat) (x:Value):Option Value:=
 match x with
 | .agg cs=>ck agg off sz cs.toList
 | _=>none

def qL:Value→Option Nat
 | .int _ i=>if 0≤i then some i.toNat else none
 | _=>none

def pG (n:Nat) (lo hi:Option Value):Option (Nat×Nat):=
 match (match lo with | none=>some 0 | some v=>qL v),(match hi with | none=>some n | some v=>qL v) with
 | some l,some h=>if l≤h∧h≤n then some (l,h) else none
 | _,_=>none

def jK (x:Value) (lo hi:Option Value):Option Value:=
 match x with
 | .string s=>(pG (bytes s).length lo hi).map fun (l,h)=>S (((bytes s).take h).drop l)
 | _=>none

def j5 (e:TypeId) (aV:Nat) (x:Value) (lo hi:Option Value):Option Value:=
 match x with
 | .slice none 0 0=>(pG 0 lo hi).map fun _=>.slice none 0 0
 | .slice (some ⟨id,o,some e'⟩) n _=>
  if e'=e then (pG n lo hi).map fun (l,h)=>.slice (some ⟨id,o+l*aV,some e⟩) (h-l) (h-l) else none
 | _=>none

def uE (x:Value):Option Value:=
 match x with
 | .pointer (some a)=>some (.pointer (some a))
 | .func f a b=>some (.func f a b)
 | _=>none

def cC (i:Nat) (x:Value):Option Value:=
 match x with
 | .tuple vs=>vs[i]?
 | _=>none

def setAt (xs:List Value) (o:Nat) (vs:List Value):List Value:=xs.take o++vs++xs.drop (o+vs.length)

def qg:List Value→List (Nat×Nat×Value)→Option (List Value)
 | xs,[]=>some xs
 | xs,(off,size,v)::rest=>
  if gS v∧(cZ v).length=size∧off+size≤xs.length then qg (setAt xs off (cZ v)) rest else none

def cT (zero:List Value) (parts:List (Nat×Nat×Value)):Option Value:=(qg zero parts).map fun cs=>.agg cs.toArray

def bL (c a b:Value):Option Value:=
 match c with
 | .bool t=>some (if t then a else b)
 | _=>none

def BI (x c:Value):Option Value:=
 match x,c with
 | .string s,.int .u8 c=>some (.int .i64 (Lib.indexByte (bytes s) c.toNat.toUInt8))
 | _,_=>none

def il (o:nS) (g:Operand→Value):Option Value:=
 match o with
 | .mv x=>some (g x)
 | .pick c a b=>bL (g c) (g a) (g b)
 | .bin op x y=>ai op (g x) (g y)
 | .E5 neg x y=>rI neg (g x) (g y)
 | .E6 neg x y=>Ob neg (g x) (g y)
 | .un op x=>fA op (g x)
 | .conv k x=>df k (g x)
 | .Re x=>aaG (g x)
 | .OD x=>fS (g x)
 | .OE x=>aY (g x)
 | .Gg n=>some (.int .i64 n)
 | .BV mx xs=>rJ mx (xs.map g)
 | .Ok x i=>iT (g x) (g i)
 | .Oi n aV agg x i=>Oc n aV agg (g x) (g i)
 | .K9 aV x i=>aU aV (g x) (g i)
 | .K8 n aV x i=>uD n aV (g x) (g i)
 | .Mw off x=>aK off (g x)
 | .Mz agg off sz x=>wP agg off sz (g x)
 | .HM x lo hi=>jK (g x) (lo.map g) (hi.map g)
 | .HP e aV x lo hi=>j5 e aV (g x) (lo.map g) (hi.map g)
 | .OX x=>uE (g x)
 | .fn f first captured=>some (.func (.func f) (first.map g).toArray (captured.map g).toArray)
 | .ext x i=>cC i (g x)
 | .build zero parts=>cT zero (parts.map fun (o,s,x)=>(o,s,g x))
 | .Oj f x c=>
  match g (.func f) with
  | .func (.func f') a b=>if f'=f∧a.size=0∧b.size=0 then BI (g x) (g c) else none
  | _=>none

def mj:TypeDesc→Bool
 | .struct _ | .array _ _=>true
 | _=>false

def yc (v:Value):Bool:=km v&&eL v

def zeroOf (P:Program) (t:TypeId):Option (List Value):=
 match P.info? t with
 | some i=>match i.zero with
  | some z=>if gS z&&(cZ z).all yc&&(cZ z).length==i.size then some (cZ z) else none
  | none=>none
 | none=>none

def placesOf (P:Program) (fs:Array Field):List (Nat×Nat):=fs.toList.map fun f=>(f.offset,P.cellsOf f.type)

def gF (P:Program) (t:TypeId):Bool:=(P.info? t).isSome

def Mr (P:Program) (f:FuncId):Bool:=
 match P.funcs[f]? with
 | some fn=>fn.body.isNone&&fn.name== "internal/bytealg.IndexByteString" &&(Extern.findNext fn).isNone
 | none=>false

def gO (P:Program):Op→Option nS
 | .move x | .assign x=>some (.mv x)
 | .pick c a b=>some (.pick c a b)
 | .binOp op t x y _=>
  match op,P.underlying t with
  | .eql,some .bool=>some (.E5 false x y)
  | .neq,some .bool=>some (.E5 true x y)
  | .eql,some (.slice _)=>some (.E6 false x y)
  | .neq,some (.slice _)=>some (.E6 true x y)
  | op,_=>some (.bin op x y)
 | .unOp op _ x=>some (.un op x)
 | .convert s d x=>
  match P.underlying s,P.underlying d with
  | some (.int _),some (.int k)=>some (.conv k x)
  | some .string,some .string=>some (.Re x)
  | _,_=>none
 | .call { callee:=.builtin .len,args,argTypes }=>
  match args.toList,argTypes.toList with
  | [x],[t]=>
   match P.underlying t with
   | some .string=>some (.OD x)
   | some (.slice _)=>some (.OE x)
   | some (.array n _)=>some (.Gg n)
   | _=>none
  | _,_=>none
 | .call { callee:=.builtin .min,args,argTypes:=_ }=>some (.BV false args.toList)
 | .call { callee:=.builtin .max,args,argTypes:=_ }=>some (.BV true args.toList)
 | .call { callee:=.value (.func f),args,argTypes:=_ }=>
  match args.toList with
  | [x,c]=>if Mr P f then some (.Oj f x c) else none
  | _=>none
 | .index t x i=>
  match P.underlying t with
  | some .string=>some (.Ok x i)
  | some (.array n e)=>
   match P.underlying e with
   | some d=>if gF P e&&(mj d||P.cellsOf e==1) then some (.Oi n (P.cellsOf e) (mj d) x i) else none
   | none=>none
  | _=>none
 | .indexAddr t x i=>
  match P.underlying t with
  | some (.slice e)=>if gF P e then some (.K9 (P.cellsOf e) x i) else none
  | some (.array n e)=>if gF P e then some (.K8 n (P.cellsOf e) x i) else none
  | _=>none
 | .fieldAddr t x f=>
  match P.underlying t with
  | some (.struct fs)=>
   match fs[f]? with
   | some fd=>if gF P fd.type&&P.cellsOf fd.type != 0 then some (.Mw fd.offset x) else none
   | none=>none
  | _=>none
 | .field t x f=>
  match P.underlying t with
  | some (.struct fs)=>
   match fs[f]? with
   | some fd=>
    match P.underlying fd.type with
    | some d=>if gF P fd.type&&(mj d||P.cellsOf fd.type==1) then some (.Mz (mj d) fd.offset (P.cellsOf fd.type) x) else none
    | none=>none
   | none=>none
  | _=>none
 | .slice t x lo hi mx=>
  match P.underlying t,mx with
  | some .string,none=>some (.HM x lo hi)
  | some (.slice e),none=>if gF P e then some (.HP e (P.cellsOf e) x lo hi) else none
  | _,_=>none
 | .nilCheck x=>some (.OX x)
 | .makeFunc (.func f) first captured=>some (.fn f first.toList captured.toList)
 | .extract x i=>some (.ext x i)
 | .build t parts=>
  match P.underlying t,zeroOf P t with
  | some (.struct fs),some z=>
   if fs.all fun f=>gF P f.type then
    match parts.toList.mapM (m:=Option) fun (i,x)=>(placesOf P fs)[i]? |>.map fun (o,s)=>(o,s,x) with
    | some ps=>some (.build z ps)
    | none=>none
   else none
  | some (.array _ e),some z=>if gF P e then some (.build z (parts.toList.map fun (i,x)=>(i*P.cellsOf e,P.cellsOf e,x))) else none
  | _,_=>none
 | _=>none

end Go.Sim


namespace Go.Sim

theorem aw.kB {ρ:aF} {k:IntKind} {n:Int} {v:Value} (h:aw ρ (.int k n) v):v=.int k n:=by cases h;rfl
theorem aw.vC {ρ:aF} {b:Bool} {v:Value} (h:aw ρ (.bool b) v):v=.bool b:=by cases h;rfl
theorem aw.tw {ρ:aF} {s:ByteArray} {v:Value} (h:aw ρ (.string s) v):v=.string s:=by cases h;rfl
theorem aw.S (ρ:aF) (l:List UInt8):aw ρ (S l) (S l):=.string _

theorem toList_eq (s:ByteArray):s.toList=bytes s:=by
 obtain ⟨⟨l⟩⟩:=s
 exact ByteArray.toList_mk l

theorem amK (s t:ByteArray):(s.toList==t.toList)=decide (bytes s=bytes t):=by
 rw [toList_eq,toList_eq]
 by_cases h:bytes s=bytes t <;> simp [h]

theorem size_bytes (s:ByteArray):s.size=(bytes s).length:=by simp [bytes]

theorem amy (s t:ByteArray):s++t=⟨(bytes s++bytes t).toArray⟩:=by
 apply ByteArray.ext
 apply Array.ext'
 simp [bytes]

section
variable (P : Program) (w : World)

theorem azq {op:BinOp} {k:IntKind} {a b:Int} {v:Value} (t:TypeId) (cN:op≠ .shl) (asV:op≠ .shr) (h:gn op k a b=some v):
  (binOp op t (.int k a) (.int k b)).run P w=.ok v w:=by
 cases op <;> simp [gn] at h <;> simp at cN asV <;> (first | subst h | (obtain ⟨hb,h⟩:=h;subst h)) <;>
  simp_all [binOp,Op.intArith,Op.intDiv,Op.intBits,Op.intCmp]
 ·rw [Bool.eq_iff_iff];simp
 ·rw [Bool.eq_iff_iff];simp

theorem ahB {op:BinOp} {k k':IntKind} {a b:Int} {v:Value} (t:TypeId) (cN:op=.shl∨op=.shr) (h:oD op k a b=some v):
  (binOp op t (.int k a) (.int k' b)).run P w=.ok v w:=by
 unfold oD at h
 by_cases hb:b<0
 ·rw [if_pos hb] at h;cases h
 ·rw [if_neg hb] at h
  rcases cN with rfl | rfl <;> simp at h <;> subst h <;> simp [binOp,Op.shift,hb]

theorem azE {op:BinOp} {s s':ByteArray} {v:Value} (t:TypeId) (h:yU op (bytes s) (bytes s')=some v):
  (binOp op t (.string s) (.string s')).run P w=.ok v w:=by
 have e1:=amK s s'
 have hl:IntKind.i64.max=9223372036854775807:=rfl
 cases op <;> simp [yU] at h <;> (first | subst h | (obtain ⟨hb,h⟩:=h;subst h)) <;> simp only [binOp,Op.stringOp]
 all_goals first
  | (rw [e1];simp [toList_eq];done)
  | (simp [toList_eq];done)
  | skip
 ·unfold maxLen at hb
  rw [if_neg (by rw [hl,size_bytes,size_bytes];omega)]
  rw [amy]
  rfl

theorem ay6 (op:BinOp) (t:TypeId) (x y:Operand) (k k':IntKind) (a b:Int):(eqGuard op t x y (.int k a) (.int k' b)).run P w=.ok () w:=by
 unfold eqGuard
 cases op <;> simp
theorem ay8 (op:BinOp) (t:TypeId) (x y:Operand) (a b:ByteArray):(eqGuard op t x y (.string a) (.string b)).run P w=.ok () w:=by
 unfold eqGuard
 cases op <;> simp
theorem ay5 (op:BinOp) (t:TypeId) (x y:Operand) (a b:Bool):(eqGuard op t x y (.bool a) (.bool b)).run P w=.ok () w:=by
 unfold eqGuard
 cases op <;> simp
theorem ay7 (op:BinOp) (t:TypeId) (x y:Operand) (a b:Option Addr) (n m c d:Nat):(eqGuard op t x y (.slice a n c) (.slice b m d)).run P w=.ok () w:=by
 unfold eqGuard
 cases op <;> simp

theorem aze {ρ:aF} {op:BinOp} {x y x' y' v:Value} (t:TypeId) (ox oy:Operand) (h:ai op x y=some v) (hx:aw ρ x x') (hy:aw ρ y y'):
  (do eqGuard op t ox oy x' y';binOp op t x' y':Sem Value).run P w=.ok v w∧aw ρ v v:=by
 unfold ai at h
 split at h
 ·rename_i k a k' b
  rw [hx.kB,hy.kB]
  have hv:(binOp op t (.int k a) (.int k' b)).run P w=.ok v w∧aw ρ v v:=by
   split at h
   ·refine ⟨ahB P w t (.inl rfl) h,?_⟩
    unfold oD at h
    split at h <;> simp at h
    subst h;exact .int _ _
   ·refine ⟨ahB P w t (.inr rfl) h,?_⟩
    unfold oD at h
    split at h <;> simp at h
    subst h;exact .int _ _
   ·rename_i h1 h2
    split at h
    ·rename_i hk
     subst hk
     refine ⟨azq P w t h1 h2 h,?_⟩
     cases op <;> simp [gn] at h <;> (first | subst h | (obtain ⟨_,h⟩:=h;subst h)) <;> first | exact .int _ _ | exact .bool _
    ·cases h
  simp only [Sem.run_bind,ay6,Result.andThen_ok]
  exact hv
 ·rename_i s s'
  rw [hx.tw,hy.tw]
  simp only [Sem.run_bind,ay8,Result.andThen_ok]
  refine ⟨azE P w t h,?_⟩
  cases op <;> simp [yU] at h <;> (first | subst h | (obtain ⟨_,h⟩:=h;subst h)) <;> first | exact .string _ | exact .bool _
 ·cases h

theorem ahu {ρ:aF} {neg:Bool} {op:BinOp} {x y x' y' v:Value} (t:TypeId) (ox oy:Operand) (ht:P.underlying t=some .bool) (cN:op=if neg then .neq else .eql)
  (h:rI neg x y=some v) (hx:aw ρ x x') (hy:aw ρ y y'):
  (do eqGuard op t ox oy x' y';binOp op t x' y':Sem Value).run P w=.ok v w∧aw ρ v v:=by
 unfold rI at h
 split at h
 ·rename_i a b
  rw [hx.vC,hy.vC]
  simp only [Sem.run_bind,ay5,Result.andThen_ok]
  simp at h
  subst h
  refine ⟨?_,.bool _⟩
  cases neg <;> simp at cN <;> subst cN
  ·exact run_eql_bool w t a b ht
  ·exact run_neq_bool w t a b ht
 ·cases h

theorem ahv {ρ:aF} {neg:Bool} {op:BinOp} {x y x' y' v:Value} {e:TypeId} (t:TypeId) (ox oy:Operand) (ht:P.underlying t=some (.slice e)) (cN:op=if neg then .neq else .eql)
  (h:Ob neg x y=some v) (hx:aw ρ x x') (hy:aw ρ y y'):
  (do eqGuard op t ox oy x' y';binOp op t x' y':Sem Value).run P w=.ok v w∧aw ρ v v:=by
 unfold Ob at h
 split at h
 ·rename_i a b ha hb
  split at h
  ·rename_i gB
   simp at h
   subst h
   refine ⟨?_,.bool _⟩
   cases hx <;> simp [F6] at ha <;> cases hy <;> simp [F6] at hb <;> subst ha <;> subst hb <;> simp at gB
   all_goals
    simp only [Sem.run_bind,ay7,Result.andThen_ok]
    cases neg <;> simp at cN <;> subst cN <;> simp only [Lib.run_eql_slice_nil w t e _ _ _ _ _ ht,run_neq_slice_nil_any w t e _ _ _ _ _ ht,run_eql_nil_slice w t e _ _ _ _ _ ht,run_neq_nil_slice w t e _ _ _ _ _ ht] <;> simp
  ·cases h
 ·cases h

theorem azF {ρ:aF} {op:UnOp} {x x' v:Value} (h:fA op x=some v) (hx:aw ρ x x'):(Op.unary op x').run P w=.ok v w∧aw ρ v v:=by
 unfold fA at h
 split at h
 ·rw [hx.kB];simp at h;subst h;exact ⟨by simp [Op.unary,Op.intArith],.int _ _⟩
 ·rw [hx.vC];simp at h;subst h;exact ⟨by simp [Op.unary],.bool _⟩
 ·rw [hx.kB];simp only [Option.some.injEq] at h;subst h;exact ⟨rfl,.int _ _⟩
 ·cases h

end
end Go.Sim


namespace Go.Sim

section
variable {P : Program} (w : World)

theorem atH {t:TypeId} (h:gF P t=true):∃i,P.info? t=some i:=by
 unfold gF at h
 exact Option.isSome_iff_exists.1 h

theorem oK {t:TypeId} (h:gF P t=true):(sizeOf t).run P w=.ok (P.cellsOf t) w:=by
 obtain ⟨i,hi⟩:=atH h
 exact run_sizeOf w hi

theorem Q4 {t:TypeId} {d:TypeDesc} (h:P.underlying t=some d):(isAgg t).run P w=.ok (mj d) w:=by
 cases d <;> simp [isAgg,run_underlying h,mj]

theorem auX {mx:Bool} {k:IntKind} {x:Int} {y v:Value} (h:max2 mx (.int k x) y=some v):∃k' b,y=.int k' b∧∃z,v=.int k z:=by
 unfold max2 at h
 split at h
 ·rename_i k2 x2 k3 y2 e
  cases e
  simp at h
  exact ⟨k3,y2,rfl,_,h.symm⟩
 ·cases h

theorem Q5 {ρ:aF} {mx:Bool}:∀{xs eC:List Value} {k:IntKind} {x:Int} {v:Value},xs.foldlM (max2 mx) (.int k x)=some v→bn ρ xs eC→
  (eC.foldlM (if mx then Builtin.max2 else Builtin.min2) (.int k x):Sem Value).run P w=.ok v w∧aw ρ v v
 | [],eC,k,x,v,h,hs=>by
  cases hs
  simp at h
  subst h
  exact ⟨rfl,.int _ _⟩
 | y::xs,eC,k,x,v,h,hs=>by
  cases hs with
  | cons hy hs=>
   simp only [List.foldlM_cons,Option.bind_eq_bind,Option.bind_eq_some_iff] at h
   obtain ⟨u,hu,h⟩:=h
   obtain ⟨k',b,rfl,z,rfl⟩:=auX hu
   have ih:=Q5 (ρ:=ρ) h hs
   refine ⟨?_,ih.2⟩
   rw [hy.kB]
   simp only [List.foldlM_cons,Sem.run_bind]
   simp only [max2,Option.some.injEq,Value.int.injEq,true_and] at hu
   cases mx
   ·simp at hu⊢
    simp only [Builtin.min2,Sem.run_pure,Result.andThen_ok,hu]
    simpa using ih.1
   ·simp at hu⊢
    simp only [Builtin.max2,Sem.run_pure,Result.andThen_ok,gt_iff_lt,hu]
    simpa using ih.1

theorem azp {ρ:aF} {t:TypeId} {x i x' i' v:Value} (ht:P.underlying t=some .string) (h:iT x i=some v) (hx:aw ρ x x') (hi:aw ρ i i'):
  (Instr.index t x' i').run P w=.ok v w∧aw ρ v v:=by
 unfold iT at h
 split at h
 ·rename_i s k j
  rw [hx.tw,hi.kB]
  split at h
  ·rename_i h0
   simp only [Option.map_eq_some_iff] at h
   obtain ⟨b,hb,rfl⟩:=h
   refine ⟨?_,.int _ _⟩
   have jH:s[j.toNat]?=some b:=by
    have aC:=(List.getElem?_eq_some_iff.1 hb).1
    have:j.toNat<s.size:=by rw [size_bytes];exact aC
    rw [getElem?_pos s j.toNat this]
    have e:=(List.getElem?_eq_some_iff.1 hb).2
    simp only [bytes,Array.getElem_toList] at e
    rw [←e]
    rfl
   simp [Instr.index,asIntOf,run_underlying ht,h0,jH]
  ·cases h
 ·cases h

theorem atu {ρ:aF} {agg:Bool} {off sz:Nat} {cs:List Value} {ie:Array Value} {v:Value} (h:ck agg off sz cs=some v) (hs:bn ρ cs ie.toList) (h1:∀x∈cs,eL x=true):
  ∃v',(if agg then some (.agg (ie.extract off (off+sz))) else ie[off]?)=some v'∧aw ρ v v':=by
 unfold ck at h
 cases agg
 ·simp at h⊢
  obtain ⟨y,hy,hr⟩:=hs.get h
  exact ⟨y,by simpa using hy,hr⟩
 ·simp at h⊢
  obtain ⟨hl,rfl⟩:=h
  have:=((hs.drop off).take sz)
  have e:(ie.extract off (off+sz))=((ie.toList.drop off).take sz).toArray:=by
   apply Array.ext'
   simp [List.take_drop]
  rw [e]
  exact .An this (fun x hx=>h1 x (List.mem_of_mem_drop (List.mem_of_mem_take hx)))

theorem ahA {ρ:aF} {t:TypeId} {d:TypeDesc} {off:Nat} {cs:List Value} {ie:Array Value} {v:Value} (ht:P.underlying t=some d) (hk:gF P t=true)
  (h:ck (mj d) off (P.cellsOf t) cs=some v) (hs:bn ρ cs ie.toList) (h1:∀x∈cs,eL x=true):
  ∃v',(part t ie off).run P w=.ok v' w∧aw ρ v v':=by
 obtain ⟨v',hv,hr⟩:=atu h hs h1
 refine ⟨v',?_,hr⟩
 unfold part
 simp only [Sem.run_bind,Q4 w ht,Result.andThen_ok]
 cases hd:mj d
 ·rw [hd] at hv
  simp at hv⊢
  rw [hv]
  rfl
 ·rw [hd] at hv
  simp at hv⊢
  simp only [oK w hk,Result.andThen_ok,hv]

theorem aw.Ux {ρ:aF} {cs:Array Value} {x':Value} (h:aw ρ (.agg cs) x'):∃ie,x'=.agg ie∧bn ρ cs.toList ie.toList∧∀x∈cs.toList,eL x=true:=by
 cases h with
 | agg hs h1 h=>exact ⟨_,rfl,bn.qU hs h,h1⟩

theorem azo {ρ:aF} {t e:TypeId} {d:TypeDesc} {n:Nat} {x i x' i' v:Value} (ht:P.underlying t=some (.array n e)) (he:P.underlying e=some d) (hk:gF P e=true)
  (h:Oc n (P.cellsOf e) (mj d) x i=some v) (hx:aw ρ x x') (hi:aw ρ i i'):
  ∃v',(Instr.index t x' i').run P w=.ok v' w∧aw ρ v v':=by
 unfold Oc at h
 split at h
 ·rename_i cs k j
  obtain ⟨ie,rfl,hs,h1⟩:=hx.Ux
  rw [hi.kB]
  split at h
  ·rename_i h0
   obtain ⟨v',hr,hv⟩:=ahA w he hk h hs h1
   refine ⟨v',?_,hv⟩
   simp [Instr.index,asIntOf,run_underlying ht,h0,oK w hk,hr]
  ·cases h
 ·cases h

theorem azn {ρ:aF} {t:TypeId} {fs:Array Field} {f:Nat} {fd:Field} {d:TypeDesc} {x x' v:Value} (ht:P.underlying t=some (.struct fs)) (hf:fs[f]?=some fd) (he:P.underlying fd.type=some d)
  (hk:gF P fd.type=true) (h:wP (mj d) fd.offset (P.cellsOf fd.type) x=some v) (hx:aw ρ x x'):
  ∃v',(Instr.field t x' f).run P w=.ok v' w∧aw ρ v v':=by
 unfold wP at h
 split at h
 ·rename_i cs
  obtain ⟨ie,rfl,hs,h1⟩:=hx.Ux
  obtain ⟨v',hr,hv⟩:=ahA w he hk h hs h1
  refine ⟨v',?_,hv⟩
  simp [Instr.field,run_underlying ht,hf,asAgg,hr]
 ·cases h

theorem aza {ρ:aF} {t e:TypeId} {x i x' i' v:Value} (ht:P.underlying t=some (.slice e)) (hk:gF P e=true)
  (h:aU (P.cellsOf e) x i=some v) (hx:aw ρ x x') (hi:aw ρ i i'):
  ∃v',(Instr.indexAt t x' i').run P w=.ok v' w∧aw ρ v v':=by
 unfold aU at h
 split at h
 ·rename_i id o e' n c k j
  split at h
  ·rename_i h0
   simp at h
   subst h
   rw [hi.kB]
   cases hx with
   | slice hr ho hn hc hb=>
    rename_i o' c' r
    have de:o'=r.sh+o:=by
     rcases ho with ho | ⟨h1,h2,h3⟩
     ·exact ho
     ·omega
    subst de
    refine ⟨_,?_,aw.ptr hr⟩
    simp [Instr.indexAt,asIntOf,run_underlying ht,h0,oK w hk,Addr.add_lit,Nat.add_assoc]
  ·cases h
 ·cases h

theorem aw.Cj {ρ:aF} {id o:Nat} {x':Value} (h:aw ρ (.pointer (some ⟨id,o,none⟩)) x'):∃r,ρ id=some r∧x'=.pointer (some ⟨r.bj,r.sh+o,none⟩):=by
 cases h with
 | ptr hr=>exact ⟨_,hr,rfl⟩

theorem ay9 {ρ:aF} {t e:TypeId} {n:Nat} {x i x' i' v:Value} (ht:P.underlying t=some (.array n e)) (hk:gF P e=true)
  (h:uD n (P.cellsOf e) x i=some v) (hx:aw ρ x x') (hi:aw ρ i i'):
  ∃v',(Instr.indexAt t x' i').run P w=.ok v' w∧aw ρ v v':=by
 unfold uD at h
 split at h
 ·rename_i id o k j
  split at h
  ·rename_i h0
   simp at h
   subst h
   rw [hi.kB]
   obtain ⟨r,hr,rfl⟩:=hx.Cj
   refine ⟨_,?_,aw.ptr hr⟩
   simp [Instr.indexAt,asIntOf,run_underlying ht,h0,oK w hk,Instr.sureAddr,Addr.add_lit,Nat.add_assoc]
  ·cases h
 ·cases h

theorem azm {ρ:aF} {t:TypeId} {fs:Array Field} {f:Nat} {fd:Field} {x x' v:Value} (ht:P.underlying t=some (.struct fs)) (hf:fs[f]?=some fd) (hk:gF P fd.type=true)
  (hz:P.cellsOf fd.type≠0) (h:aK fd.offset x=some v) (hx:aw ρ x x'):
  ∃v',(Instr.fieldAt t x' f).run P w=.ok v' w∧aw ρ v v':=by
 unfold aK at h
 split at h
 ·rename_i id o
  simp at h
  subst h
  obtain ⟨r,hr,rfl⟩:=hx.Cj
  refine ⟨_,?_,aw.ptr hr⟩
  simp [Instr.fieldAt,run_underlying ht,hf,Instr.sureAddr,fieldPlace,oK w hk,hz,Addr.add_lit,Nat.add_assoc]
 ·cases h

theorem abI {ρ:aF} {v v':Value} {n:Nat} (h:qL v=some n) (hv:aw ρ v v'):∃k i,v'=.int k i∧0≤i∧i.toNat=n:=by
 unfold qL at h
 split at h
 ·rename_i k i
  rw [hv.kB]
  split at h
  ·rename_i h0
   simp at h
   exact ⟨k,i,rfl,h0,h⟩
  ·cases h
 ·cases h

def ve (ρ:aF):Option Value→Option Value→Prop
 | none,none=>True
 | some a,some b=>aw ρ a b
 | _,_=>False

theorem Q3 {ρ:aF} {n cap:Nat} {isSlice:Bool} {lo hi mV fm:Option Value} {l h:Nat} (he:pG n lo hi=some (l,h)) (hc:n≤cap) (dL:ve ρ lo mV) (iE:ve ρ hi fm):
  (Instr.sliceBounds isSlice n cap mV fm none).run P w=.ok (l,h,cap) w∧l≤h∧h≤n:=by
 unfold pG at he
 split at he
 ·rename_i l1 h1 hl hh
  split at he
  ·rename_i hb
   simp at he
   obtain ⟨rfl,rfl⟩:=he
   refine ⟨?_,hb.1,hb.2⟩
   have bh:∀(v:Value),fm=some v→∃k i,v=.int k i∧0≤i∧i.toNat=h1:=by
    intro v hv
    subst hv
    cases hi with
    | none=>exact iE.elim
    | some u=>exact abI hh iE
   have bh0:fm=none→h1=n:=by
    intro hv
    subst hv
    cases hi with
    | none=>simpa using hh.symm
    | some u=>exact iE.elim
   have bl:∀(v:Value),mV=some v→∃k i,v=.int k i∧0≤i∧i.toNat=l1:=by
    intro v hv
    subst hv
    cases lo with
    | none=>exact dL.elim
    | some u=>exact abI hl dL
   have UM:mV=none→l1=0:=by
    intro hv
    subst hv
    cases lo with
    | none=>simpa using hl.symm
    | some u=>exact dL.elim
   unfold Instr.sliceBounds
   cases fm with
   | none=>
    obtain rfl:=bh0 rfl
    cases mV with
    | none=>obtain rfl:=UM rfl;simp
    | some v=>
     obtain ⟨k,i,rfl,h0,rfl⟩:=bl v rfl
     have:i≤(h1:Int):=by omega
     simp [Instr.sliceBound,asIntOf,h0,this]
   | some u=>
    obtain ⟨k,i,rfl,h0,rfl⟩:=bh u rfl
    have ZL:i≤(cap:Int):=by omega
    cases mV with
    | none=>obtain rfl:=UM rfl;simp [Instr.sliceBound,asIntOf,h0,ZL]
    | some v=>
     obtain ⟨k2,j,rfl,h2,rfl⟩:=bl v rfl
     have:j≤i:=by omega
     simp [Instr.sliceBound,asIntOf,h0,ZL,h2,this,Int.toNat_of_nonneg h0]
  ·cases he
 ·cases he

theorem arM (s:ByteArray) (l h:Nat):s.extract l h=⟨(((bytes s).take h).drop l).toArray⟩:=by
 apply ByteArray.ext
 apply Array.ext'
 simp only [bytes,ByteArray.data_extract,Array.toList_extract,List.drop_take]

theorem azB {ρ:aF} {t:TypeId} {x x' v:Value} {lo hi mV fm:Option Value} (ht:P.underlying t=some .string) (h:jK x lo hi=some v) (hx:aw ρ x x')
  (dL:ve ρ lo mV) (iE:ve ρ hi fm):(Instr.sliceAt t x' mV fm none).run P w=.ok v w∧aw ρ v v:=by
 unfold jK at h
 split at h
 ·rename_i s
  rw [hx.tw]
  simp only [Option.map_eq_some_iff,Prod.exists] at h
  obtain ⟨l,u,hb,rfl⟩:=h
  obtain ⟨hr,h1,h2⟩:=Q3 (P:=P) w (isSlice:=false) hb (Nat.le_refl _) dL iE
  refine ⟨?_,aw.S _ _⟩
  rw [←size_bytes] at hr
  simp [Instr.sliceAt,Instr.slice,run_underlying ht,hr,S,arM]
 ·cases h

theorem azC {ρ:aF} {t e:TypeId} {x x' v:Value} {lo hi mV fm:Option Value} (hH:∀i r,ρ i=some r→r.aV=P.cellsOf r.elem) (ht:P.underlying t=some (.slice e)) (hk:gF P e=true)
  (h:j5 e (P.cellsOf e) x lo hi=some v) (hx:aw ρ x x') (dL:ve ρ lo mV) (iE:ve ρ hi fm):
  ∃v',(Instr.sliceAt t x' mV fm none).run P w=.ok v' w∧aw ρ v v':=by
 unfold j5 at h
 split at h
 ·simp only [Option.map_eq_some_iff,Prod.exists] at h
  obtain ⟨l,u,hb,rfl⟩:=h
  obtain ⟨hr,h1,h2⟩:=Q3 (P:=P) w (isSlice:=true) hb (Nat.le_refl _) dL iE
  cases hx
  refine ⟨_,?_,.nG⟩
  obtain rfl:u=0:=by omega
  obtain rfl:l=0:=by omega
  simp [Instr.sliceAt,Instr.slice,run_underlying ht,hr,oK w hk]
 ·rename_i id o e' n c
  split at h
  ·rename_i Nb
   subst Nb
   simp only [Option.map_eq_some_iff,Prod.exists] at h
   obtain ⟨l,u,hb,rfl⟩:=h
   cases hx with
   | slice hr ho hn hc yx=>
    rename_i o' c' r
    obtain ⟨fF,h1,h2⟩:=Q3 (P:=P) w (isSlice:=true) hb hn dL iE
    have jd:=hH _ _ hr
    by_cases fh:c'=l
    ·refine ⟨.slice (some ⟨r.bj,o',none⟩) (u-l) (c' -l),?_,?_⟩
     ·rw [fh] at fF⊢
      simp [Instr.sliceAt,Instr.slice,run_underlying ht,fF,oK w hk]
     ·refine aw.slice hr ?_ (by omega) (by omega) ?_
      ·rcases Nat.eq_zero_or_pos (l*P.cellsOf r.elem) with hz | hz
       ·rw [hz]
        rcases ho with ho | ⟨q1,q2,q3⟩
        ·exact .inl (by omega)
        ·exact .inr ⟨by omega,by omega,by omega⟩
       ·exact .inr ⟨by omega,by omega,by omega⟩
      ·have:c' -l=0:=by omega
       rw [this]
       have:o'≤o'+c'*r.aV:=Nat.le_add_right _ _
       omega
    ·refine ⟨.slice (some ⟨r.bj,o'+l*P.cellsOf r.elem,none⟩) (u-l) (c' -l),?_,?_⟩
     ·simp [Instr.sliceAt,Instr.slice,run_underlying ht,fF,oK w hk,fh,Addr.add_lit]
     ·refine aw.slice hr ?_ (by omega) (by omega) ?_
      ·rcases ho with ho | ⟨q1,q2,q3⟩
       ·exact .inl (by omega)
       ·exfalso;omega
      ·rw [←jd]
       have e1:l*r.aV+(c' -l)*r.aV=c'*r.aV:=by rw [←Nat.add_mul];congr 1;omega
       omega
  ·cases h
 ·cases h

theorem azz {ρ:aF} {o:Oper} {ox:Operand} {g':Operand→Value} {x v:Value} (ho:o.op=.nilCheck ox) (h:uE x=some v) (hx:aw ρ x (g' ox)):
  ∃v',(execOp g' o).run P w=.ok (.value v') w∧aw ρ v v':=by
 unfold uE at h
 split at h
 ·simp at h
  subst h
  generalize hy:g' ox=y at hx
  have bG:=hx
  cases hx with
  | ptr hr=>
   refine ⟨_,?_,bG⟩
   simp [execOp,ho,hy]
 ·simp at h
  subst h
  generalize hy:g' ox=y at hx
  have bG:=hx
  cases hx with
  | func f a b c d=>
   refine ⟨_,?_,bG⟩
   simp [execOp,ho,hy]
  | yield hr=>
   refine ⟨_,?_,bG⟩
   simp [execOp,ho,hy]
 ·cases h

theorem azl {ρ:aF} {x x' v:Value} {i:Nat} (h:cC i x=some v) (hx:aw ρ x x'):∃v',(Instr.extract x' i).run P w=.ok v' w∧aw ρ v v':=by
 unfold cC at h
 split at h
 ·cases hx with
  | tuple hs hr=>
   obtain ⟨y,hy,hv⟩:=(bn.qU hs hr).get (k:=i) (x:=v) (by simpa using h)
   refine ⟨y,?_,hv⟩
   simp only [Array.getElem?_toList] at hy
   simp [Instr.extract,hy]
 ·cases h

end

theorem bn.xe {ρ:aF} {g g':Operand→Value} (hg:∀x,iy x=true→aw ρ (g x) (g' x)):∀{xs:List Operand},xs.all iy=true→bn ρ (xs.map g) (xs.map g')
 | [],_=>.nil
 | x::xs,h=>by
  simp at h
  exact .cons (hg x h.1) (bn.xe hg (by simpa using h.2))

end Go.Sim


namespace Go.Sim

theorem azK (l:List Value) (o:Nat) (v:Value) (vs:List Value) (h:o<l.length):setAt (l.set o v) (o+1) vs=setAt l o (v::vs):=by
 have e:l.set o v=l.take o++v::l.drop (o+1):=by rw [List.set_eq_take_append_cons_drop,if_pos h]
 have hl:(l.take o).length=o:=by simp;omega
 unfold setAt
 have e1:(l.set o v).take (o+1)=l.take o++[v]:=by
  rw [e,List.take_append,hl,List.take_of_length_le (by omega)]
  simp
 have e2:(l.set o v).drop (o+1+vs.length)=l.drop (o+(v::vs).length):=by
  rw [List.drop_set,if_pos (by omega)]
  congr 1
  simp
  omega
 rw [e1,e2]
 simp

theorem azO (vs:List Value):∀(off i:Nat) (cs:Array Value),off+i+vs.length≤cs.size→
  ((vs.zipIdx i).foldl (fun cs (c,j)=>cs.setIfInBounds (off+j) c) cs).toList=setAt cs.toList (off+i) vs:=by
 induction vs with
 | nil=>intro off i cs h;simp [setAt]
 | cons v vs ih=>
  intro off i cs h
  simp only [List.zipIdx_cons,List.foldl_cons]
  rw [ih off (i+1) _ (by simp at h⊢;omega)]
  rw [Array.toList_setIfInBounds,show off+(i+1)=off+i+1 by omega]
  exact azK _ _ _ _ (by simp at h⊢;omega)

theorem azN {ρ:aF} {xs ys:List Value} (h:bn ρ xs ys) {o:Nat} {vs iI:List Value} (hv:bn ρ vs iI):bn ρ (setAt xs o vs) (setAt ys o iI):=by
 unfold setAt
 rw [←hv.length]
 exact ((h.take o).append hv).append (h.drop _)

theorem azL {xs:List Value} {o:Nat} {vs:List Value} {p:Value→Prop} (h:∀x∈xs,p x) (hv:∀x∈vs,p x):∀x∈setAt xs o vs,p x:=by
 intro x hx
 unfold setAt at hx
 simp only [List.mem_append] at hx
 rcases hx with (hx | hx) | hx
 ·exact h x (List.mem_of_mem_take hx)
 ·exact hv x hx
 ·exact h x (List.mem_of_mem_drop hx)

inductive sm (ρ:aF) (place:Nat→Option (Nat×Nat)):List (Nat×Nat×Value)→List (Nat×Value)→Prop
 | nil:sm ρ place [] []
 | cons {o s i:Nat} {v v':Value} {ps:List (Nat×Nat×Value)} {qs:List (Nat×Value)}:place i=some (o,s)→aw ρ v v'→sm ρ place ps qs→sm ρ place ((o,s,v)::ps) ((i,v')::qs)

theorem Mx {ρ:aF} {place:Nat→Option (Nat×Nat)} {ps:List (Nat×Nat×Value)} {qs:List (Nat×Value)} (hp:sm ρ place ps qs):
  ∀{xs cs:List Value} {ys:Array Value},qg xs ps=some cs→bn ρ xs ys.toList→(∀x∈xs,eL x=true)→
   ∃ie,Instr.fill place ys qs=some ie∧bn ρ cs ie.toList∧(∀x∈cs,eL x=true)∧cs.length=xs.length:=by
 induction hp with
 | nil=>
  intro xs cs ys h hs h1
  simp [qg] at h
  subst h
  exact ⟨ys,by simp [Instr.fill],hs,h1,rfl⟩
 | cons kP hv _ ih=>
  rename_i o s i v v' ps qs _
  intro xs cs ys h hs h1
  simp only [qg] at h
  split at h
  ·rename_i hc
   obtain ⟨ht,hl,ho⟩:=hc
   have yS:=hv.cells ht
   have lE:v'.cells.size=s:=by rw [←hl,yS.length];simp [cZ]
   have jJ:o+v'.cells.size≤ys.size:=by have:=hs.length;simp at this;omega
   have Be:=azO (cZ v') o 0 ys (by simp [cZ];omega)
   simp only [Nat.add_zero] at Be
   have uf:v'.cells.zipIdx.foldl (fun cs x=>cs.setIfInBounds (o+x.2) x.1) ys=(setAt ys.toList o (cZ v')).toArray:=by
    apply Array.ext'
    rw [←Be,←Array.foldl_toList]
    simp [cZ,Array.toList_zipIdx]
   obtain ⟨ie,hf,hr,h2,hlen⟩:=ih (ys:=(setAt ys.toList o (cZ v')).toArray) h (by simpa using azN hs yS) (azL h1 (hv.EN ht))
   refine ⟨ie,?_,hr,h2,?_⟩
   ·unfold Instr.fill
    simp only [kP]
    rw [if_neg (by simp [lE];omega)]
    rw [←hf,←uf]
   ·rw [hlen]
    simp [setAt]
    omega
  ·cases h

theorem zZ {P:Program} {t:TypeId} {zs:List Value} (h:zeroOf P t=some zs):
  ∃i z,P.info? t=some i∧i.zero=some z∧zs=cZ z∧gS z=true∧(∀x∈zs,km x=true∧eL x=true)∧zs.length=i.size:=by
 unfold zeroOf at h
 split at h
 ·rename_i i hi
  split at h
  ·rename_i z hz
   split at h
   ·rename_i hc
    simp at h
    subst h
    simp only [Bool.and_eq_true,List.all_eq_true,yc,beq_iff_eq] at hc
    exact ⟨i,z,hi,hz,rfl,hc.1.1,fun x hx=>hc.1.2 x hx,hc.2⟩
   ·cases h
  ·cases h
 ·cases h

theorem bn.closed {ρ:aF}:∀{zs:List Value},(∀x∈zs,km x=true)→bn ρ zs zs
 | [],_=>.nil
 | x::zs,h=>.cons (km.rel (h x (by simp))) (bn.closed fun y hy=>h y (by simp [hy]))

section
variable {P : Program} (w : World)

theorem xu {t:TypeId} {i:TypeInfo} {z:Value} (hi:P.info? t=some i) (hz:i.zero=some z):(zeroValue t).run P w=.ok z w:=by
 simp [zeroValue,typeInfo,hi,hz]

theorem ahD:∀(fs:List Field),(∀f∈fs,gF P f.type=true)→
  (fs.mapM (m:=Sem) fun f=>do pure (f.offset,←sizeOf f.type)).run P w=.ok (fs.map fun f=>(f.offset,P.cellsOf f.type)) w
 | [],_=>rfl
 | f::fs,h=>by
  have ih:=ahD fs (fun g hg=>h g (by simp [hg]))
  simp only [List.mapM_cons,Sem.run_bind,oK w (h f (by simp)),Result.andThen_ok,Sem.run_pure,ih,List.map_cons]

end
end Go.Sim


namespace Go.Sim

section
variable {P : Program} (w : World) {ρ : aF} {g g' : Operand → Value}

theorem Gz (hg:∀x,iy x=true→aw ρ (g x) (g' x)) (l:Option Operand) (h:l.toArray.all iy=true):ve ρ (l.map g) (l.map g'):=by
 cases l with
 | none=>trivial
 | some x=>exact hg x (by simpa using h)

theorem agc (hg:∀x,iy x=true→aw ρ (g x) (g' x)) (place:Nat→Option (Nat×Nat)):∀(qs:List (Nat×Operand)) (ps:List (Nat×Nat×Operand)),
  qs.mapM (m:=Option) (fun (i,x)=>(place i).map fun (o,s)=>(o,s,x))=some ps→(∀q∈qs,iy q.2=true)→
  sm ρ place (ps.map fun (o,s,x)=>(o,s,g x)) (qs.map fun (i,x)=>(i,g' x))
 | [],ps,h,_=>by
  simp at h
  subst h
  exact .nil
 | (i,x)::qs,ps,h,hq=>by
  simp only [List.mapM_cons,Option.bind_eq_bind,Option.bind_eq_some_iff] at h
  obtain ⟨p,hp,ps',yK,h⟩:=h
  simp at h
  subst h
  simp only [Option.map_eq_some_iff] at hp
  obtain ⟨⟨o,s⟩,kP,rfl⟩:=hp
  exact .cons kP (hg x (hq (i,x) (by simp))) (agc hg place qs ps' yK fun q hm=>hq q (by simp [hm]))

theorem Qs (hg:∀x,iy x=true→aw ρ (g x) (g' x)) (pl:Nat→Nat×Nat):∀(qs:List (Nat×Operand)),(∀q∈qs,iy q.2=true)→
  sm ρ (fun i=>some (pl i)) ((qs.map fun (i,x)=>((pl i).1,(pl i).2,x)).map fun (o,s,x)=>(o,s,g x)) (qs.map fun (i,x)=>(i,g' x))
 | [],_=>.nil
 | (i,x)::qs,hq=>.cons rfl (hg x (hq (i,x) (by simp))) (Qs hg pl qs fun q hm=>hq q (by simp [hm]))

theorem azh {t:TypeId} {fs:Array Field} {zs:List Value} {ps:List (Nat×Nat×Value)} {qs:Array (Nat×Value)} {v:Value} (ht:P.underlying t=some (.struct fs)) (hz:zeroOf P t=some zs)
  (hk:∀f∈fs.toList,gF P f.type=true) (hp:sm ρ ((placesOf P fs)[·]?) ps qs.toList) (h:cT zs ps=some v):
  ∃v',(Instr.build t qs).run P w=.ok v' w∧aw ρ v v':=by
 obtain ⟨i,z,hi,oC,rfl,mh,fh,hlen⟩:=zZ hz
 simp only [cT,Option.map_eq_some_iff] at h
 obtain ⟨cs,hf,rfl⟩:=h
 obtain ⟨ie,yE,hr,h1,_⟩:=Mx (ys:=z.cells) hp hf (bn.closed fun x hx=>(fh x hx).1) (fun x hx=>(fh x hx).2)
 refine ⟨.agg ie,?_,?_⟩
 ·have hm:=ahD (P:=P) w fs.toList hk
  have fE:(fs.mapM (m:=Sem) fun f=>do pure (f.offset,←sizeOf f.type)).run P w=.ok (fs.toList.map fun f=>(f.offset,P.cellsOf f.type)).toArray w:=by
   rw [Array.mapM_eq_mapM_toList]
   simp only [Sem.run_map,hm,Result.andThen_ok]
  have kP:(fun (x:Nat)=>((fs.toList.map fun f=>(f.offset,P.cellsOf f.type)).toArray)[x]?)=((placesOf P fs)[·]?):=by
   funext x
   simp [placesOf]
  simp only [Instr.build,Sem.run_bind,xu w hi oC,Result.andThen_ok,run_underlying ht,fE]
  rw [kP,yE]
  simp
 ·have:=aw.An (ρ:=ρ) hr h1
  simpa using this

theorem azg {t e:TypeId} {n:Nat} {zs:List Value} {ps:List (Nat×Nat×Value)} {qs:Array (Nat×Value)} {v:Value} (ht:P.underlying t=some (.array n e)) (hz:zeroOf P t=some zs)
  (hk:gF P e=true) (hp:sm ρ (fun i=>some (i*P.cellsOf e,P.cellsOf e)) ps qs.toList) (h:cT zs ps=some v):
  ∃v',(Instr.build t qs).run P w=.ok v' w∧aw ρ v v':=by
 obtain ⟨i,z,hi,oC,rfl,mh,fh,hlen⟩:=zZ hz
 simp only [cT,Option.map_eq_some_iff] at h
 obtain ⟨cs,hf,rfl⟩:=h
 obtain ⟨ie,yE,hr,h1,_⟩:=Mx (ys:=z.cells) hp hf (bn.closed fun x hx=>(fh x hx).1) (fun x hx=>(fh x hx).2)
 refine ⟨.agg ie,?_,?_⟩
 ·simp only [Instr.build,Sem.run_bind,xu w hi oC,Result.andThen_ok,run_underlying ht,oK w hk]
  rw [yE]
  simp
 ·have:=aw.An (ρ:=ρ) hr h1
  simpa using this

theorem arR {fn:Func} (h:fn.name= "internal/bytealg.IndexByteString"):Extern.find fn=some Extern.BytealgIndexByte.indexByte:=by
 unfold Extern.find
 rw [h]
 rfl

theorem arL {f:FuncId} (h:Mr P f=true):∃fn,P.funcs[f]?=some fn∧(fn.name== "runtime.NumGoroutine")=false∧fn.body.isNone=true∧Extern.findNext fn=none∧Extern.find fn=some Extern.BytealgIndexByte.indexByte:=by
 unfold Mr at h
 split at h
 ·rename_i fn hf
  simp only [Bool.and_eq_true,beq_iff_eq] at h
  obtain ⟨⟨h1,h2⟩,h3⟩:=h
  exact ⟨fn,hf,by rw [h2];decide,h1,by simpa using h3,arR h2⟩
 ·cases h

theorem avG {o:Oper} {po:nS} (hc:gO P o.op=some po) (aB:o.op.operands.all iy=true) (hH:∀i r,ρ i=some r→r.aV=P.cellsOf r.elem)
  (hg:∀x,iy x=true→aw ρ (g x) (g' x)) {v:Value} (hi:il po g=some v):∃v',(execOp g' o).run P w=.ok (.value v') w∧aw ρ v v':=by
 cases ho:o.op with
 | move x=>
  rw [ho] at hc aB
  simp [gO] at hc;subst hc
  simp [Op.operands] at aB
  simp [il] at hi;subst hi
  exact ⟨g' x,by simp [execOp,ho],hg x aB⟩
 | assign x=>
  rw [ho] at hc aB
  simp [gO] at hc;subst hc
  simp [Op.operands] at aB
  simp [il] at hi;subst hi
  exact ⟨g' x,by simp [execOp,ho],hg x aB⟩
 | pick c a b=>
  rw [ho] at hc aB
  simp [gO] at hc;subst hc
  simp [Op.operands] at aB
  simp only [il,bL] at hi
  split at hi
  ·rename_i t ht
   have Zw:=hg c aB.1
   rw [ht] at Zw
   simp at hi;subst hi
   refine ⟨if t then g' a else g' b,by simp [execOp,ho,Zw.vC,asBool],?_⟩
   cases t
   ·simpa using hg b aB.2.2
   ·simpa using hg a aB.2.1
  ·cases hi
 | binOp op t x y yt=>
  rw [ho] at hc aB
  simp [Op.operands] at aB
  have hx:=hg x aB.1
  have hy:=hg y aB.2
  simp only [gO] at hc
  have fin:∀v',(do eqGuard op t x y (g' x) (g' y);binOp op t (g' x) (g' y):Sem Value).run P w=.ok v' w→(execOp g' o).run P w=.ok (.value v') w:=by
   intro v' h
   simp only [execOp,ho]
   simp only [Sem.run_bind] at h⊢
   rw [h]
   rfl
  split at hc
  ·simp at hc;subst hc
   obtain ⟨h1,h2⟩:=ahu P w (op:=.eql) t x y ‹_› rfl hi hx hy
   exact ⟨v,fin v h1,h2⟩
  ·simp at hc;subst hc
   obtain ⟨h1,h2⟩:=ahu P w (op:=.neq) t x y ‹_› rfl hi hx hy
   exact ⟨v,fin v h1,h2⟩
  ·simp at hc;subst hc
   obtain ⟨h1,h2⟩:=ahv P w (op:=.eql) t x y ‹_› rfl hi hx hy
   exact ⟨v,fin v h1,h2⟩
  ·simp at hc;subst hc
   obtain ⟨h1,h2⟩:=ahv P w (op:=.neq) t x y ‹_› rfl hi hx hy
   exact ⟨v,fin v h1,h2⟩
  ·simp at hc;subst hc
   obtain ⟨h1,h2⟩:=aze P w t x y hi hx hy
   exact ⟨v,fin v h1,h2⟩
 | unOp op t x=>
  rw [ho] at hc aB
  simp [gO] at hc;subst hc
  simp [Op.operands] at aB
  obtain ⟨h1,h2⟩:=azF P w hi (hg x aB)
  exact ⟨v,by simp [execOp,ho,h1],h2⟩
 | convert s d x=>
  rw [ho] at hc aB
  simp [Op.operands] at aB
  simp only [gO] at hc
  split at hc
  ·rename_i k0 k hs hd
   simp at hc;subst hc
   simp only [il,df] at hi
   split at hi
   ·rename_i k1 n hx
    have:=hg x aB
    rw [hx] at this
    simp at hi;subst hi
    refine ⟨_,?_,.int _ _⟩
    simp [execOp,ho,this.kB,convert,run_underlying hs,run_underlying hd,Conv.intToInt]
   ·cases hi
  ·rename_i hs hd
   simp at hc;subst hc
   simp only [il,aaG] at hi
   split at hi
   ·rename_i z hx
    have:=hg x aB
    rw [hx] at this
    simp at hi;subst hi
    refine ⟨_,?_,.string _⟩
    simp [execOp,ho,this.tw,convert,run_underlying hs,run_underlying hd]
   ·cases hi
  ·cases hc
 | indexAddr t x i=>
  rw [ho] at hc aB
  simp [Op.operands] at aB
  simp only [gO] at hc
  split at hc
  ·rename_i e ht
   split at hc
   ·rename_i hk
    simp at hc;subst hc
    obtain ⟨v',h1,h2⟩:=aza w ht hk hi (hg x aB.1) (hg i aB.2)
    exact ⟨v',by simp [execOp,ho,h1],h2⟩
   ·cases hc
  ·rename_i n e ht
   split at hc
   ·rename_i hk
    simp at hc;subst hc
    obtain ⟨v',h1,h2⟩:=ay9 w ht hk hi (hg x aB.1) (hg i aB.2)
    exact ⟨v',by simp [execOp,ho,h1],h2⟩
   ·cases hc
  ·cases hc
 | index t x i=>
  rw [ho] at hc aB
  simp [Op.operands] at aB
  simp only [gO] at hc
  split at hc
  ·rename_i ht
   simp at hc;subst hc
   obtain ⟨h1,h2⟩:=azp w ht hi (hg x aB.1) (hg i aB.2)
   exact ⟨v,by simp [execOp,ho,h1],h2⟩
  ·rename_i n e ht
   split at hc
   ·rename_i d hd
    split at hc
    ·rename_i hk
     simp at hc;subst hc
     simp only [Bool.and_eq_true] at hk
     obtain ⟨v',h1,h2⟩:=azo w ht hd hk.1 hi (hg x aB.1) (hg i aB.2)
     exact ⟨v',by simp [execOp,ho,h1],h2⟩
    ·cases hc
   ·cases hc
  ·cases hc
 | fieldAddr t x f=>
  rw [ho] at hc aB
  simp [Op.operands] at aB
  simp only [gO] at hc
  split at hc
  ·rename_i fs ht
   split at hc
   ·rename_i fd hf
    split at hc
    ·rename_i hk
     simp at hc;subst hc
     simp only [Bool.and_eq_true,bne_iff_ne] at hk
     obtain ⟨v',h1,h2⟩:=azm w ht hf hk.1 hk.2 hi (hg x aB)
     exact ⟨v',by simp [execOp,ho,h1],h2⟩
    ·cases hc
   ·cases hc
  ·cases hc
 | field t x f=>
  rw [ho] at hc aB
  simp [Op.operands] at aB
  simp only [gO] at hc
  split at hc
  ·rename_i fs ht
   split at hc
   ·rename_i fd hf
    split at hc
    ·rename_i d hd
     split at hc
     ·rename_i hk
      simp at hc;subst hc
      simp only [Bool.and_eq_true] at hk
      obtain ⟨v',h1,h2⟩:=azn w ht hf hd hk.1 hi (hg x aB)
      exact ⟨v',by simp [execOp,ho,h1],h2⟩
     ·cases hc
    ·cases hc
   ·cases hc
  ·cases hc
 | slice t x lo fm mx=>
  rw [ho] at hc aB
  simp only [gO] at hc
  split at hc
  ·rename_i ht
   simp at hc;subst hc
   simp only [Op.operands,Array.all_append,Bool.and_eq_true] at aB
   obtain ⟨⟨⟨h0,h1⟩,h2⟩,_⟩:=aB
   obtain ⟨k1,k2⟩:=azB w ht hi (hg x (by simpa using h0)) (Gz hg lo h1) (Gz hg fm h2)
   exact ⟨v,by simp [execOp,ho,k1],k2⟩
  ·rename_i e ht
   split at hc
   ·rename_i hk
    simp at hc;subst hc
    simp only [Op.operands,Array.all_append,Bool.and_eq_true] at aB
    obtain ⟨⟨⟨h0,h1⟩,h2⟩,_⟩:=aB
    obtain ⟨v',k1,k2⟩:=azC w hH ht hk hi (hg x (by simpa using h0)) (Gz hg lo h1) (Gz hg fm h2)
    exact ⟨v',by simp [execOp,ho,k1],k2⟩
   ·cases hc
  ·cases hc
 | nilCheck x=>
  rw [ho] at hc aB
  simp [gO] at hc;subst hc
  simp [Op.operands] at aB
  exact azz w ho hi (hg x aB)
 | makeFunc fn first captured=>
  rw [ho] at hc aB
  cases fn with
  | func f=>
   simp [gO] at hc;subst hc
   simp only [Op.operands,Array.all_append,Bool.and_eq_true] at aB
   simp [il] at hi;subst hi
   have h1:=bn.xe hg (xs:=first.toList) (by simpa using aB.1)
   have h2:=bn.xe hg (xs:=captured.toList) (by simpa using aB.2)
   refine ⟨.func (.func f) (first.map g') (captured.map g'),by simp [execOp,ho,Instr.makeFunc],?_⟩
   refine .func f (by simp) (by simp) ?_ ?_
   ·have:=h1.ofList
    simpa using this
   ·have:=h2.ofList
    simpa using this
  | _=>simp [gO] at hc
 | extract x i=>
  rw [ho] at hc aB
  simp [gO] at hc;subst hc
  simp [Op.operands] at aB
  obtain ⟨v',h1,h2⟩:=azl (P:=P) w hi (hg x aB)
  exact ⟨v',by simp [execOp,ho,h1],h2⟩
 | build t parts=>
  rw [ho] at hc aB
  simp only [gO] at hc
  simp only [Op.operands] at aB
  have hq:∀q∈parts.toList,iy q.2=true:=by
   intro q hm
   rw [Array.all_eq_true'] at aB
   exact aB q.2 (by simp;exact ⟨q.1,by simpa using hm⟩)
  split at hc
  ·rename_i fs zs ht hz
   split at hc
   ·rename_i hk
    split at hc
    ·rename_i ps yK
     simp at hc;subst hc
     have hp:=agc hg ((placesOf P fs)[·]?) parts.toList ps yK hq
     have bV:∀f∈fs.toList,gF P f.type=true:=by
      rw [Array.all_eq_true'] at hk
      intro f hf
      exact hk f (by simpa using hf)
     obtain ⟨v',h1,h2⟩:=azh w ht hz bV (qs:=parts.map fun (i,x)=>(i,g' x)) (by simpa using hp) hi
     exact ⟨v',by simp [execOp,ho,h1],h2⟩
    ·cases hc
   ·cases hc
  ·rename_i n e zs ht hz
   split at hc
   ·rename_i hk
    simp at hc;subst hc
    have hp:=Qs hg (fun i=>(i*P.cellsOf e,P.cellsOf e)) parts.toList hq
    obtain ⟨v',h1,h2⟩:=azg w ht hz hk (qs:=parts.map fun (i,x)=>(i,g' x)) (by simpa using hp) hi
    exact ⟨v',by simp [execOp,ho,h1],h2⟩
   ·cases hc
  ·cases hc
 | call c=>
  rw [ho] at hc aB
  obtain ⟨callee,args,argTypes⟩:=c
  cases callee with
  | builtin b=>
   simp only [Op.operands,Call.operands,Array.empty_append] at aB
   have qm:=bn.xe hg (xs:=args.toList) (by simpa using aB)
   have fin:∀v',(∀consts,(builtin b argTypes o.type consts (args.map g')).run P w=.ok (.value v') w)→(execOp g' o).run P w=.ok (.value v') w:=by
    intro v' h
    simp [execOp,ho,resolve,invoke,h]
   cases b with
   | len=>
    simp only [gO] at hc
    split at hc
    ·rename_i x t hx sU
     obtain rfl:args=#[x]:=Array.ext' hx
     obtain rfl:argTypes=#[t]:=Array.ext' sU
     simp at aB
     have hr:=hg x aB
     split at hc
     ·rename_i ht
      simp at hc;subst hc
      simp only [il,fS] at hi
      split at hi
      ·rename_i s hs
       rw [hs] at hr
       simp at hi;subst hi
       refine ⟨_,fin _ ?_,.int _ _⟩
       intro consts
       simp [builtin,Builtin.len_,run_underlying ht,hr.tw,goInt,size_bytes]
      ·cases hi
     ·rename_i e ht
      simp at hc;subst hc
      simp only [il,aY] at hi
      split at hi
      ·rename_i a n c hs
       rw [hs] at hr
       simp at hi;subst hi
       refine ⟨_,fin _ ?_,.int _ _⟩
       intro consts
       generalize hy:g' x=y at hr
       cases hr <;> simp [builtin,Builtin.len_,run_underlying ht,hy,goInt]
      ·cases hi
     ·rename_i n e ht
      simp at hc;subst hc
      simp [il] at hi;subst hi
      refine ⟨_,fin _ ?_,.int _ _⟩
      intro consts
      simp [builtin,Builtin.len_,run_underlying ht,goInt]
     ·cases hc
    ·cases hc
   | min=>
    simp [gO] at hc;subst hc
    simp only [il,rJ] at hi
    split at hi
    ·rename_i k n rest hl
     rw [hl] at qm
     generalize hy:args.toList.map g'=ys at qm
     cases qm with
     | cons h1 h2=>
      rename_i y0 ys0
      have e:=h1.kB
      subst e
      obtain ⟨k1,k2⟩:=Q5 (P:=P) w hi h2
      refine ⟨v,fin v ?_,k2⟩
      intro consts
      simp only [builtin,Sem.run_bind,Builtin.min_,Array.toList_map,hy]
      simp at k1
      rw [k1]
      rfl
    ·cases hi
   | max=>
    simp [gO] at hc;subst hc
    simp only [il,rJ] at hi
    split at hi
    ·rename_i k n rest hl
     rw [hl] at qm
     generalize hy:args.toList.map g'=ys at qm
     cases qm with
     | cons h1 h2=>
      rename_i y0 ys0
      have e:=h1.kB
      subst e
      obtain ⟨k1,k2⟩:=Q5 (P:=P) w hi h2
      refine ⟨v,fin v ?_,k2⟩
      intro consts
      simp only [builtin,Sem.run_bind,Builtin.max_,Array.toList_map,hy]
      simp at k1
      rw [k1]
      rfl
    ·cases hi
   | _=>simp [gO] at hc
  | value y=>
   cases y with
   | func f=>
    simp only [gO] at hc
    split at hc
    ·rename_i x c hx
     split at hc
     ·rename_i hf
      simp at hc;subst hc
      obtain rfl:args=#[x,c]:=Array.ext' hx
      simp [Op.operands,Call.operands] at aB
      simp only [il] at hi
      split at hi
      ·rename_i f' a b hgf
       split at hi
       ·rename_i gB
        obtain ⟨rfl,ha,hb⟩:=gB
        obtain rfl:=Array.eq_empty_of_size_eq_zero ha
        obtain rfl:=Array.eq_empty_of_size_eq_zero hb
        have h0:=hg (.func f') aB.1
        rw [hgf] at h0
        generalize hy:g' (.func f')=y at h0
        cases h0 with
        | func _ s1 s2 _ _=>
         rename_i eC xD
         obtain rfl:=Array.eq_empty_of_size_eq_zero s1.symm
         obtain rfl:=Array.eq_empty_of_size_eq_zero s2.symm
         simp only [BI] at hi
         split at hi
         ·rename_i s n hs hn
          injection hi with hi
          subst hi
          have h1:=hg x aB.2.1
          have h2:=hg c aB.2.2
          rw [hs] at h1
          rw [hn] at h2
          have e1:=h1.tw
          have e2:=h2.kB
          refine ⟨_,?_,.int _ _⟩
          obtain ⟨fn,q1,q2,q3,q4,q5⟩:=arL hf
          have:=run_callFunc_extern (P:=P) q1 q2 q3 q4 q5 #[.string s,.int .u8 n] w
          simp [execOp,ho,resolve,Deferred.ofValue,invoke,hy,e1,e2]
          rw [this,Lib.run_indexByteString]
          rfl
         ·cases hi
       ·cases hi
      ·cases hi
     ·cases hc
    ·cases hc
   | _=>simp [gO] at hc
  | _=>simp [gO] at hc
 | _=>rw [ho] at hc;simp [gO] at hc

end
end Go.Sim


namespace Go.Sim

theorem fw.mono {ρ au:aF} (h:ρ.le au) {c:Array Value} {sh:Nat} {xs:List Value} (hc:fw ρ c sh xs):fw au c sh xs:=by
 intro j x hj
 obtain ⟨h1,y,hy,hr⟩:=hc j x hj
 exact ⟨h1,y,hy,hr.mono h⟩

theorem jO.mono {ρ au:aF} {w w':World} {r:RI} {o:aq} (hle:ρ.le au) (hw:w'.heap[r.bj]?=w.heap[r.bj]?) (h:jO ρ w r o):jO au w' r o:=by
 cases o with
 | ro e xs=>
  obtain ⟨h1,c,t,fr,h2,h3,h4⟩:=h
  exact ⟨h1,c,t,fr,by rw [hw];exact h2,h3,h4.mono hle⟩
 | arr e xs=>
  obtain ⟨h1,h0,c,h2,h3,h4⟩:=h
  exact ⟨h1,h0,c,by rw [hw];exact h2,h3,h4.mono hle⟩
 | smap es=>
  obtain ⟨aJ,clock,h1,h2,h3⟩:=h
  refine ⟨aJ,clock,by rw [hw];exact h1,h2,?_⟩
  intro j k v hj
  obtain ⟨en,he,hk,hv⟩:=h3 j k v hj
  exact ⟨en,he,hk,hv.mono hle⟩
 | jw kd es=>
  obtain ⟨aJ,clock,h1,h2,h3⟩:=h
  refine ⟨aJ,clock,by rw [hw];exact h1,h2,?_⟩
  intro j k v hj
  obtain ⟨en,he,hk,hv⟩:=h3 j k v hj
  exact ⟨en,he,hk,hv.mono hle⟩
 | dQ g c es=>
  obtain ⟨h0,aJ,h1,h2,h3⟩:=h
  refine ⟨h0,aJ,by rw [hw];exact h1,h2,?_⟩
  intro j b k v hj
  obtain ⟨hg,en,he,hk,hb,hv⟩:=h3 j b k v hj
  exact ⟨hg,en,he,hk,hb,hv.mono hle⟩
 | iter m s n l=>
  obtain ⟨h0,rm,h1,h2⟩:=h
  exact ⟨h0,rm,hle _ _ h1,by rw [hw];exact h2⟩
 | loop c ls vs=>
  obtain ⟨rec,h1,h2,h3,h4,h5,h6,h7,h8⟩:=h
  exact ⟨rec,by rw [hw];exact h1,h2,h3,h4,h5,h6,h7,fun t=>(h8 t).mono hle⟩
 | dead=>trivial

def aF.add (ρ:aF) (i:Nat) (r:RI):aF:=fun j=>if j=i then some r else ρ j

theorem aF.rL {ρ:aF} {i:Nat} {r:RI} (h:ρ i=none):ρ.le (ρ.add i r):=by
 intro j s hj
 unfold aF.add
 split
 ·rename_i e;subst e;rw [h] at hj;cases hj
 ·exact hj

theorem aT.none {P:Program} {ρ:aF} {h:ae} {w:World} (H:aT P ρ h w):ρ h.length=none:=by
 cases hr:ρ h.length with
 | none=>rfl
 | some r=>exact absurd (H.lt hr) (Nat.lt_irrefl _)

theorem zp {P:Program} {ρ:aF} {h:ae} {w:World} (H:aT P ρ h w) {i:Nat} {r:RI} (hi:ρ i=some r) (hl:isLive h i):r.bj<w.heap.size:=by
 obtain ⟨o,ho,hr⟩:=H.obj i r hi
 obtain ⟨o',de,br⟩:=hl
 rw [ho] at de
 cases de
 have key:∀{x:Obj},w.heap[r.bj]?=some x→r.bj<w.heap.size:=fun h=>(Array.getElem?_eq_some_iff.1 h).1
 cases o with
 | ro e xs=>obtain ⟨_,c,_,fr,h2,_⟩:=hr;exact key h2
 | arr e xs=>obtain ⟨_,_,c,h2,_⟩:=hr;exact key h2
 | smap es=>obtain ⟨aJ,clock,h1,_⟩:=hr;exact key h1
 | jw kd es=>obtain ⟨aJ,clock,h1,_⟩:=hr;exact key h1
 | dQ g c es=>obtain ⟨_,aJ,h1,_⟩:=hr;exact key h1
 | iter m s n l=>obtain ⟨_,rm,_,h1⟩:=hr;exact key h1
 | loop c ls vs=>obtain ⟨rec,h1,_⟩:=hr;exact key h1
 | dead=>exact absurd rfl br

structure iP (w:World) (b:Obj) (w':World):Prop where
 heap:w'.heap=w.heap.push b
 os:w'.os=w.os
 tape:w'.tape=w.tape
 output:w'.output=w.output

theorem iP.alloc (w:World) (b:Obj):iP w b (w.alloc b):=⟨rfl,rfl,rfl,rfl⟩
theorem iP.drew (w:World) (b:Obj):iP w b (w.drew.alloc b):=⟨rfl,rfl,rfl,rfl⟩

theorem iP.old {w w':World} {b:Obj} (n:iP w b w') {k:Nat} (h:k<w.heap.size):w'.heap[k]?=w.heap[k]?:=by
 rw [n.heap,Array.getElem?_push,if_neg (by omega)]
theorem iP.new {w w':World} {b:Obj} (n:iP w b w'):w'.heap[w.heap.size]?=some b:=by
 rw [n.heap,Array.getElem?_push,if_pos rfl]
theorem iP.size {w w':World} {b:Obj} (n:iP w b w'):w'.heap.size=w.heap.size+1:=by
 rw [n.heap];simp

theorem aT.new {P:Program} {ρ:aF} {h h₀:ae} {w w':World} {b:Obj} {r:RI} {o:aq} (H:aT P ρ h w) (nb:iP w b w') (hb:r.bj=w.heap.size) (he:r.aV=P.cellsOf r.elem)
  (hk:h₀.length=h.length) (hd:∀i:Nat,h₀[i]?=h[i]?∨h₀[i]?=some aq.dead)
  (ho:jO (ρ.add h.length r) w' r o):aT P (ρ.add h.length r) (h₀++[o]) w'∧Tr ρ h w (ρ.add h.length r) (h₀++[o]) w':=by
 have hle:=aF.rL (r:=r) H.none
 have hI:∀i,i<h.length→cf (h₀++[o]) i→cf h i:=by
  intro i hi hm
  unfold cf at hm⊢
  rw [List.getElem?_append_left (by omega)] at hm
  rcases hd i with e | e <;> rw [e] at hm
  ·exact hm
  ·rcases hm with ⟨_,_,hm⟩ | ⟨_,hm⟩ | ⟨_,_,_,hm⟩ | ⟨_,_,hm⟩ | ⟨_,_,_,hm⟩ | ⟨_,_,_,_,hm⟩ <;> cases hm
 have wq:∀i,i<h.length→isLive (h₀++[o]) i→isLive h i:=by
  intro i hi hm
  unfold isLive at hm⊢
  rw [List.getElem?_append_left (by omega)] at hm
  rcases hd i with e | e <;> rw [e] at hm
  ·exact hm
  ·obtain ⟨o',h1,h2⟩:=hm;cases h1;exact absurd rfl h2
 have bj:∀i s,ρ i=some s→isLive (h₀++[o]) i→s.bj<w.heap.size:=fun i s hi hl=>zp H hi (wq i (H.lt hi) hl)
 constructor
 ·constructor
  ·intro i s hi
   unfold aF.add at hi
   split at hi
   ·rename_i e
    subst e
    cases hi
    refine ⟨o,?_,ho⟩
    rw [←hk]
    simp
   ·obtain ⟨o',de,hr⟩:=H.obj i s hi
    have aC:=H.lt hi
    rw [List.getElem?_append_left (by omega)]
    rcases hd i with e | e
    ·refine ⟨o',by rw [e];exact de,?_⟩
     by_cases uh:o'=.dead
     ·subst uh;trivial
     ·exact hr.mono hle (nb.old (zp H hi ⟨o',de,uh⟩))
    ·exact ⟨.dead,e,trivial⟩
  ·intro i j s t hi hj dM hm hl
   unfold aF.add at hi hj
   split at hi <;> split at hj
   ·omega
   ·rename_i e1 e2
    cases hi
    have:=bj j t hj hl
    omega
   ·rename_i e1 e2
    cases hj
    have:=bj i s hi hm.live
    omega
   ·exact H.inj i j s t hi hj dM (hI i (H.lt hi) hm) (wq j (H.lt hj) hl)
  ·intro i s hi
   unfold aF.add at hi
   split at hi
   ·cases hi;exact he
   ·exact H.aV i s hi
 ·exact {
   ext:=hle
   len:=by simp;omega
   iB:=fun i s hi=>H.lt hi
   kinds:=hI
   fresh:=by
    intro i s hi hn
    unfold aF.add at hi
    split at hi
    ·rename_i e;cases hi;exact ⟨by omega,.inl (by omega)⟩
    ·rw [hn] at hi;cases hi
   gI:=by rw [nb.size];omega
   gf:=fun k bV _=>nb.old bV
   os:=nb.os
   tape:=nb.tape
   output:=nb.output }

structure kJ (w:World) (k:Nat) (b:Obj) (w':World):Prop where
 here:w'.heap[k]?=some b
 other:∀j,j≠k→w'.heap[j]?=w.heap[j]?
 size:w'.heap.size=w.heap.size
 os:w'.os=w.os
 tape:w'.tape=w.tape
 output:w'.output=w.output

theorem kJ.row {w:World} {g:Nat} {c:Array Value} {e:TypeId} {fr:Nat×Nat} (hg:w.heap[g]?=some (.cells c e fr)) (c':Array Value):kJ w g (.cells c' e fr) (w.setRow g c') where
 here:=by simp [World.setRow,Array.getElem?_modify,hg]
 other:=by intro j hj;simp [World.setRow,Array.getElem?_modify,Ne.symm hj]
 size:=by simp [World.setRow]
 os:=rfl
 tape:=rfl
 output:=rfl

theorem aT.set {P:Program} {ρ:aF} {h:ae} {w w':World} {b:Obj} {i:Nat} {r:RI} {o:aq} (H:aT P ρ h w) (hi:ρ i=some r) (hm:cf h i) (sb:kJ w r.bj b w')
  (ho:jO ρ w' r o):aT P ρ (h.set i o) w'∧Tr ρ h w ρ (h.set i o) w':=by
 have aC:=H.lt hi
 have hI:∀j,cf (h.set i o) j→cf h j:=by
  intro j hj
  by_cases e:j=i
  ·subst e;exact hm
  ·unfold cf at hj⊢
   rw [List.getElem?_set_ne (Ne.symm e)] at hj
   exact hj
 have wq:∀j,isLive (h.set i o) j→isLive h j:=by
  intro j hj
  by_cases e:j=i
  ·subst e;exact hm.live
  ·unfold isLive at hj⊢
   rw [List.getElem?_set_ne (Ne.symm e)] at hj
   exact hj
 constructor
 ·constructor
  ·intro j s hj
   by_cases e:j=i
   ·subst e
    rw [hi] at hj
    cases hj
    exact ⟨o,by rw [List.getElem?_set_self aC],ho⟩
   ·obtain ⟨o',de,hr⟩:=H.obj j s hj
    refine ⟨o',by rw [List.getElem?_set_ne (Ne.symm e)];exact de,?_⟩
    by_cases uh:o'=.dead
    ·subst uh;trivial
    ·refine hr.mono (.refl _) (sb.other _ ?_)
     intro hb
     exact e (H.inj i j r s hi hj hb.symm hm ⟨o',de,uh⟩).symm
  ·intro j k s t hj hk dM fE hl
   exact H.inj j k s t hj hk dM (hI j fE) (wq k hl)
  ·exact H.aV
 ·exact {
   ext:=.refl _
   len:=by simp
   iB:=fun j s hj=>H.lt hj
   kinds:=fun j _ hj=>hI j hj
   fresh:=fun j s h1 h2=>by rw [h1] at h2;cases h2
   gI:=by rw [sb.size];exact Nat.le_refl _
   gf:=fun k _ cW=>sb.other k fun e=>cW i r hi e.symm hm
   os:=sb.os
   tape:=sb.tape
   output:=sb.output }

theorem aT.move {P:Program} {ρ:aF} {h:ae} {w w':World} {b:Obj} {i:Nat} {r:RI} {o:aq} (H:aT P ρ h w) (hi:ρ i=some r) (hm:cf h i) (sb:kJ w r.bj b w')
  (ho:jO (ρ.add h.length r) w' r o):aT P (ρ.add h.length r) (h.set i .dead++[o]) w'∧Tr ρ h w (ρ.add h.length r) (h.set i .dead++[o]) w':=by
 have aC:=H.lt hi
 have hle:=aF.rL (r:=r) H.none
 have get:∀j,j<h.length→j≠i→(h.set i .dead++[o])[j]?=h[j]?:=by
  intro j hj e
  rw [List.getElem?_append_left (by simpa using hj),List.getElem?_set_ne (Ne.symm e)]
 have MN:(h.set i .dead++[o])[i]?=some .dead:=by
  rw [List.getElem?_append_left (by simpa using aC),List.getElem?_set_self aC]
 have hI:∀j,j<h.length→cf (h.set i .dead++[o]) j→cf h j∧j≠i:=by
  intro j hj fE
  have br:j≠i:=by
   intro e
   subst e
   unfold cf at fE
   rw [MN] at fE
   rcases fE with ⟨_,_,h1⟩ | ⟨_,h1⟩ | ⟨_,_,_,h1⟩ | ⟨_,_,h1⟩ | ⟨_,_,_,h1⟩ | ⟨_,_,_,_,h1⟩ <;> cases h1
  refine ⟨?_,br⟩
  unfold cf at fE⊢
  rw [get j hj br] at fE
  exact fE
 have wq:∀j,j<h.length→isLive (h.set i .dead++[o]) j→isLive h j∧j≠i:=by
  intro j hj fE
  have br:j≠i:=by
   intro e
   subst e
   obtain ⟨o',h1,h2⟩:=fE
   rw [MN] at h1
   cases h1
   exact h2 rfl
  refine ⟨?_,br⟩
  unfold isLive at fE⊢
  rw [get j hj br] at fE
  exact fE
 constructor
 ·constructor
  ·intro j s hj
   unfold aF.add at hj
   split at hj
   ·rename_i e
    subst e
    cases hj
    exact ⟨o,by rw [List.getElem?_append_right (by simp)];simp,ho⟩
   ·by_cases e:j=i
    ·subst e
     exact ⟨.dead,MN,trivial⟩
    ·obtain ⟨o',de,hr⟩:=H.obj j s hj
     refine ⟨o',by rw [get j (H.lt hj) e];exact de,?_⟩
     by_cases uh:o'=.dead
     ·subst uh;trivial
     ·refine hr.mono hle (sb.other _ ?_)
      intro hb
      exact e (H.inj i j r s hi hj hb.symm hm ⟨o',de,uh⟩).symm
  ·intro j k s t hj hk dM fE hl
   unfold aF.add at hj hk
   split at hj <;> split at hk
   ·omega
   ·cases hj
    obtain ⟨h1,h2⟩:=wq k (H.lt hk) hl
    exact absurd (H.inj i k r t hi hk dM hm h1).symm h2
   ·cases hk
    obtain ⟨h1,h2⟩:=hI j (H.lt hj) fE
    exact absurd (H.inj j i s r hj hi dM h1 hm.live) h2
   ·exact H.inj j k s t hj hk dM (hI j (H.lt hj) fE).1 (wq k (H.lt hk) hl).1
  ·intro j s hj
   unfold aF.add at hj
   split at hj
   ·cases hj;exact H.aV i r hi
   ·exact H.aV j s hj
 ·exact {
   ext:=hle
   len:=by simp
   iB:=fun j s hj=>H.lt hj
   kinds:=fun j hj fE=>(hI j hj fE).1
   fresh:=by
    intro j s hj hn
    unfold aF.add at hj
    split at hj
    ·rename_i e;cases hj;exact ⟨by omega,.inr ⟨i,r,hi,rfl,hm⟩⟩
    ·rw [hn] at hj;cases hj
   gI:=by rw [sb.size];exact Nat.le_refl _
   gf:=fun k _ cW=>sb.other k fun e=>cW i r hi e.symm hm
   os:=sb.os
   tape:=sb.tape
   output:=sb.output }

end Go.Sim


namespace Go.Sim

inductive m9 where
 | load (agg:Bool) (n:Nat) (a:Operand)
 | xX (x:Operand)
 | lookup (ok:Bool) (zero:Value) (m k:Operand)
 | Gi (kd:IntKind) (ok:Bool) (zero:Value) (m k:Operand)
 | Gh (g:fx) (ok:Bool) (zero:Value) (m k:Operand)
 | entry (it:Operand)
 | obj (x:Operand)

inductive kG where
 | alloc (e:TypeId) (zs:List Value)
 | lK (e:TypeId) (n:Nat) (zs:List Value) (parts:List (Nat×Nat×Operand))
 | make (e:TypeId) (bytes:Nat) (zs:List Value) (l c:Operand)
 | mX (g:fx)

inductive mZ where
 | fl (a:kG)
 | store (n:Nat) (a v:Operand)
 | box (e:TypeId) (x:Operand)
 | alloc (e:TypeId) (zs:List Value)
 | lK (e:TypeId) (n:Nat) (zs:List Value) (parts:List (Nat×Nat×Operand))
 | make (e:TypeId) (bytes:Nat) (zs:List Value) (l c:Operand)
 | app (e:TypeId) (aV bytes:Nat) (s x:Operand)
 | mkMap
 | Gn (kd:IntKind)
 | mX (g:fx)
 | OT (g:fx) (m k v:Operand)
 | AJ (g:fx) (m k:Operand)
 | QR (x:Operand)
 | next (it:Operand)
 | die
 | OU (kd:IntKind) (m k v:Operand)
 | OS (m k v:Operand)
 | copy (d s:Operand)

def aO (h:ae) (i:Nat):Option (List Value):=
 match h[i]? with
 | some (.ro _ xs)=>some xs
 | some (.arr _ xs)=>some xs
 | _=>none

def af (agg:Bool) (n:Nat) (h:ae) (a:Value):Option Value:=
 match a with
 | .pointer (some ⟨i,o,none⟩)=>(aO h i).bind fun xs=>ck agg o n xs
 | _=>none

def Ar:Value→Option UInt8
 | .int .u8 n=>some (UInt8.ofNat n.toNat)
 | _=>none

def jj (h:ae) (aV:Nat) (x:Value):Option (List Value):=
 match x with
 | .slice none 0 0=>some []
 | .slice (some ⟨i,o,some _⟩) n _=>
  if n=0 then some [] else (aO h i).bind fun xs=>if o+n*aV≤xs.length then some ((xs.drop o).take (n*aV)) else none
 | _=>none

def rH (h:ae) (x:Value):Option Value:=(jj h 1 x).bind fun cs=>(cs.mapM Ar).map S

def sB (k:ByteArray):List (ByteArray×Value)→Option Value
 | []=>none
 | (k',v)::es=>if k=k' then some v else sB k es

def qS (k:ByteArray) (v:Value):List (ByteArray×Value)→List (ByteArray×Value)
 | []=>[(k,v)]
 | (k',v')::es=>if k=k' then (k',v)::es else (k',v')::qS k v es

def mJ (k:Int):List (Int×Value)→Option Value
 | []=>none
 | (k',v)::es=>if k=k' then some v else mJ k es

def qR (k:Int) (v:Value):List (Int×Value)→List (Int×Value)
 | []=>[(k,v)]
 | (k',v')::es=>if k=k' then (k',v)::es else (k',v')::qR k v es

def F1 (kd:IntKind) (ok:Bool) (zero:Value) (h:ae) (m k:Value):Option Value:=
 match m,k with
 | .map (some i),.int yY k=>
  match h[i]? with
  | some (.jw lH es)=>if yY=kd∧lH=kd then some (if ok then .tuple #[(mJ k es).getD zero,.bool (mJ k es).isSome] else (mJ k es).getD zero) else none
  | _=>none
 | _,_=>none

def wU:Value→Value→Bool
 | .int k a,.int k' b=>decide (k=k')&&decide (a=b)
 | _,_=>false

def yW:List Value→List Value→Bool
 | [],[]=>true
 | a::p5,b::bs=>wU a b&&yW p5 bs
 | _,_=>false

def nY:Value→Value→Bool
 | .string a,.string b=>decide (bytes a=bytes b)
 | .agg p5,.agg bs=>yW p5.toList bs.toList
 | a,b=>wU a b

def mo (k:Value):List (Nat×Value×Value)→Option Nat
 | []=>none
 | (_,k',_)::es=>if nY k k'=true then some 0 else (mo k es).map (·+1)

def vO (k:Value) (es:List (Nat×Value×Value)):Option Value:=(mo k es).bind fun j=>(es[j]?).map fun e=>e.2.2
def qQ (c:Nat) (k v:Value) (es:List (Nat×Value×Value)):List (Nat×Value×Value):=
 match mo k es with
 | some j=>es.modify j fun e=>(e.1,k,v)
 | none=>es++[(c,k,v)]
def so (c:Nat) (k:Value) (es:List (Nat×Value×Value)):Nat:=match mo k es with | some _=>c | none=>c+1
def o9 (k:Value) (es:List (Nat×Value×Value)):List (Nat×Value×Value):=
 match mo k es with
 | some j=>es.eraseIdx j
 | none=>es

def F0 (g:fx) (ok:Bool) (zero:Value) (h:ae) (m k:Value):Option Value:=
 match m with
 | .map (some i)=>
  match h[i]? with
  | some (.dQ g' _ es)=>if g'=g∧ep g k=true then some (if ok then .tuple #[(vO k es).getD zero,.bool (vO k es).isSome] else (vO k es).getD zero) else none
  | _=>none
 | _=>none

def BJ (g:fx) (h:ae) (m k v:Value):Option ae:=
 match m with
 | .map (some i)=>
  match h[i]? with
  | some (.dQ g' c es)=>if g'=g∧ep g k=true∧gS v=true then some (h.set i (.dQ g (so c k es) (qQ c k v es))) else none
  | _=>none
 | _=>none

def BH (g:fx) (h:ae) (m k:Value):Option ae:=
 match m with
 | .map (some i)=>
  match h[i]? with
  | some (.dQ g' c es)=>if g'=g∧ep g k=true then some (h.set i (.dQ g c (o9 k es))) else none
  | _=>none
 | _=>none

def yT (h:ae) (x:Value):Option (Value×ae):=
 match x with
 | .map (some i)=>
  match h[i]? with
  | some (.dQ _ c _)=>some (.pointer (some ⟨h.length,0,none⟩),h++[.iter i c [] c])
  | _=>none
 | _=>none

def wO (h:ae) (it:Value):Option Value:=
 match it with
 | .pointer (some ⟨j,0,none⟩)=>
  match h[j]? with
  | some (.iter i _ seen last)=>
   match h[i]?,seen.getLast? with
   | some (.dQ _ c es),some b=>if c=last then (es.find? fun e=>e.1==b).map fun e=>.tuple #[e.2.1,e.2.2] else none
   | _,_=>none
  | _=>none
 | _=>none

def qM:Value→Bool
 | .bool _ | .int .. | .string _ | .nilFunc | .nilIface=>true
 | .pointer none | .map none=>true
 | .slice none 0 0=>true
 | _=>false

def AW:fx→Value
 | .int k=>.int k 0
 | .str=>.bool true
 | .ints n k=>.agg #[.int k n]

def mI:aq→Option Value
 | .arr e xs=>if xs.all qM then some (.agg (.int .i64 e::xs).toArray) else none
 | .dQ g c es=>if c=0∧es.isEmpty=true then some (.tuple #[AW g]) else none
 | _=>none

def wQ:Value→Option Nat
 | .pointer (some ⟨i,_,none⟩)=>some i
 | .slice (some ⟨i,_,_⟩) _ _=>some i
 | .map (some i)=>some i
 | _=>none

def dH (h:ae) (x:Value):Option Value:=(wQ x).bind fun i=>(h[i]?).bind mI

def xj (h:ae) (it:Value):Option (List (Value×ae)):=
 match it with
 | .pointer (some ⟨j,0,none⟩)=>
  match h[j]? with
  | some (.iter i since seen last)=>
   match h[i]? with
   | some (.dQ _ c es)=>
    if (!seen.isEmpty&& !es.isEmpty&&es.all fun e=>decide (last≤e.1))=true then none else
    let left:=es.filter fun e=> !seen.contains e.1
    let old:=left.filter fun e=>decide (e.1<since)
    let new:=left.filter fun e=>decide (since≤e.1)
    some ((if old.isEmpty=true then [(.tuple #[.bool false],h)] else [])++(old++new).map fun e=>(.tuple #[.bool true,e.2.1,e.2.2],h.set j (.iter i since (seen++[e.1]) c)))
   | _=>none
  | _=>none
 | _=>none

def FZ (ok:Bool) (zero:Value) (h:ae) (m k:Value):Option Value:=
 match m,k with
 | .map (some i),.string k=>
  match h[i]? with
  | some (.smap es)=>some (if ok then .tuple #[(sB k es).getD zero,.bool (sB k es).isSome] else (sB k es).getD zero)
  | _=>none
 | _,_=>none

def eK (o:m9) (g:Operand→Value) (h:ae):Option Value:=
 match o with
 | .load agg n a=>af agg n h (g a)
 | .xX x=>rH h (g x)
 | .lookup ok zero m k=>FZ ok zero h (g m) (g k)
 | .Gi kd ok zero m k=>F1 kd ok zero h (g m) (g k)
 | .Gh kd ok zero m k=>F0 kd ok zero h (g m) (g k)
 | .entry it=>wO h (g it)
 | .obj x=>dH h (g x)

def ta (n:Nat) (h:ae) (a v:Value):Option ae:=
 match a with
 | .pointer (some ⟨i,o,none⟩)=>
  match h[i]? with
  | some (.arr e xs)=>if gS v∧(cZ v).length=n∧o+n≤xs.length then some (h.set i (.arr e (setAt xs o (cZ v)))) else none
  | _=>none
 | _=>none

def zl (h:ae):Value:=.pointer (some ⟨h.length,0,none⟩)
def sl (e:TypeId) (i o n:Nat):Value:=.slice (some ⟨i,o,some e⟩) n n

def bk (e:TypeId) (h:ae) (x:Value):Option (Value×ae):=if gS x then some (zl h,h++[.arr e (cZ x)]) else none

def gL (zs:List Value) (n:Nat):List Value:=(List.replicate n zs).flatten

def dh (e:TypeId) (n:Nat) (zs:List Value) (h:ae) (ps:List (Nat×Nat×Value)):Option (Value×ae):=
 (qg (gL zs n) ps).map fun cs=>(sl e h.length 0 n,h++[.arr e cs])

def kR (e:TypeId) (bytes:Nat) (zs:List Value) (h:ae) (l c:Value):Option (Value×ae):=
 match l,c with
 | .int _ l,.int _ c=>if 0≤l∧l≤c∧(bytes:Int)*c≤281474976710656∧c≤9223372036854775807 then some (sl e h.length 0 l.toNat,h++[.arr e (gL zs l.toNat)]) else none
 | _,_=>none

def mU:Value→Option Nat
 | .slice none 0 0=>some 0
 | .slice (some _) n _=>some n
 | _=>none

def dj (e:TypeId) (aV bytes:Nat) (h:ae) (s x:Value):Option (Value×ae):=
 match jj h aV x,mU x with
 | some news,some m=>
  match s with
  | .slice none 0 0=>
   if m=0 then some (s,h) else
   if m*bytes≤140737488355328∧m≤maxLen then some (sl e h.length 0 m,h++[.arr e news]) else none
  | .slice (some ⟨i,0,some e'⟩) n _=>
   match h[i]? with
   | some (.arr YD xs)=>
    if e'=e∧YD=e∧xs.length=n*aV∧(n+m)*bytes≤140737488355328∧n+m≤maxLen then
     if m=0 then some (s,h) else some (sl e h.length 0 (n+m),h.set i .dead++[.arr e (xs++news)])
    else none
   | _=>none
  | _=>none
 | _,_=>none

def Od (h:ae) (m k v:Value):Option ae:=
 match m,k with
 | .map (some i),.string k=>
  match h[i]? with
  | some (.smap es)=>some (h.set i (.smap (qS k v es)))
  | _=>none
 | _,_=>none

def Oe (kd:IntKind) (h:ae) (m k v:Value):Option ae:=
 match m,k with
 | .map (some i),.int yY k=>
  match h[i]? with
  | some (.jw lH es)=>if yY=kd∧lH=kd then some (h.set i (.jw kd (qR k v es))) else none
  | _=>none
 | _,_=>none

def O4 (kd:fx) (h:ae) (m k v:Value):Option (Value×ae):=(BJ kd h m k v).map fun h'=>(undef,h')
def O3 (kd:fx) (h:ae) (m k:Value):Option (Value×ae):=(BH kd h m k).map fun h'=>(.tuple #[],h')
def aaF (kd:fx) (h:ae):Option (Value×ae):=some (.map (some h.length),h++[.dQ kd 0 []])
def aI (n:Nat) (h:ae) (a v:Value):Option (Value×ae):=(ta n h a v).map fun h'=>(undef,h')
def aX (e:TypeId) (zs:List Value) (h:ae):Option (Value×ae):=some (zl h,h++[.arr e zs])
def Oa (h:ae) (d s:Value):Option (Value×ae):=
 match mU d,mU s,jj h 1 s with
 | some n,some m,some cs=>
  if Nat.min m n=0 then some (.int .i64 0,h) else
  match d with
  | .slice (some ⟨i,o,some _⟩) _ _=>
   match h[i]? with
   | some (.arr e xs)=>if o+Nat.min m n≤xs.length then some (.int .i64 (Nat.min m n:Nat),h.set i (.arr e (setAt xs o (cs.take (Nat.min m n))))) else none
   | _=>none
  | _=>none
 | _,_,_=>none

def fB (o:mZ) (g:Operand→Value) (h:ae):Option (Value×ae):=
 match o with
 | .fl a=>match a with
  | .alloc e zs=>some (zl h,h++[.arr e zs])
  | .lK e n zs ps=>dh e n zs h (ps.map fun (o,s,x)=>(o,s,g x))
  | .make e bytes zs l c=>kR e bytes zs h (g l) (g c)
  | .mX kd=>some (.map (some h.length),h++[.dQ kd 0 []])
 | .store n a v=>(ta n h (g a) (g v)).map fun h'=>(undef,h')
 | .box e x=>bk e h (g x)
 | .alloc e zs=>some (zl h,h++[.arr e zs])
 | .lK e n zs ps=>dh e n zs h (ps.map fun (o,s,x)=>(o,s,g x))
 | .make e bytes zs l c=>kR e bytes zs h (g l) (g c)
 | .app e aV bytes s x=>dj e aV bytes h (g s) (g x)
 | .mkMap=>some (.map (some h.length),h++[.smap []])
 | .OS m k v=>(Od h (g m) (g k) (g v)).map fun h'=>(undef,h')
 | .Gn kd=>some (.map (some h.length),h++[.jw kd []])
 | .die=>none
 | .next _=>none
 | .mX kd=>some (.map (some h.length),h++[.dQ kd 0 []])
 | .OT kd m k v=>(BJ kd h (g m) (g k) (g v)).map fun h'=>(undef,h')
 | .AJ kd m k=>(BH kd h (g m) (g k)).map fun h'=>(.tuple #[],h')
 | .QR x=>yT h (g x)
 | .OU kd m k v=>(Oe kd h (g m) (g k) (g v)).map fun h'=>(undef,h')
 | .copy d s=>Oa h (g d) (g s)

def kG.Cv:kG→mZ
 | .alloc e zs=>.alloc e zs
 | .lK e n zs ps=>.lK e n zs ps
 | .make e b zs l c=>.make e b zs l c
 | .mX g=>.mX g

def mZ.H5:mZ→Option kG
 | .alloc e zs=>some (.alloc e zs)
 | .lK e n zs ps=>some (.lK e n zs ps)
 | .make e b zs l c=>some (.make e b zs l c)
 | .mX g=>some (.mX g)
 | _=>none

def jR (a:kG) (g:Operand→Value):Option ((Nat→Value)×aq):=
 match a with
 | .alloc e zs=>some (fun i=>.pointer (some ⟨i,0,none⟩),.arr e zs)
 | .lK e n zs ps=>(qg (gL zs n) (ps.map fun (o,s,x)=>(o,s,g x))).map fun cs=>(fun i=>sl e i 0 n,.arr e cs)
 | .make e bytes zs l c=>
  match g l,g c with
  | .int _ l,.int _ c=>if 0≤l∧l≤c∧(bytes:Int)*c≤281474976710656∧c≤9223372036854775807 then some (fun i=>sl e i 0 l.toNat,.arr e (gL zs l.toNat)) else none
  | _,_=>none
 | .mX g=>some (fun i=>.map (some i),.dQ g 0 [])

theorem aaL (a:kG) (g:Operand→Value) (h:ae):fB (.fl a) g h=(jR a g).map fun p=>(p.1 h.length,h++[p.2]):=by
 cases a with
 | alloc e zs=>rfl
 | lK e n zs ps=>simp only [fB,jR,dh,Option.map_map];rfl
 | make e b zs l c=>
  simp only [fB,jR,kR]
  split
  ·split <;> rfl
  ·rfl
 | mX g=>rfl

theorem atE (a:kG) (g:Operand→Value) (h:ae):fB a.Cv g h=fB (.fl a) g h:=by cases a <;> rfl

theorem ah6 {e:mZ} {a:kG} (h:e.H5=some a):a.Cv=e:=by
 cases e <;> simp [mZ.H5] at h <;> subst h <;> rfl

theorem La {a:kG} {g:Operand→Value} {V:Nat→Value} {o:aq} (h:jR a g=some (V,o)):∀i,wQ (V i)=some i:=by
 cases a with
 | mX g=>simp [jR] at h;obtain ⟨rfl,_⟩:=h;intro i;rfl
 | alloc e zs=>simp [jR] at h;obtain ⟨rfl,_⟩:=h;intro i;rfl
 | lK e n zs ps=>simp only [jR,Option.map_eq_some_iff,Prod.mk.injEq] at h;obtain ⟨_,_,rfl,_⟩:=h;intro i;rfl
 | make e b zs l c=>
  simp only [jR] at h
  split at h
  ·split at h
   ·simp at h;obtain ⟨rfl,_⟩:=h;intro i;rfl
   ·cases h
  ·cases h

def zY (P:Program) (t:TypeId):Option Value:=
 match P.info? t with
 | some i=>match i.zero with
  | some z=>if yc z then some z else none
  | none=>none
 | none=>none

def isString (P:Program) (t:TypeId):Bool:=match P.underlying t with | some .string=>true | _=>false

def wX (P:Program) (t:TypeId):Option IntKind:=match P.underlying t with | some (.int k)=>some k | _=>none

def xE:Value→Bool
 | .agg cs=>cs.toList.all yc
 | v=>km v

def Ir (P:Program) (t:TypeId):Option Value:=
 match P.info? t with
 | some i=>match i.zero with
  | some z=>if xE z then some z else none
  | none=>none
 | none=>none

def pa (P:Program) (t:TypeId):Option fx:=
 match P.underlying t with
 | some (.map kt et)=>
  match P.underlying et with
  | some (.int _)=>none
  | _=>
   match P.underlying kt with
   | some .string=>some .str
   | some (.int k)=>some (.int k)
   | some (.array n e)=>
    match P.underlying e with
    | some (.int k)=>if (P.cellsOf e==1&&P.cellsOf kt==n&& !(P.types.size==0))=true then some (.ints n k) else none
    | _=>none
   | _=>none
 | _=>none

def sr (P:Program):Op→Option m9
 | .load t a=>
  match P.underlying t with
  | some d=>if gF P t&&(mj d||P.cellsOf t==1) then some (.load (mj d) (P.cellsOf t) a) else none
  | none=>none
 | .entry it=>some (.entry it)
 | .convert s d x=>
  match P.underlying s,P.underlying d with
  | some (.slice e),some .string=>match P.underlying e with | some (.int .u8)=>some (.xX x) | _=>none
  | _,_=>none
 | .lookup t m k ok=>
  match pa P t with
  | some g=>match P.underlying t with
   | some (.map _ et)=>(Ir P et).map fun z=>.Gh g ok z m k
   | _=>none
  | none=>
  match P.underlying t with
  | some (.map kt et)=>if isString P kt then (zY P et).map fun z=>.lookup ok z m k else (wX P kt).bind fun kd=>(zY P et).map fun z=>.Gi kd ok z m k
  | _=>none
 | _=>none

def gA (P:Program):Op→Option mZ
 | .store t a v=>if gF P t then some (.store (P.cellsOf t) a v) else none
 | .box e x=>some (.box e x)
 | .alloc e=>(zeroOf P e).map fun zs=>.alloc e zs
 | .buildSlice t n ps=>
  match P.underlying t with
  | some (.slice e)=>
   match zeroOf P e with
   | some zs=>if n*P.cellsOf e≤16777216∧P.cellsOf e≠0 then some (.lK e n zs (ps.toList.map fun (i,x)=>(i*P.cellsOf e,P.cellsOf e,x))) else none
   | none=>none
  | _=>none
 | .makeSlice t l c=>
  match P.underlying t with
  | some (.slice e)=>
   match zeroOf P e with
   | some zs=>some (.make e (P.bytesOf e) zs l c)
   | none=>none
  | _=>none
 | .call { callee:=.builtin .append,args,argTypes }=>
  match args.toList,argTypes.toList with
  | [s,x],[t,t']=>
   if t=t' then
    match P.underlying t with
    | some (.slice e)=>
     match zeroOf P e with
     | some _=>some (.app e (P.cellsOf e) (P.bytesOf e) s x)
     | none=>none
    | _=>none
   else none
  | _,_=>none
 | .makeMap t none=>
  match pa P t with
  | some g=>some (.mX g)
  | none=>
  match P.underlying t with
  | some (.map kt _)=>some (match wX P kt with | some kd=>.Gn kd | none=>.mkMap)
  | _=>some .mkMap
 | .mapUpdate t m k v | .insert t m k v=>
  match pa P t with
  | some g=>some (.OT g m k v)
  | none=>
  match P.underlying t with
  | some (.map kt _)=>if isString P kt then some (.OS m k v) else (wX P kt).map fun kd=>.OU kd m k v
  | _=>none
 | .call { callee:=.builtin .delete,args,argTypes }=>
  match args.toList,argTypes[0]? with
  | [m,k],some t=>(pa P t).map fun g=>.AJ g m k
  | _,_=>none
 | .call { callee:=.builtin .copy,args,argTypes }=>
  match args.toList,argTypes.toList with
  | [d,s],[t,_]=>
   match P.underlying t with
   | some (.slice e)=>if (P.info? e).map (·.size)=some 1 then some (.copy d s) else none
   | _=>none
  | _,_=>none
 | .range t x=>(pa P t).map fun _=>.QR x
 | .next it false=>some (.next it)
 | .panic _ | .makeInterface .. =>some .die
 | _=>none

end Go.Sim


namespace Go.Sim

theorem azX {ρ:aF} {i o n:Nat} {e:TypeId} {y:Value} (h:aw ρ (.slice (some ⟨i,o,some e⟩) n n) y):
  ∃r o' c',ρ i=some r∧r.elem=e∧y=.slice (some ⟨r.bj,o',none⟩) n c'∧(o'=r.sh+o∨(n=0∧0<o∧c'=0))∧n≤c'∧c'≤maxLen∧o'+c'*r.aV≤r.size:=by
 cases h with
 | slice hr a b c d=>exact ⟨_,_,_,hr,rfl,rfl,a,b,c,d⟩

theorem aw.down {ρ au:aF} (hle:ρ.le au) {x y0:Value} (h0:aw ρ x y0):∀{y:Value},aw au x y→aw ρ x y:=by
 have same:∀{i:Nat} {r r':RI},ρ i=some r→au i=some r'→r'=r:=fun h h'=>by rw [hle _ _ h] at h';cases h';rfl
 induction h0 with
 | bool b=>intro y h;cases h;exact .bool b
 | int k n=>intro y h;cases h;exact .int k n
 | string s=>intro y h;cases h;exact .string s
 | rP=>intro y h;cases h;exact .rP
 | nG=>intro y h;cases h;exact .nG
 | rO=>intro y h;cases h;exact .rO
 | nilFunc=>intro y h;cases h;exact .nilFunc
 | nilIface=>intro y h;cases h;exact .nilIface
 | ptr hi=>intro y h;cases h with | ptr fm=>cases same hi fm;exact .ptr hi
 | slice hi a b c d=>
  intro y h
  obtain ⟨r',o',c',h1,h2,rfl,h3,h4,h5,h6⟩:=azX h
  cases same hi h1
  exact .slice hi h3 h4 h5 h6
 | void a=>intro y h;cases h;exact .void _
 | map hi=>intro y h;cases h with | map fm=>cases same hi fm;exact .map hi
 | yield hi=>intro y h;cases h with | yield fm=>cases same hi fm;exact .yield hi
 | func f s1 s2 _ _ Ol Om=>
  intro y h
  cases h with
  | func _ t1 t2 q1 q2=>
   refine .func f t1 t2 (fun k x x' e e'=>?_) (fun k x x' e e'=>?_)
   ·obtain ⟨z,hz⟩:∃z,_=some z:=⟨_,Array.getElem?_eq_getElem (by rw [←s1];exact (Array.getElem?_eq_some_iff.1 e).1)⟩
    exact Ol k x z e hz (q1 k x x' e e')
   ·obtain ⟨z,hz⟩:∃z,_=some z:=⟨_,Array.getElem?_eq_getElem (by rw [←s2];exact (Array.getElem?_eq_some_iff.1 e).1)⟩
    exact Om k x z e hz (q2 k x x' e e')
 | agg s1 hc _ ih=>
  intro y h
  cases h with
  | agg t1 _ q1=>
   refine .agg t1 hc (fun k x x' e e'=>?_)
   obtain ⟨z,hz⟩:∃z,_=some z:=⟨_,Array.getElem?_eq_getElem (by rw [←s1];exact (Array.getElem?_eq_some_iff.1 e).1)⟩
   exact ih k x z e hz (q1 k x x' e e')
 | any v=>intro y _;exact .any y
 | tuple s1 _ ih=>
  intro y h
  cases h with
  | tuple t1 q1=>
   refine .tuple t1 (fun k x x' e e'=>?_)
   obtain ⟨z,hz⟩:∃z,_=some z:=⟨_,Array.getElem?_eq_getElem (by rw [←s1];exact (Array.getElem?_eq_some_iff.1 e).1)⟩
   exact ih k x z e hz (q1 k x x' e e')

theorem fw.down {ρ au:aF} (hle:ρ.le au) {c c':Array Value} {sh sh':Nat} {xs:List Value} (h0:fw ρ c sh xs) (h:fw au c' sh' xs):fw ρ c' sh' xs:=by
 intro j x hj
 obtain ⟨_,y0,_,r0⟩:=h0 j x hj
 obtain ⟨c1,y,hy,r⟩:=h j x hj
 exact ⟨c1,y,hy,r0.down hle r⟩

theorem jO.down {ρ au:aF} (hle:ρ.le au) {w w':World} {r:RI} {o:aq} (h0:jO ρ w r o) (h:jO au w' r o):jO ρ w' r o:=by
 cases o with
 | ro e xs=>
  obtain ⟨_,_,_,_,_,_,b4⟩:=h0
  obtain ⟨a1,c,t,fr,a2,a3,a4⟩:=h
  exact ⟨a1,c,t,fr,a2,a3,b4.down hle a4⟩
 | arr e xs=>
  obtain ⟨_,_,_,_,_,b4⟩:=h0
  obtain ⟨a1,a0,c,a2,a3,a4⟩:=h
  exact ⟨a1,a0,c,a2,a3,b4.down hle a4⟩
 | smap es=>
  obtain ⟨_,_,_,_,b3⟩:=h0
  obtain ⟨aJ,clock,a1,a2,a3⟩:=h
  refine ⟨aJ,clock,a1,a2,fun j k v hj=>?_⟩
  obtain ⟨_,_,_,r0⟩:=b3 j k v hj
  obtain ⟨en,e1,e2,e3⟩:=a3 j k v hj
  exact ⟨en,e1,e2,r0.down hle e3⟩
 | jw kd es=>
  obtain ⟨_,_,_,_,b3⟩:=h0
  obtain ⟨aJ,clock,a1,a2,a3⟩:=h
  refine ⟨aJ,clock,a1,a2,fun j k v hj=>?_⟩
  obtain ⟨_,_,_,r0⟩:=b3 j k v hj
  obtain ⟨en,e1,e2,e3⟩:=a3 j k v hj
  exact ⟨en,e1,e2,r0.down hle e3⟩
 | dQ g c es=>
  obtain ⟨_,_,_,_,b3⟩:=h0
  obtain ⟨a0,aJ,a1,a2,a3⟩:=h
  refine ⟨a0,aJ,a1,a2,fun j b k v hj=>?_⟩
  obtain ⟨_,_,_,_,_,r0⟩:=b3 j b k v hj
  obtain ⟨e0,en,e1,e2,vJ,e3⟩:=a3 j b k v hj
  exact ⟨e0,en,e1,e2,vJ,r0.down hle e3⟩
 | iter m s n l=>
  obtain ⟨_,rm0,b1,_⟩:=h0
  obtain ⟨a0,rm,a1,a2⟩:=h
  have:=hle _ _ b1
  rw [a1] at this
  cases this
  exact ⟨a0,rm0,b1,a2⟩
 | loop c ls vs=>
  obtain ⟨_,_,_,_,_,_,_,_,b8⟩:=h0
  obtain ⟨rec,a1,a2,a3,a4,a5,a6,a7,a8⟩:=h
  exact ⟨rec,a1,a2,a3,a4,a5,a6,a7,fun t=>(b8 t).down hle (a8 t)⟩
 | dead=>trivial

theorem qM.rel {ρ au:aF} {v v':Value} (h:qM v=true) (hv:aw ρ v v'):aw au v v':=by
 unfold qM at h
 split at h
 ·cases hv;exact .bool _
 ·cases hv;exact .int _ _
 ·cases hv;exact .string _
 ·cases hv;exact .nilFunc
 ·cases hv;exact .nilIface
 ·cases hv;exact .rP
 ·cases hv;exact .rO
 ·cases hv;exact .nG
 ·cases h

theorem aT.Ff {P:Program} {ρ:aF} {h:ae} {w:World} (H:aT P ρ h w) (os:ae):aT P ρ (h++os) w where
 obj i r hi:=by
  obtain ⟨o,ho,hr⟩:=H.obj i r hi
  exact ⟨o,by rw [List.getElem?_append_left (H.lt hi)];exact ho,hr⟩
 inj i j r s hi hj hb hm hl:=by
  refine H.inj i j r s hi hj hb ?_ ?_
  ·unfold cf at hm⊢;rw [List.getElem?_append_left (H.lt hi)] at hm;exact hm
  ·unfold isLive at hl⊢;rw [List.getElem?_append_left (H.lt hj)] at hl;exact hl
 aV:=H.aV

theorem Tr.Ff {P:Program} {ρ:aF} {h:ae} {w:World} (H:aT P ρ h w) (os:ae):Tr ρ h w ρ (h++os) w where
 ext:=.refl _
 len:=by simp
 iB:=fun _ _ hi=>H.lt hi
 kinds:=fun i hi hm=>by unfold cf at hm⊢;rw [List.getElem?_append_left hi] at hm;exact hm
 fresh:=fun i r h1 h2=>by rw [h1] at h2;cases h2
 gI:=Nat.le_refl _
 gf:=fun _ _ _=>rfl
 os:=rfl
 tape:=rfl
 output:=rfl

theorem atF {lo:m9} {g:Operand→Value} {h:ae} {v:Value} (os:ae) (hl:eK lo g h=some v):eK lo g (h++os)=some v:=by
 have get:∀{i:Nat} {o:aq},h[i]?=some o→(h++os)[i]?=some o:=by
  intro i o hi
  rw [List.getElem?_append_left (List.getElem?_eq_some_iff.1 hi).1];exact hi
 have cells:∀{i:Nat} {xs:List Value},aO h i=some xs→aO (h++os) i=some xs:=by
  intro i xs hc
  unfold aO at hc⊢
  split at hc
  ·rename_i e ys hq;rw [get hq];exact hc
  ·rename_i e ys hq;rw [get hq];exact hc
  ·cases hc
 cases lo with
 | load agg n a=>
  simp only [eK,af] at hl⊢
  split at hl
  ·rename_i i o _
   cases hc:aO h i with
   | none=>rw [hc] at hl;cases hl
   | some xs=>rw [hc] at hl;rw [cells hc];exact hl
  ·cases hl
 | xX x=>
  have sc:∀{cs:List Value},jj h 1 (g x)=some cs→jj (h++os) 1 (g x)=some cs:=by
   intro cs hc
   unfold jj at hc⊢
   split at hc
   ·exact hc
   ·rename_i i o e n c hx
    split at hc
    ·rename_i h0;rw [if_pos h0];exact hc
    ·rename_i h0
     rw [if_neg h0]
     cases vY:aO h i with
     | none=>rw [vY] at hc;cases hc
     | some xs=>rw [vY] at hc;rw [cells vY];exact hc
   ·cases hc
  simp only [eK,rH] at hl⊢
  cases hc:jj h 1 (g x) with
  | none=>rw [hc] at hl;cases hl
  | some cs=>rw [hc] at hl;rw [sc hc];exact hl
 | lookup ok z m k=>
  simp only [eK,FZ] at hl⊢
  split at hl
  ·rename_i i key hm hk
   split at hl
   ·rename_i es he;rw [get he];exact hl
   ·cases hl
  ·cases hl
 | Gi kd ok z m k=>
  simp only [eK,F1] at hl⊢
  split at hl
  ·rename_i i yY key hm hk
   split at hl
   ·rename_i lH es he;rw [get he];exact hl
   ·cases hl
  ·cases hl
 | Gh gk ok z m k=>
  simp only [eK,F0] at hl⊢
  split at hl
  ·rename_i i hm
   split at hl
   ·rename_i g' c es he;rw [get he];exact hl
   ·cases hl
  ·cases hl
 | entry it=>
  simp only [eK,wO] at hl⊢
  split at hl
  ·rename_i j hj
   split at hl
   ·rename_i i si seen last qx
    rw [get qx]
    simp only
    split at hl
    ·rename_i gg c es b jd hb
     rw [get jd,hb]
     exact hl
    ·cases hl
   ·cases hl
  ·cases hl
 | obj x=>
  simp only [eK,dH] at hl⊢
  cases hx:wQ (g x) with
  | none=>rw [hx] at hl;cases hl
  | some i=>
   rw [hx] at hl
   simp only [Option.bind_some] at hl⊢
   cases ho:h[i]? with
   | none=>rw [ho] at hl;cases hl
   | some o=>rw [ho] at hl;rw [get ho];exact hl

end Go.Sim


namespace Go.Sim

section
variable {P : Program} {w : World} {ρ : aF} {h : ae}

theorem aT.cells (H:aT P ρ h w) {i:Nat} {r:RI} {xs:List Value} (hi:ρ i=some r) (hx:aO h i=some xs):
  ∃c t fr,w.heap[r.bj]?=some (.cells c t fr)∧fw ρ c r.sh xs:=by
 obtain ⟨o,ho,hr⟩:=H.obj i r hi
 unfold aO at hx
 rw [ho] at hx
 cases o with
 | ro e ys=>
  simp at hx;subst hx
  obtain ⟨h1,c,t,fr,h2,h3,h4⟩:=hr
  exact ⟨c,t,fr,h2,h4⟩
 | arr e ys=>
  simp at hx;subst hx
  obtain ⟨h1,h0,c,h2,h3,h4⟩:=hr
  subst h1
  exact ⟨c,_,(0,0),h2,by rw [h0];exact h4⟩
 | smap es=>simp at hx
 | jw kd es=>simp at hx
 | dQ g c es=>simp at hx
 | iter m s n l=>simp at hx
 | loop c ls vs=>simp at hx
 | dead=>simp at hx

theorem fw.Ry {c:Array Value} {sh o n:Nat} {xs:List Value} (hc:fw ρ c sh xs) (hl:o+n≤xs.length):
  ∃ys:List Value,bn ρ ((xs.drop o).take n) ys∧ys.length=n∧(∀x∈(xs.drop o).take n,eL x=true)∧∀j v,ys[j]?=some v→c[sh+o+j]?=some v:=by
 have key:∀j,j<n→∃x y,((xs.drop o).take n)[j]?=some x∧c[sh+o+j]?=some y∧aw ρ x y∧eL x=true:=by
  intro j hj
  have hx:xs[o+j]?=some (xs[o+j]'(by omega)):=List.getElem?_eq_getElem _
  obtain ⟨h1,y,hy,hr⟩:=hc (o+j) _ hx
  refine ⟨_,y,?_,by rw [←hy];congr 1;omega,hr,h1⟩
  rw [List.getElem?_take,if_pos hj,List.getElem?_drop]
  exact hx
 have hlen:((xs.drop o).take n).length=n:=by simp;omega
 refine ⟨(List.range n).map fun j=>c.getD (sh+o+j) Go.undef,?_,by simp,?_,?_⟩
 ·refine bn.Gv (by simp;omega) ?_
  intro k x y hx hy
  have hk:k<n:=by have:=(List.getElem?_eq_some_iff.1 hx).1;omega
  obtain ⟨x',y',h1,h2,h3,_⟩:=key k hk
  rw [h1] at hx;cases hx
  simp [hk] at hy
  subst hy
  simpa [Array.getD,Array.getElem?_eq_some_iff.1 h2 |>.1,(Array.getElem?_eq_some_iff.1 h2).2] using h3
 ·intro x hx
  obtain ⟨k,hk⟩:=List.getElem?_of_mem hx
  have bV:k<n:=by have:=(List.getElem?_eq_some_iff.1 hk).1;omega
  obtain ⟨x',y',h1,h2,h3,h4⟩:=key k bV
  rw [h1] at hk;cases hk
  exact h4
 ·intro j v hv
  by_cases hj:j<n
  ·obtain ⟨x',y',h1,h2,h3,_⟩:=key j hj
   simp [hj] at hv
   rw [h2,←hv]
   simp [Array.getElem?_eq_some_iff.1 h2 |>.1,(Array.getElem?_eq_some_iff.1 h2).2]
  ·simp [hj] at hv

theorem EK {g o:Nat} {c:Array Value} {t:TypeId} {fr:Nat×Nat} (hg:w.heap[g]?=some (.cells c t fr)):w.cell? ⟨g,o,none⟩=c[o]?:=by
 simp [World.cell?,hg]

theorem azG {g o n:Nat} {c:Array Value} {t:TypeId} {fr:Nat×Nat} {ys:List Value} (hg:w.heap[g]?=some (.cells c t fr)) (hl:ys.length=n) (hy:∀j v,ys[j]?=some v→c[o+j]?=some v):
  (loadCells ⟨g,o,none⟩ n).run P w=.ok ys.toArray w:=by
 subst hl
 exact run_loadCells_list w _ ys fun j v hj=>by rw [Addr.add_lit,EK hg];exact hy j v hj

theorem ahw (H:aT P ρ h w) {t:TypeId} {d:TypeDesc} {a a' v:Value} (ht:P.underlying t=some d) (hk:gF P t=true) (hi:af (mj d) (P.cellsOf t) h a=some v) (ha:aw ρ a a'):
  ∃v',(Instr.loadAt t a').run P w=.ok v' w∧aw ρ v v':=by
 unfold af at hi
 split at hi
 ·rename_i i o
  obtain ⟨r,hr,rfl⟩:=ha.Cj
  simp only [Option.bind_eq_some_iff] at hi
  obtain ⟨xs,hx,hp⟩:=hi
  obtain ⟨c,_,fr,hb,hc⟩:=H.cells hr hx
  unfold ck at hp
  cases hd:mj d
  ·rw [hd] at hp
   simp at hp
   obtain ⟨h1,y,hy,hv⟩:=hc o v hp
   refine ⟨y,?_,hv⟩
   have:w.cell? ⟨r.bj,r.sh+o,none⟩=some y:=by rw [EK hb,hy]
   simp [Instr.loadAt,Instr.sureAddr,loadVar,Q4 w ht,hd,this]
  ·rw [hd] at hp
   simp at hp
   obtain ⟨hl,rfl⟩:=hp
   obtain ⟨ys,h1,h2,h3,h4⟩:=hc.Ry hl
   refine ⟨.agg ys.toArray,?_,.An h1 h3⟩
   simp [Instr.loadAt,Instr.sureAddr,loadVar,Q4 w ht,hd,oK w hk,azG (P:=P) hb h2 h4]
 ·cases hi

theorem HQ (H:aT P ρ h w) {aV:Nat} {x x':Value} {cs:List Value} (hs:jj h aV x=some cs) (hx:aw ρ x x'):
  (x'=.slice none 0 0∧cs=[])∨(∃b o n c',x'=.slice (some ⟨b,o,none⟩) n c'∧mU x=some n∧cs.length=n*aV∧(∀v∈cs,eL v=true)∧
   ∃ys,bn ρ cs ys∧∀j v,ys[j]?=some v→w.cell? ⟨b,o+j,none⟩=some v):=by
 unfold jj at hs
 split at hs
 ·simp at hs;subst hs
  cases hx
  exact .inl ⟨rfl,rfl⟩
 ·rename_i i o e n c
  cases hx with
  | slice hr ho hn hc hb=>
   rename_i o' c' r
   split at hs
   ·rename_i h0
    simp at hs;subst hs;subst h0
    exact .inr ⟨_,_,_,_,rfl,rfl,by simp,by simp,[],.nil,by simp⟩
   ·rename_i h0
    simp only [Option.bind_eq_some_iff] at hs
    obtain ⟨xs,hx,hl⟩:=hs
    split at hl
    ·rename_i hle
     simp at hl;subst hl
     obtain ⟨c,_,fr,n9,hc⟩:=H.cells hr hx
     obtain ⟨ys,h1,h2,h3,h4⟩:=hc.Ry hle
     have de:o'=r.sh+o:=by
      rcases ho with ho | ⟨q1,q2,q3⟩
      ·exact ho
      ·omega
     subst de
     refine .inr ⟨_,_,_,_,rfl,rfl,by simp;omega,h3,ys,h1,?_⟩
     intro j v hj
     rw [EK n9]
     exact h4 j v hj
    ·cases hl
 ·cases hs

theorem abp:∀{cs:List Value} {l:List UInt8},cs.mapM Ar=some l→∃ns:List Int,cs=ns.map (Value.int .u8)∧l=ns.map fun n=>UInt8.ofNat n.toNat
 | [],l,h=>by simp at h;subst h;exact ⟨[],rfl,rfl⟩
 | c::cs,l,h=>by
  simp only [List.mapM_cons,Option.bind_eq_bind,Option.bind_eq_some_iff] at h
  obtain ⟨b,hb,bs,A7,h⟩:=h
  simp at h;subst h
  obtain ⟨ns,rfl,rfl⟩:=abp A7
  unfold Ar at hb
  split at hb
  ·rename_i n
   simp at hb;subst hb
   exact ⟨n::ns,rfl,rfl⟩
  ·cases hb

theorem bn.ints {ns:List Int} {k:IntKind} {ys:List Value} (h:bn ρ (ns.map (Value.int k)) ys):ys=ns.map (Value.int k):=by
 induction ns generalizing ys with
 | nil=>cases h;rfl
 | cons n ns ih=>
  cases h with
  | cons a b=>rw [a.kB,ih b];rfl

theorem avH (ns:List Int):∀(s:ByteArray),ns.foldl (fun r n=>r.push (UInt8.ofNat n.toNat)) s=⟨(bytes s++ns.map fun n=>UInt8.ofNat n.toNat).toArray⟩:=by
 induction ns with
 | nil=>intro s;simp [zj]
 | cons n ns ih=>
  intro s
  rw [List.foldl_cons,ih]
  simp [bytes]

theorem azd (H:aT P ρ h w) {x x' v:Value} (hi:rH h x=some v) (hx:aw ρ x x'):(Conv.bytesToString x').run P w=.ok v w∧aw ρ v v:=by
 unfold rH at hi
 simp only [Option.bind_eq_some_iff,Option.map_eq_some_iff] at hi
 obtain ⟨cs,hs,l,hl,rfl⟩:=hi
 refine ⟨?_,aw.S _ _⟩
 obtain ⟨ns,rfl,rfl⟩:=abp hl
 rcases HQ H hs hx with ⟨rfl,h0⟩ | ⟨b,o,n,c',rfl,_,hlen,_,ys,hy,nr⟩
 ·have:ns=[]:=by simpa using h0
  subst this
  simp [Conv.bytesToString,S]
  rfl
 ·have e:=hy.ints
  subst e
  simp at hlen
  have hld:(loadCells ⟨b,o,none⟩ n).run P w=.ok (ns.map (Value.int .u8)).toArray w:=by
   have:=run_loadCells_list (P:=P) w ⟨b,o,none⟩ (ns.map (Value.int .u8)) (fun j v hj=>by rw [Addr.add_lit];exact nr j v hj)
   simpa [hlen] using this
  rw [run_bytesToString w _ n c' ns hld,avH]
  rfl

end
end Go.Sim


namespace Go.Sim

theorem aaP {a b:Value} (h:wU a b=true):a=b:=by
 unfold wU at h
 split at h
 ·simp only [Bool.and_eq_true,decide_eq_true_eq] at h;rw [h.1,h.2]
 ·cases h

theorem aaQ:∀{a b:List Value},yW a b=true→a=b
 | [],[],_=>rfl
 | a::p5,b::bs,h=>by
  simp only [yW,Bool.and_eq_true] at h
  rw [aaP h.1,aaQ h.2]
 | [],_::_,h=>by cases h
 | _::_,[],h=>by cases h

theorem aaR {k:IntKind}:∀{a:List Value},(∀v∈a,jM k v=true)→yW a a=true
 | [],_=>rfl
 | a::p5,h=>by
  simp only [yW,Bool.and_eq_true]
  refine ⟨?_,aaR fun v hv=>h v (by simp [hv])⟩
  have:=h a (by simp)
  unfold jM at this
  split at this
  ·simp [wU]
  ·cases this

theorem Y4 {a b:Value} (h:nY a b=true):a=b:=by
 unfold nY at h
 split at h
 ·rename_i s t
  simp at h
  have:=zj s
  rw [h,zj] at this
  rw [this]
 ·rw [Array.ext' (aaQ h)]
 ·exact aaP h

theorem ar8 {g:fx} {a:Value} (h:ep g a=true):nY a a=true:=by
 unfold ep at h
 split at h
 ·unfold jM at h
  split at h
  ·simp [nY,wU]
  ·cases h
 ·simp [nY]
 ·simp only [Bool.and_eq_true,List.all_eq_true] at h
  exact aaR fun v hv=>(h.2 v hv).1
 ·cases h

theorem ar7 {g:fx} {a b:Value} (h:ep g a=true):nY a b=true↔a=b:=⟨Y4,fun e=>e ▸ ar8 h⟩

theorem Hd {g:fx} {k:Value} (hk:ep g k=true):∀es:List (Nat×Value×Value),(mo k es=none∧∀e∈es,e.2.1≠k)∨∃j e,mo k es=some j∧es[j]?=some e∧e.2.1=k
 | []=>.inl ⟨rfl,by simp⟩
 | (b,k',v)::es=>by
  simp only [mo]
  by_cases h:nY k k'=true
  ·rw [if_pos h]
   exact .inr ⟨0,(b,k',v),rfl,rfl,(Y4 h).symm⟩
  ·rw [if_neg h]
   rcases Hd hk es with ⟨h1,h2⟩ | ⟨j,e,h1,h2,h3⟩
   ·refine .inl ⟨by rw [h1];rfl,?_⟩
    intro e he
    rcases List.mem_cons.1 he with rfl | he
    ·intro e'
     exact h ((ar7 hk).2 e'.symm)
    ·exact h2 e he
   ·exact .inr ⟨j+1,e,by rw [h1];rfl,by simpa using h2,h3⟩

structure CN (P:Program) (kt:TypeId) (g:fx):Prop where
 check:∀(w:World) (em:Bool) (v:Value),ep g v=true→(Instr.checkKey em 10000 kt v).run P w=.ok () w
 find:∀(w:World) (x:Value),ep g x=true→∀es:List MapEntry,(∀e∈es,ep g e.key=true)→
  ((Instr.findKey kt x es).run P w=.ok none w∧∀e∈es,e.key≠x)∨∃j e,(Instr.findKey kt x es).run P w=.ok (some (j,e.val)) w∧es[j]?=some e∧e.key=x
 stays:∀(w:World) (v:Value),ep g v=true→(Instr.keyThatStays v v).run P w=.ok v w

theorem agh {P:Program} {kt:TypeId} {g:fx} {d:TypeDesc} (hd:P.underlying kt=some d) (hg:∀v,ep g v=true→MapKept.IsKey d v):CN P kt g where
 check w em v hv:=MapKept.run_checkKey hd (hg v hv) em 9999
 find w x hx es jd:=by
  rcases MapKept.findNow_spec (hg x hx) es 0 (fun e he=>hg _ (jd e he)) with ⟨h1,h2⟩ | ⟨j,e,h1,h2,h3⟩
  ·exact .inl ⟨MapKept.run_findKey hd h1,h2⟩
  ·exact .inr ⟨j,e,by simpa using MapKept.run_findKey hd h1,h2,h3⟩
 stays w v hv:=MapKept.run_keyThatStays (hg v hv)

section
variable {P : Program}

theorem aaS {k:IntKind} {e:TypeId} {D:Nat} (he:P.underlying e=some (.int k)) (hc:P.cellsOf e=1) (cs:List Value) (h:∀v∈cs,(jM k v&&On k v)=true):
  ∀m,m≤cs.length→∃ls,((List.range m).mapM fun i=>P.keyLits (D+1) e ((cs.drop (i*P.cellsOf e)).take (P.cellsOf e)))=some ls
 | 0,_=>⟨[],rfl⟩
 | m+1,hm=>by
  obtain ⟨ls,Nx⟩:=aaS he hc cs h m (by omega)
  have sO:m<cs.length:=by omega
  have hv:=h cs[m] (List.getElem_mem sO)
  rw [Bool.and_eq_true] at hv
  have h1:(cs.drop (m*P.cellsOf e)).take (P.cellsOf e)=[cs[m]]:=by
   rw [hc,Nat.mul_one]
   apply List.ext_getElem?
   intro i
   rw [List.getElem?_take]
   cases i with
   | zero=>simp [sO]
   | succ i=>simp
  generalize cs[m]=v at hv h1
  obtain ⟨k',n,rfl⟩:∃k' n,v=.int k' n:=by
   cases v <;> first | exact ⟨_,_,rfl⟩ | simp [jM] at hv
  have hk:k'=k:=by simpa [jM] using hv.1
  subst hk
  have hr:k'.min≤n∧n≤k'.max:=by simpa [On] using hv.2
  have hw:(Lit.int k' n).wf=true:=by simp [Lit.wf,hr]
  refine ⟨ls++[[.int k' n]],?_⟩
  rw [List.range_succ,List.mapM_append,Nx]
  simp [h1,Program.keyLits,he,hw]

theorem atI {kt e:TypeId} {n:Nat} {k:IntKind} (hu:P.underlying kt=some (.array n e)) (he:P.underlying e=some (.int k)) (Zv:P.cellsOf e=1) (M8:P.cellsOf kt=n) (jJ:P.types.size≠0):CN P kt (.ints n k):=by
 have A:WideMaps.ArrKey P kt e n:=⟨hu,by simp [Program.plainKey,he],Zv,M8⟩
 have key:∀v,ep (.ints n k) v=true→∃l,keyOf P kt v=some l:=by
  intro v hv
  cases v <;> simp [ep] at hv
  rename_i cs
  obtain ⟨h1,h2⟩:=hv
  have hkt:=A.keyType ⟨P.types.size-1,by omega⟩
  obtain ⟨D,hD⟩:∃D,P.types.size=D+1:=⟨P.types.size-1,by omega⟩
  obtain ⟨ls,Nx⟩:=aaS (D:=D) he Zv cs.toList (fun v hv=>by obtain ⟨i,hi,e⟩:=List.mem_iff_getElem.1 hv;have:=h2 i (by simpa using hi);rw [←e];simpa using this) n (by simp [h1])
  refine ⟨.string (keyBytes ls.flatten),?_⟩
  unfold keyOf
  rw [hu]
  have hf:(Value.agg cs).formed P kt=true:=by simp [Value.formed,hu,M8,h1]
  simp only [hkt,hf,Bool.and_self,if_true]
  unfold Program.keyLits
  rw [hu]
  have hl:(Value.agg cs).cells.toList.length=P.cellsOf kt:=by simp [Value.cells,M8,h1]
  simp only [hl,if_true,hD]
  have:(Value.agg cs).cells.toList=cs.toList:=rfl
  rw [this,Nx]
  rfl
 have K:=A.law
 exact {
  check:=fun w em v hv=>let ⟨l,hl⟩:=key v hv;K.check w em hl
  find:=fun w x hx es jd=>let ⟨l,hl⟩:=key x hx;K.find w hl es fun e he=>key _ (jd e he)
  stays:=fun w v hv=>let ⟨l,hl⟩:=key v hv;K.stays w hl }

theorem Fj {t:TypeId} {g:fx} (h:pa P t=some g):∃kt et,P.underlying t=some (.map kt et)∧CN P kt g:=by
 unfold pa at h
 split at h
 ·rename_i kt et ht
  refine ⟨kt,et,ht,?_⟩
  split at h
  ·cases h
  ·split at h
   ·rename_i hk
    simp at h;subst h
    exact agh hk fun v hv=>by cases v <;> simp [ep] at hv;trivial
   ·rename_i k hk
    simp at h;subst h
    exact agh hk fun v hv=>by cases v <;> simp [ep,jM] at hv;exact hv
   ·rename_i n e hk
    split at h
    ·rename_i k he
     split at h
     ·rename_i hc
      simp at h;subst h
      simp at hc
      exact atI hk he hc.1.1 hc.1.2 (by rw [Ne,Array.size_eq_zero_iff];exact hc.2)
     ·cases h
    ·cases h
   ·cases h
 ·cases h

end

section
variable {P : Program} {w : World} {ρ : aF} {h : ae}

structure pX (ρ:aF) (g:fx) (es:List (Nat×Value×Value)) (aJ:Array MapEntry):Prop where
 size:aJ.size=es.length
 nodup:(es.map fun e=>e.2.1).Nodup
 get:∀(j b:Nat) (k v:Value),es[j]?=some (b,k,v)→ep g k=true∧∃en,aJ[j]?=some en∧en.key=k∧en.born=b∧aw ρ v en.val

theorem aT.yh (H:aT P ρ h w) {i:Nat} {r:RI} {g:fx} {c:Nat} {es:List (Nat×Value×Value)} (hi:ρ i=some r) (he:h[i]?=some (.dQ g c es)):
  ∃aJ,w.heap[r.bj]?=some (.map aJ c)∧pX ρ g es aJ:=by
 obtain ⟨o,ho,hr⟩:=H.obj i r hi
 rw [he] at ho
 cases ho
 obtain ⟨h0,aJ,h1,h2,h3⟩:=hr
 exact ⟨aJ,h1,h2,h0,h3⟩

theorem pX.inv {g:fx} {es:List (Nat×Value×Value)} {aJ:Array MapEntry} (E:pX ρ g es aJ) {j:Nat} {en:MapEntry} (hj:aJ[j]?=some en):∃v,es[j]?=some (en.born,en.key,v)∧ep g en.key=true∧aw ρ v en.val:=by
 have aC:j<es.length:=by rw [←E.size];exact (Array.getElem?_eq_some_iff.1 hj).1
 obtain ⟨b,k,v⟩:Nat×Value×Value:=es[j]
 have jd:=List.getElem?_eq_getElem aC
 generalize he:es[j]=x at jd
 obtain ⟨b,k,v⟩:=x
 obtain ⟨g1,YH,g2,g3,g4,g5⟩:=E.get j b k v jd
 rw [hj] at g2
 cases g2
 subst g3;subst g4
 exact ⟨v,jd,g1,g5⟩

theorem Q2 {g:fx} {kt:TypeId} {es:List (Nat×Value×Value)} {aJ:Array MapEntry} (L:CN P kt g) (E:pX ρ g es aJ) {k:Value} (hk:ep g k=true):
  ((mo k es=none∧(∀e∈es,e.2.1≠k))∧(Instr.findKey kt k aJ.toList).run P w=.ok none w)∨
  ∃j b v en,mo k es=some j∧es[j]?=some (b,k,v)∧aJ[j]?=some en∧en.key=k∧en.born=b∧aw ρ v en.val∧(Instr.findKey kt k aJ.toList).run P w=.ok (some (j,en.val)) w:=by
 have eW:∀e∈aJ.toList,ep g e.key=true:=by
  intro e he
  obtain ⟨j,hj,e'⟩:=List.mem_iff_getElem.1 he
  have:aJ[j]?=some e:=by
   rw [←Array.getElem?_toList,List.getElem?_eq_getElem hj,e']
  exact (E.inv this).choose_spec.2.1
 rcases L.find w k hk aJ.toList eW with ⟨h1,h2⟩ | ⟨j,en,h1,h2,h3⟩
 ·rcases Hd hk es with ⟨p1,p2⟩ | ⟨j,e,p1,p2,p3⟩
  ·exact .inl ⟨⟨p1,p2⟩,h1⟩
  ·exfalso
   obtain ⟨b,k',v⟩:=e
   obtain ⟨_,en,q1,q2,_⟩:=E.get j b k' v p2
   have hm:en∈aJ.toList:=by
    rw [←Array.getElem?_toList] at q1
    exact List.mem_of_getElem? q1
   exact h2 en hm (q2.trans p3)
 ·have Ze:aJ[j]?=some en:=by rw [←Array.getElem?_toList];exact h2
  obtain ⟨v,q1,q2,q3⟩:=E.inv Ze
  rcases Hd hk es with ⟨p1,p2⟩ | ⟨j',e,p1,p2,p3⟩
  ·exact absurd h3 (p2 _ (List.mem_of_getElem? q1))
  ·have hj:j'=j:=by
    have hn:=List.pairwise_iff_getElem.1 E.nodup
    have l1:j<es.length:=(List.getElem?_eq_some_iff.1 q1).1
    have l2:j'<es.length:=(List.getElem?_eq_some_iff.1 p2).1
    have k1:(es.map fun e=>e.2.1)[j]'(by simpa using l1)=k:=by
     have:=(List.getElem?_eq_some_iff.1 q1).2
     simp [this,h3]
    have k2:(es.map fun e=>e.2.1)[j']'(by simpa using l2)=k:=by
     have:=(List.getElem?_eq_some_iff.1 p2).2
     simp [this,p3]
    rcases Nat.lt_trichotomy j j' with aC | heq | aC
    ·exact absurd (k1.trans k2.symm) (hn j j' _ _ aC)
    ·exact heq.symm
    ·exact absurd (k2.trans k1.symm) (hn j' j _ _ aC)
   subst hj
   exact .inr ⟨_,_,v,en,p1,by rw [q1,h3],Ze,h3,rfl,q3,h1⟩

theorem xE.rel {z:Value} (h:xE z=true):aw ρ z z:=by
 unfold xE at h
 split at h
 ·rename_i cs
  rw [List.all_eq_true] at h
  have cl:∀x∈cs.toList,km x=true∧eL x=true:=fun x hx=>by have:=h x hx;simpa [yc] using this
  refine .agg rfl (fun x hx=>(cl x hx).2) (fun k x x' hx bG=>?_)
  rw [hx] at bG
  cases bG
  exact km.rel (cl x (by rw [←Array.getElem?_toList] at hx;exact List.mem_of_getElem? hx)).1
 ·exact km.rel h

theorem azk (H:aT P ρ h w) {it BK v:Value} (hi:wO h it=some v) (hv:aw ρ it BK):∃v',(Instr.entry BK).run P w=.ok v' w∧aw ρ v v':=by
 unfold wO at hi
 split at hi
 ·rename_i j
  split at hi
  ·rename_i i since seen last qx
   split at hi
   ·rename_i g c es b jd hb
    split at hi
    ·rename_i fh
     subst fh
     cases hv with
     | ptr hr=>
      rename_i r
      obtain ⟨o,ho,lF⟩:=H.obj j r hr
      rw [qx] at ho
      cases ho
      obtain ⟨uz,rm,FV,n9⟩:=lF
      obtain ⟨aJ,hm,E⟩:=H.yh FV jd
      rw [uz]
      rw [Option.map_eq_some_iff] at hi
      obtain ⟨e,he,rfl⟩:=hi
      have asv:∃en,aJ.find? (fun x=>x.born==b)=some en∧en.key=e.2.1∧ep g e.2.1=true∧aw ρ e.2.2 en.val:=by
       rw [←Array.find?_toList]
       have key:∀(l1:List (Nat×Value×Value)) (l2:List MapEntry),l2.length=l1.length→(∀(j b:Nat) (k v:Value),l1[j]?=some (b,k,v)→ep g k=true∧∃en,l2[j]?=some en∧en.key=k∧en.born=b∧aw ρ v en.val)→
         l1.find? (fun x=>x.1==b)=some e→∃en,l2.find? (fun x=>x.born==b)=some en∧en.key=e.2.1∧ep g e.2.1=true∧aw ρ e.2.2 en.val:=by
        intro l1
        induction l1 with
        | nil=>intro l2 _ _ h;simp at h
        | cons x l1 ih=>
         intro l2 hl eW hf
         obtain ⟨bx,kx,vx⟩:=x
         cases l2 with
         | nil=>simp at hl
         | cons y l2=>
          obtain ⟨g1,en,g2,g3,g4,g5⟩:=eW 0 bx kx vx rfl
          simp at g2
          subst g2
          rw [List.find?_cons] at hf⊢
          by_cases yA:(bx==b)=true
          ·simp only [yA] at hf
           cases hf
           rw [g4]
           simp only [yA]
           exact ⟨y,rfl,g3,g1,g5⟩
          ·have yA:(bx==b)=false:=by simpa using yA
           simp only [yA] at hf
           rw [g4]
           simp only [yA]
           exact ih l2 (by simpa using hl) (fun j b k v hj=>by simpa using eW (j+1) b k v (by simpa using hj)) hf
       exact key es aJ.toList (by simp [E.size]) (fun j b k v hj=>by simpa using E.get j b k v hj) he
      obtain ⟨en,f1,f2,f3,f4⟩:=asv
      have bN:(getObj r.bj).run P w=.ok (.mapIter (some rm.bj) since seen.toArray c) w:=by simp [getObj,Sem.run,n9]
      have Ng:(getObj rm.bj).run P w=.ok (.map aJ c) w:=by simp [getObj,Sem.run,hm]
      have vV:seen.toArray.back?=some b:=by simpa using hb
      refine ⟨.tuple #[en.key,en.val],?_,?_⟩
      ·unfold Instr.entry
       simp [bN,Ng,hb,f1]
      ·rw [f2]
       have Ns:aw ρ e.2.1 e.2.1:=by
        have ints:∀{kd:IntKind} {v:Value},jM kd v=true→aw ρ v v∧eL v=true:=by
         intro kd v hv
         cases v <;> simp [jM] at hv
         exact ⟨.int _ _,rfl⟩
        cases Bi:e.2.1 with
        | int kd n=>exact .int _ _
        | string s=>exact .string _
        | agg cs=>
         rw [Bi] at f3
         cases g with
         | ints n kd=>
          simp only [ep,Bool.and_eq_true,List.all_eq_true] at f3
          refine .agg rfl (fun x hx=>(ints (f3.2 x hx).1).2) (fun k x x' hx bG=>?_)
          rw [hx] at bG
          cases bG
          exact (ints (f3.2 x (by rw [←Array.getElem?_toList] at hx;exact List.mem_of_getElem? hx)).1).1
         | int _=>simp [ep,jM] at f3
         | str=>simp [ep] at f3
        | _=>rw [Bi] at f3;cases g <;> simp [ep,jM] at f3
       exact aw.pO (.cons Ns (.cons f4 .nil))
    ·cases hi
   ·cases hi
  ·cases hi
 ·cases hi

theorem aA8 {t:TypeId} {z:Value} (hz:Ir P t=some z):(∀w,(zeroValue t).run P w=.ok z w)∧xE z=true:=by
 unfold Ir at hz
 split at hz
 ·rename_i i hi
  split at hz
  ·rename_i z' pF
   split at hz
   ·rename_i hc
    simp at hz;subst hz
    exact ⟨fun w=>xu w hi pF,hc⟩
   ·cases hz
  ·cases hz
 ·cases hz

theorem aw.key {g:fx} {k k':Value} (hk:ep g k=true) (h:aw ρ k k'):k'=k:=by
 have ints:∀{kd:IntKind} {v v':Value},jM kd v=true→aw ρ v v'→v'=v:=by
  intro kd v v' hv hr
  cases hr <;> first | rfl | simp [jM] at hv
 cases h with
 | int=>rfl
 | string=>rfl
 | agg hs _ eW=>
  rename_i xs eC _
  cases g with
  | ints n kd=>
   simp only [ep,Bool.and_eq_true,List.all_eq_true] at hk
   congr 1
   apply Array.ext
   ·exact hs.symm
   ·intro i h1 h2
    exact ints (hk.2 xs[i] (by simp)).1 (eW i _ _ (Array.getElem?_eq_getElem h2) (Array.getElem?_eq_getElem h1))
  | int _=>simp [ep,jM] at hk
  | str=>simp [ep] at hk
 | _=>cases g <;> simp [ep,jM] at hk

theorem azs (H:aT P ρ h w) {t kt et:TypeId} {g:fx} {ok:Bool} {z m m' k k' v:Value} (hg:pa P t=some g) (ht:P.underlying t=some (.map kt et)) (hz:Ir P et=some z)
  (hi:F0 g ok z h m k=some v) (hm:aw ρ m m') (jI:aw ρ k k'):∃v',(Instr.lookup t m' k' ok).run P w=.ok v' w∧aw ρ v v':=by
 obtain ⟨kt',et',ht',L⟩:=Fj hg
 rw [ht] at ht'
 cases ht'
 unfold F0 at hi
 split at hi
 ·rename_i i
  cases hm with
  | map hr=>
   rename_i r
   split at hi
   ·rename_i g' c es he
    split at hi
    ·rename_i mO
     obtain ⟨rfl,hk⟩:=mO
     rw [jI.key hk]
     have aht:∀{aJ:Array MapEntry} {clock:Nat},w.heap[r.bj]?=some (.map aJ clock)→(getObj r.bj).run P w=.ok (.map aJ clock) w:=by
      intro aJ clock hb
      simp [getObj,Sem.run,hb]
     obtain ⟨aJ,hb,E⟩:=H.yh hr he
     obtain ⟨nC,mi⟩:=aA8 hz
     rcases Q2 (w:=w) L E hk with ⟨⟨e1,_⟩,e2⟩ | ⟨j,b,u,en,e1,e2,e3,e4,e5,e6,e7⟩
     ·have:vO k es=none:=by simp [vO,e1]
      rw [this] at hi
      simp at hi
      have fF:(Instr.lookup t (.map (some r.bj)) k ok).run P w=.ok (if ok then .tuple #[z,.bool false] else z) w:=by
       simp [Instr.lookup,run_underlying ht,aht hb,L.check w _ k hk,e2,nC]
      refine ⟨_,fF,?_⟩
      subst hi
      cases ok
      ·exact xE.rel mi
      ·exact aw.pO (.cons (xE.rel mi) (.cons (.bool _) .nil))
     ·have:vO k es=some u:=by simp [vO,e1,e2]
      rw [this] at hi
      simp at hi
      have fF:(Instr.lookup t (.map (some r.bj)) k ok).run P w=.ok (if ok then .tuple #[en.val,.bool true] else en.val) w:=by
       simp [Instr.lookup,run_underlying ht,aht hb,L.check w _ k hk,e7]
      refine ⟨_,fF,?_⟩
      subst hi
      cases ok
      ·exact e6
      ·exact aw.pO (.cons e6 (.cons (.bool _) .nil))
    ·cases hi
   ·cases hi
 ·cases hi

end
end Go.Sim


namespace Go.Sim

inductive kH (ρ:aF):List (ByteArray×Value)→List MapEntry→Prop
 | nil:kH ρ [] []
 | cons {k:ByteArray} {v:Value} {en:MapEntry} {es:List (ByteArray×Value)} {aJ:List MapEntry}:en.key=.string k→aw ρ v en.val→kH ρ es aJ→kH ρ ((k,v)::es) (en::aJ)

theorem kH.of {ρ:aF}:∀{es:List (ByteArray×Value)} {aJ:List MapEntry},aJ.length=es.length→
  (∀(j:Nat) (k:ByteArray) (v:Value),es[j]?=some (k,v)→∃en,aJ[j]?=some en∧en.key=.string k∧aw ρ v en.val)→kH ρ es aJ
 | [],[],_,_=>.nil
 | (k,v)::es,en::aJ,hl,h=>by
  obtain ⟨YH,h1,h2,h3⟩:=h 0 k v rfl
  simp at h1;subst h1
  exact .cons h2 h3 (kH.of (by simpa using hl) fun j k' v' hj=>by simpa using h (j+1) k' v' (by simpa using hj))

theorem kH.to {ρ:aF} {es:List (ByteArray×Value)} {aJ:List MapEntry} (h:kH ρ es aJ):
  aJ.length=es.length∧∀(j:Nat) (k:ByteArray) (v:Value),es[j]?=some (k,v)→∃en,aJ[j]?=some en∧en.key=.string k∧aw ρ v en.val:=by
 induction h with
 | nil=>exact ⟨rfl,fun j k v hj=>by simp at hj⟩
 | cons h1 h2 _ ih=>
  refine ⟨by simp [ih.1],?_⟩
  intro j k v hj
  cases j with
  | zero=>simp at hj;obtain ⟨rfl,rfl⟩:=hj;exact ⟨_,rfl,h1,h2⟩
  | succ j=>simp at hj;simpa using ih.2 j k v hj

theorem kH.mono {ρ au:aF} (hle:ρ.le au) {es:List (ByteArray×Value)} {aJ:List MapEntry} (h:kH ρ es aJ):kH au es aJ:=by
 induction h with
 | nil=>exact .nil
 | cons h1 h2 _ ih=>exact .cons h1 (h2.mono hle) ih

theorem arS {ρ:aF} {es:List (ByteArray×Value)} {aJ:List MapEntry} (h:kH ρ es aJ) (k:ByteArray):∀i:Nat,
  (sB k es=none∧Instr.findNow .string (.string k) aJ i=some none)∨
  (∃v v' j,sB k es=some v∧Instr.findNow .string (.string k) aJ i=some (some (i+j,v'))∧aw ρ v v'∧(∃en,aJ[j]?=some en∧en.key=.string k)):=by
 induction h with
 | nil=>intro i;exact .inl ⟨rfl,rfl⟩
 | cons h1 h2 _ ih=>
  rename_i k0 v0 en es aJ _
  intro i
  by_cases hk:k=k0
  ·subst hk
   refine .inr ⟨v0,en.val,0,by simp [sB],?_,h2,en,rfl,h1⟩
   have hb:(k==k)=true:=(MapKept.bytes_beq k k).2 rfl
   simp [Instr.findNow,h1,Instr.sameNow,hb]
  ·have hb:(k==k0)=false:=by
    rw [Bool.eq_false_iff]
    exact fun e=>hk ((MapKept.bytes_beq k k0).1 e)
   rcases ih (i+1) with ⟨e1,e2⟩ | ⟨v,v',j,e1,e2,e3,e4⟩
   ·refine .inl ⟨by simp [sB,hk,e1],?_⟩
    simp [Instr.findNow,h1,Instr.sameNow,hb,e2]
   ·refine .inr ⟨v,v',j+1,by simp [sB,hk,e1],?_,e3,?_⟩
    ·simp [Instr.findNow,h1,Instr.sameNow,hb,e2];omega
    ·simpa using e4

inductive kI (kd:IntKind) (ρ:aF):List (Int×Value)→List MapEntry→Prop
 | nil:kI kd ρ [] []
 | cons {k:Int} {v:Value} {en:MapEntry} {es:List (Int×Value)} {aJ:List MapEntry}:en.key=.int kd k→aw ρ v en.val→kI kd ρ es aJ→kI kd ρ ((k,v)::es) (en::aJ)

theorem kI.of {kd:IntKind} {ρ:aF}:∀{es:List (Int×Value)} {aJ:List MapEntry},aJ.length=es.length→
  (∀(j:Nat) (k:Int) (v:Value),es[j]?=some (k,v)→∃en,aJ[j]?=some en∧en.key=.int kd k∧aw ρ v en.val)→kI kd ρ es aJ
 | [],[],_,_=>.nil
 | (k,v)::es,en::aJ,hl,h=>by
  obtain ⟨YH,h1,h2,h3⟩:=h 0 k v rfl
  simp at h1;subst h1
  exact .cons h2 h3 (kI.of (by simpa using hl) fun j k' v' hj=>by simpa using h (j+1) k' v' (by simpa using hj))

theorem kI.to {kd:IntKind} {ρ:aF} {es:List (Int×Value)} {aJ:List MapEntry} (h:kI kd ρ es aJ):
  aJ.length=es.length∧∀(j:Nat) (k:Int) (v:Value),es[j]?=some (k,v)→∃en,aJ[j]?=some en∧en.key=.int kd k∧aw ρ v en.val:=by
 induction h with
 | nil=>exact ⟨rfl,fun j k v hj=>by simp at hj⟩
 | cons h1 h2 _ ih=>
  refine ⟨by simp [ih.1],?_⟩
  intro j k v hj
  cases j with
  | zero=>simp at hj;obtain ⟨rfl,rfl⟩:=hj;exact ⟨_,rfl,h1,h2⟩
  | succ j=>simp at hj;simpa using ih.2 j k v hj

theorem kI.mono {kd:IntKind} {ρ au:aF} (hle:ρ.le au) {es:List (Int×Value)} {aJ:List MapEntry} (h:kI kd ρ es aJ):kI kd au es aJ:=by
 induction h with
 | nil=>exact .nil
 | cons h1 h2 _ ih=>exact .cons h1 (h2.mono hle) ih

theorem arT {kd:IntKind} {ρ:aF} {es:List (Int×Value)} {aJ:List MapEntry} (h:kI kd ρ es aJ) (k:Int):∀i:Nat,
  (mJ k es=none∧Instr.findNow (.int kd) (.int kd k) aJ i=some none)∨
  (∃v v' j,mJ k es=some v∧Instr.findNow (.int kd) (.int kd k) aJ i=some (some (i+j,v'))∧aw ρ v v'∧(∃en,aJ[j]?=some en∧en.key=.int kd k)):=by
 induction h with
 | nil=>intro i;exact .inl ⟨rfl,rfl⟩
 | cons h1 h2 _ ih=>
  rename_i k0 v0 en es aJ _
  intro i
  by_cases hk:k=k0
  ·subst hk
   refine .inr ⟨v0,en.val,0,by simp [mJ],?_,h2,en,rfl,h1⟩
   have hb:(k==k)=true:=beq_self_eq_true k
   simp [Instr.findNow,h1,Instr.sameNow]
  ·have hb:(k==k0)=false:=by
    exact beq_false_of_ne hk
   rcases ih (i+1) with ⟨e1,e2⟩ | ⟨v,v',j,e1,e2,e3,e4⟩
   ·refine .inl ⟨by simp [mJ,hk,e1],?_⟩
    simp [Instr.findNow,h1,Instr.sameNow,hb,e2]
   ·refine .inr ⟨v,v',j+1,by simp [mJ,hk,e1],?_,e3,?_⟩
    ·simp [Instr.findNow,h1,Instr.sameNow,hb,e2];omega
    ·simpa using e4

section
variable {P : Program} {w : World} {ρ : aF} {h : ae}

theorem aaZ {t:TypeId} (h:isString P t=true):P.underlying t=some .string:=by
 unfold isString at h
 split at h
 ·assumption
 ·cases h

theorem run_checkKey (b:Bool) {kt:TypeId} (hk:P.underlying kt=some .string) (k:ByteArray):(Instr.checkKey b 10000 kt (.string k)).run P w=.ok () w:=by
 rw [show (10000:Nat)=9999+1 from rfl,Instr.checkKey]
 simp [run_underlying hk]

theorem run_findKey {kt:TypeId} (hk:P.underlying kt=some .string) (k:ByteArray) (aJ:List MapEntry) {r:Option (Nat×Value)} (hr:Instr.findNow .string (.string k) aJ 0=some r):
  (Instr.findKey kt (.string k) aJ).run P w=.ok r w:=by
 simp [Instr.findKey,run_underlying hk,hr]

theorem Hz (b:Bool) {kt:TypeId} {kd:IntKind} (hk:P.underlying kt=some (.int kd)) (k:Int):(Instr.checkKey b 10000 kt (.int kd k)).run P w=.ok () w:=by
 rw [show (10000:Nat)=9999+1 from rfl,Instr.checkKey]
 simp [run_underlying hk]

theorem HA {kt:TypeId} {kd:IntKind} (hk:P.underlying kt=some (.int kd)) (k:Int) (aJ:List MapEntry) {r:Option (Nat×Value)} (hr:Instr.findNow (.int kd) (.int kd k) aJ 0=some r):
  (Instr.findKey kt (.int kd k) aJ).run P w=.ok r w:=by
 simp [Instr.findKey,run_underlying hk,hr]

theorem aT.aJ (H:aT P ρ h w) {i:Nat} {r:RI} {es:List (ByteArray×Value)} (hi:ρ i=some r) (he:h[i]?=some (.smap es)):
  ∃aJ clock,w.heap[r.bj]?=some (.map aJ clock)∧kH ρ es aJ.toList:=by
 obtain ⟨o,ho,hr⟩:=H.obj i r hi
 rw [he] at ho
 cases ho
 obtain ⟨aJ,clock,h1,h2,h3⟩:=hr
 exact ⟨aJ,clock,h1,kH.of (by simpa using h2) (by simpa using h3)⟩

theorem aT.YI (H:aT P ρ h w) {i:Nat} {r:RI} {kd:IntKind} {es:List (Int×Value)} (hi:ρ i=some r) (he:h[i]?=some (.jw kd es)):
  ∃aJ clock,w.heap[r.bj]?=some (.map aJ clock)∧kI kd ρ es aJ.toList:=by
 obtain ⟨o,ho,hr⟩:=H.obj i r hi
 rw [he] at ho
 cases ho
 obtain ⟨aJ,clock,h1,h2,h3⟩:=hr
 exact ⟨aJ,clock,h1,kI.of (by simpa using h2) (by simpa using h3)⟩

theorem run_getObj_map {b:Nat} {aJ:Array MapEntry} {clock:Nat} (hb:w.heap[b]?=some (.map aJ clock)):(getObj b).run P w=.ok (.map aJ clock) w:=by
 simp [getObj,Sem.run,hb]

theorem aiz {t:TypeId} {z:Value} (hz:zY P t=some z):(∀w,(zeroValue t).run P w=.ok z w)∧km z=true:=by
 unfold zY at hz
 split at hz
 ·rename_i i hi
  split at hz
  ·rename_i z' pF
   split at hz
   ·rename_i hc
    simp at hz;subst hz
    simp [yc] at hc
    exact ⟨fun w=>xu w hi pF,hc.1⟩
   ·cases hz
  ·cases hz
 ·cases hz

theorem azr (H:aT P ρ h w) {t kt et:TypeId} {ok:Bool} {z m m' k k' v:Value} (ht:P.underlying t=some (.map kt et)) (hk:isString P kt=true) (hz:zY P et=some z)
  (hi:FZ ok z h m k=some v) (hm:aw ρ m m') (jI:aw ρ k k'):∃v',(Instr.lookup t m' k' ok).run P w=.ok v' w∧aw ρ v v':=by
 unfold FZ at hi
 split at hi
 ·rename_i i key
  rw [jI.tw]
  cases hm with
  | map hr=>
   rename_i r
   split at hi
   ·rename_i es he
    obtain ⟨aJ,clock,hb,wj⟩:=H.aJ hr he
    obtain ⟨nC,mi⟩:=aiz hz
    have kr:=aaZ hk
    rcases arS wj key 0 with ⟨e1,e2⟩ | ⟨u,u',j,e1,e2,e3,_⟩
    ·rw [e1] at hi
     simp at hi
     have fF:(Instr.lookup t (.map (some r.bj)) (.string key) ok).run P w=.ok (if ok then .tuple #[z,.bool false] else z) w:=by
      simp [Instr.lookup,run_underlying ht,run_getObj_map hb,run_checkKey _ kr,run_findKey kr key _ e2,nC]
     refine ⟨_,fF,?_⟩
     subst hi
     cases ok
     ·exact km.rel mi
     ·exact aw.pO (.cons (km.rel mi) (.cons (.bool _) .nil))
    ·rw [e1] at hi
     simp at hi
     have fF:(Instr.lookup t (.map (some r.bj)) (.string key) ok).run P w=.ok (if ok then .tuple #[u',.bool true] else u') w:=by
      simp [Instr.lookup,run_underlying ht,run_getObj_map hb,run_checkKey _ kr,run_findKey kr key _ e2]
     refine ⟨_,fF,?_⟩
     subst hi
     cases ok
     ·exact e3
     ·exact aw.pO (.cons e3 (.cons (.bool _) .nil))
   ·cases hi
 ·cases hi

theorem aaV {t:TypeId} {kd:IntKind} (h:wX P t=some kd):P.underlying t=some (.int kd):=by
 unfold wX at h
 split at h
 ·simp at h;subst h;assumption
 ·cases h

theorem azt (H:aT P ρ h w) {t kt et:TypeId} {kd:IntKind} {ok:Bool} {z m m' k k' v:Value} (ht:P.underlying t=some (.map kt et)) (hk:wX P kt=some kd) (hz:zY P et=some z)
  (hi:F1 kd ok z h m k=some v) (hm:aw ρ m m') (jI:aw ρ k k'):∃v',(Instr.lookup t m' k' ok).run P w=.ok v' w∧aw ρ v v':=by
 unfold F1 at hi
 split at hi
 ·rename_i i yY key
  rw [jI.kB]
  cases hm with
  | map hr=>
   rename_i r
   split at hi
   ·rename_i lH es he
    split at hi
    ·rename_i mO
     obtain ⟨rfl,rfl⟩:=mO
     obtain ⟨aJ,clock,hb,wj⟩:=H.YI hr he
     obtain ⟨nC,mi⟩:=aiz hz
     have kr:=aaV hk
     rcases arT wj key 0 with ⟨e1,e2⟩ | ⟨u,u',j,e1,e2,e3,_⟩
     ·rw [e1] at hi
      simp at hi
      have fF:(Instr.lookup t (.map (some r.bj)) (.int lH key) ok).run P w=.ok (if ok then .tuple #[z,.bool false] else z) w:=by
       simp [Instr.lookup,run_underlying ht,run_getObj_map hb,Hz _ kr,HA kr key _ e2,nC]
      refine ⟨_,fF,?_⟩
      subst hi
      cases ok
      ·exact km.rel mi
      ·exact aw.pO (.cons (km.rel mi) (.cons (.bool _) .nil))
     ·rw [e1] at hi
      simp at hi
      have fF:(Instr.lookup t (.map (some r.bj)) (.int lH key) ok).run P w=.ok (if ok then .tuple #[u',.bool true] else u') w:=by
       simp [Instr.lookup,run_underlying ht,run_getObj_map hb,Hz _ kr,HA kr key _ e2]
      refine ⟨_,fF,?_⟩
      subst hi
      cases ok
      ·exact e3
      ·exact aw.pO (.cons e3 (.cons (.bool _) .nil))
    ·cases hi
   ·cases hi
 ·cases hi

theorem auT {o:Oper} {lo:m9} {g g':Operand→Value} (hc:sr P o.op=some lo) (aB:o.op.operands.all iy=true) (H:aT P ρ h w)
  (hg:∀x,iy x=true→aw ρ (g x) (g' x)) {v:Value} (hi:eK lo g h=some v):∃v',(execOp g' o).run P w=.ok (.value v') w∧aw ρ v v':=by
 cases ho:o.op with
 | load t a=>
  rw [ho] at hc aB
  simp [Op.operands] at aB
  simp only [sr] at hc
  split at hc
  ·rename_i d ht
   split at hc
   ·rename_i hk
    simp at hc;subst hc
    simp only [Bool.and_eq_true] at hk
    obtain ⟨v',h1,h2⟩:=ahw H ht hk.1 hi (hg a aB)
    exact ⟨v',by simp [execOp,ho,h1],h2⟩
   ·cases hc
  ·cases hc
 | entry it=>
  rw [ho] at hc aB
  simp [Op.operands] at aB
  simp [sr] at hc;subst hc
  obtain ⟨v',h1,h2⟩:=azk H hi (hg it aB)
  exact ⟨v',by simp [execOp,ho,h1],h2⟩
 | convert s d x=>
  rw [ho] at hc aB
  simp [Op.operands] at aB
  simp only [sr] at hc
  split at hc
  ·rename_i e hs hd
   split at hc
   ·rename_i he
    simp at hc;subst hc
    have hx:=hg x aB
    obtain ⟨h1,h2⟩:=azd H hi hx
    refine ⟨v,?_,h2⟩
    have:(convert s d (g' x)).run P w=.ok v w:=by
     simp only [eK,rH,Option.bind_eq_some_iff] at hi
     obtain ⟨cs,qp,_⟩:=hi
     rcases HQ H qp hx with ⟨e1,_⟩ | ⟨b,o',n,c',e1,_⟩
     ·rw [e1] at h1⊢;rw [run_convert_bytes_string w s d e _ _ _ hs he hd];exact h1
     ·rw [e1] at h1⊢;rw [run_convert_bytes_string w s d e _ _ _ hs he hd];exact h1
    simp [execOp,ho,this]
   ·cases hc
  ·cases hc
 | lookup t m k ok=>
  rw [ho] at hc aB
  simp [Op.operands] at aB
  simp only [sr] at hc
  split at hc
  ·rename_i g ju
   split at hc
   ·rename_i kt et ht
    simp only [Option.map_eq_some_iff] at hc
    obtain ⟨z,hz,rfl⟩:=hc
    obtain ⟨v',h1,h2⟩:=azs H ju ht hz hi (hg m aB.1) (hg k aB.2)
    exact ⟨v',by simp [execOp,ho,h1],h2⟩
   ·cases hc
  split at hc
  ·rename_i kt et ht
   split at hc
   ·rename_i hk
    simp only [Option.map_eq_some_iff] at hc
    obtain ⟨z,hz,rfl⟩:=hc
    obtain ⟨v',h1,h2⟩:=azr H ht hk hz hi (hg m aB.1) (hg k aB.2)
    exact ⟨v',by simp [execOp,ho,h1],h2⟩
   ·simp only [Option.bind_eq_some_iff,Option.map_eq_some_iff] at hc
    obtain ⟨kd,mO,z,hz,rfl⟩:=hc
    obtain ⟨v',h1,h2⟩:=azt H ht mO hz hi (hg m aB.1) (hg k aB.2)
    exact ⟨v',by simp [execOp,ho,h1],h2⟩
  ·cases hc
 | _=>rw [ho] at hc;simp [sr] at hc

end
end Go.Sim


namespace Go.Sim

theorem HG {xs:List Value} {o:Nat} {vs:List Value} (h:o+vs.length≤xs.length) (j:Nat):
  (setAt xs o vs)[j]?=if j<o then xs[j]? else if j<o+vs.length then vs[j-o]? else xs[j]?:=by
 have hl:(xs.take o).length=o:=by simp;omega
 unfold setAt
 by_cases h1:j<o
 ·rw [if_pos h1,List.append_assoc,List.getElem?_append_left (by omega),List.getElem?_take,if_pos h1]
 ·rw [if_neg h1]
  by_cases h2:j<o+vs.length
  ·rw [if_pos h2,List.append_assoc,List.getElem?_append_right (by omega),hl,List.getElem?_append_left (by omega)]
  ·rw [if_neg h2,List.getElem?_append_right (by simp;omega),List.getElem?_drop]
   congr 1
   simp
   omega

theorem Rb {xs:List Value} {o:Nat} {vs:List Value} (h:o+vs.length≤xs.length):(setAt xs o vs).length=xs.length:=by
 unfold setAt
 simp
 omega

theorem fw.le {ρ:aF} {c:Array Value} {xs:List Value} (h:fw ρ c 0 xs):xs.length≤c.size:=by
 rcases Nat.eq_zero_or_pos xs.length with hz | hz
 ·omega
 ·have hx:xs[xs.length-1]?=some (xs[xs.length-1]'(by omega)):=List.getElem?_eq_getElem _
  obtain ⟨_,y,hy,_⟩:=h _ _ hx
  have:=(Array.getElem?_eq_some_iff.1 hy).1
  omega

theorem fw.put {ρ:aF} {c:Array Value} {xs:List Value} {o:Nat} {vs iI:List Value} (h:fw ρ c 0 xs) (hv:bn ρ vs iI) (h1:∀x∈vs,eL x=true) (hl:o+vs.length≤xs.length):
  fw ρ (setAt c.toList o iI).toArray 0 (setAt xs o vs):=by
 intro j x hj
 have fh:=h.le
 have hlen:=hv.length
 rw [HG hl] at hj
 have e:(setAt c.toList o iI).toArray[0+j]?=if j<o then c.toList[j]? else if j<o+iI.length then iI[j-o]? else c.toList[j]?:=by
  rw [Nat.zero_add,List.getElem?_toArray,HG (by simp;omega)]
 rw [e]
 by_cases yq:j<o
 ·rw [if_pos yq] at hj⊢
  obtain ⟨q1,y,q2,q3⟩:=h j x hj
  exact ⟨q1,y,by simpa using q2,q3⟩
 ·rw [if_neg yq] at hj⊢
  by_cases h2:j<o+vs.length
  ·rw [if_pos h2] at hj
   rw [if_pos (by omega)]
   obtain ⟨y,q2,q3⟩:=hv.get hj
   exact ⟨h1 x (List.mem_of_getElem? hj),y,q2,q3⟩
  ·rw [if_neg h2] at hj
   rw [if_neg (by omega)]
   obtain ⟨q1,y,q2,q3⟩:=h j x hj
   exact ⟨q1,y,by simpa using q2,q3⟩

theorem YU (z:List Value) (n:Nat):∀(j:Nat),j<n*z.length→(List.replicate n z).flatten[j]?=z[j%z.length]?:=by
 induction n with
 | zero=>intro j hj;simp at hj
 | succ n ih=>
  intro j hj
  rw [List.replicate_succ,List.flatten_cons]
  by_cases h:j<z.length
  ·rw [List.getElem?_append_left h,Nat.mod_eq_of_lt h]
  ·have e:j%z.length=(j-z.length)%z.length:=by rw [Nat.mod_eq_sub_mod (by omega)]
   rw [List.getElem?_append_right (by omega),ih _ (by rw [Nat.add_mul] at hj;omega),e]

theorem RM (z:List Value) (n:Nat):(gL z n).length=n*z.length:=by
 induction n with
 | zero=>simp [gL]
 | succ n ih=>simp only [gL,List.replicate_succ,List.flatten_cons,List.length_append] at ih⊢;rw [ih,Nat.add_mul];omega

theorem aiA {z:List Value} {n:Nat} {p:Value→Prop} (h:∀x∈z,p x):∀x∈gL z n,p x:=by
 intro x hx
 simp only [gL,List.mem_flatten,List.mem_replicate] at hx
 obtain ⟨l,⟨_,rfl⟩,hm⟩:=hx
 exact h x hm

theorem abl (z:Array Value) (m j:Nat) (hj:j<m) (hz:0<z.size):(madeCells z m)[j]?=z[j%z.size]?:=by
 have aC:j%z.size<z.size:=Nat.mod_lt _ hz
 simp [madeCells,hj,aC]

theorem auV (z:Value) (n k:Nat) (hk:(cZ z).length=k):((Array.range (n*k)).map (z.cells[·%z.cells.size]!)).toList=gL (cZ z) n:=by
 have hs:z.cells.size=k:=by rw [←hk];simp [cZ]
 apply List.ext_getElem?
 intro j
 by_cases hj:j<n*k
 ·have hz:0<z.cells.size:=by
   rcases Nat.eq_zero_or_pos k with h | h
   ·subst h;simp at hj
   ·omega
  have:=abl z.cells (n*k) j hj hz
  simp only [madeCells] at this
  rw [Array.getElem?_toList,this,gL,YU _ _ _ (by rw [hk];exact hj)]
  simp [cZ]
 ·rw [List.getElem?_eq_none (by simp;omega),List.getElem?_eq_none (by rw [RM,hk];omega)]

section
variable {P : Program} {w : World} {ρ : aF} {h : ae}

def iY (P:Program) (ρ:aF) (h:ae) (w:World) (v:Value) (h':ae) (s:Result Next):Prop:=
 ∃nx w' au v',s=.ok nx w'∧(nx=.value v'∨(nx=.skip∧v'=undef))∧aw au v v'∧aT P au h' w'∧Tr ρ h w au h' w'

theorem aT.arr (H:aT P ρ h w) {i:Nat} {r:RI} {e:TypeId} {xs:List Value} (hi:ρ i=some r) (hx:h[i]?=some (.arr e xs)):
  r.elem=e∧r.sh=0∧∃c,w.heap[r.bj]?=some (.cells c e (0,0))∧c.size=r.size∧fw ρ c 0 xs:=by
 obtain ⟨o,ho,hr⟩:=H.obj i r hi
 rw [hx] at ho
 cases ho
 exact hr

theorem azD (H:aT P ρ h w) {t:TypeId} {a a' v v':Value} {h':ae} (hk:gF P t=true) (hi:ta (P.cellsOf t) h a v=some h') (ha:aw ρ a a') (hv:aw ρ v v'):
  ∃w',(Instr.storeAt t a' v').run P w=.ok () w'∧aT P ρ h' w'∧Tr ρ h w ρ h' w':=by
 unfold ta at hi
 split at hi
 ·rename_i i o
  obtain ⟨r,hr,rfl⟩:=ha.Cj
  split at hi
  ·rename_i e xs hx
   split at hi
   ·rename_i hc
    obtain ⟨mh,hl,hle⟩:=hc
    simp at hi;subst hi
    obtain ⟨h1,h2,c,h3,h4,h5⟩:=H.arr hr hx
    have yS:=hv.cells mh
    have lE:(cZ v').length=P.cellsOf t:=by rw [←yS.length];exact hl
    have dM:=run_storeCells_at P r.bj o e (cZ v') 0 c w h3 (by have:=h5.le;simp;omega) (yS.B1 (hv.EN mh))
    have heq:(c.toList.take (o+0)++cZ v'++c.toList.drop (o+0+(cZ v').length)).toArray=(setAt c.toList o (cZ v')).toArray:=by simp [setAt]
    rw [heq] at dM
    have hI:cf h i:=.inl ⟨e,xs,hx⟩
    obtain ⟨q1,q2⟩:=H.set (o:=.arr e (setAt xs o (cZ v))) hr hI (kJ.row h3 (setAt c.toList o (cZ v')).toArray)
     ⟨h1,h2,_,(kJ.row h3 _).here,by simp [Rb (show o+(cZ v').length≤c.toList.length by have:=h5.le;simp;omega),h4],h5.put yS (hv.EN mh) (by omega)⟩
    refine ⟨_,?_,q1,q2⟩
    have jJ:v'.cells.size=P.cellsOf t:=by rw [←lE];simp [cZ]
    have atj:(storeCells ⟨r.bj,r.sh+o,none⟩ v'.cells.toList).run P w=.ok () (w.setRow r.bj (setAt c.toList o (cZ v')).toArray):=by
     rw [h2,Nat.zero_add]
     exact dM
    simp [Instr.storeAt,Instr.sureAddr,storeVar,oK w hk,jJ,atj]
   ·cases hi
  ·cases hi
 ·cases hi

theorem BX (H:aT P ρ h w) {w':World} {e:TypeId} {c:Array Value} {xs:List Value} (nb:iP w (.cells c e) w') (hc:fw ρ c 0 xs):
  aT P (ρ.add h.length ⟨w.heap.size,0,e,P.cellsOf e,c.size⟩) (h++[.arr e xs]) w'∧Tr ρ h w (ρ.add h.length ⟨w.heap.size,0,e,P.cellsOf e,c.size⟩) (h++[.arr e xs]) w':=
 H.new nb rfl rfl rfl (fun _=>.inl rfl) ⟨rfl,rfl,c,nb.new,rfl,hc.mono (aF.rL H.none)⟩

theorem xW (ρ:aF) (i:Nat) (r:RI):ρ.add i r i=some r:=by simp [aF.add]

theorem abJ (ρ:aF) (h:ae) (r:RI) (hs:r.sh=0):aw (ρ.add h.length r) (zl h) (.pointer (some ⟨r.bj,0,none⟩)):=by
 have:=aw.ptr (ρ:=ρ.add h.length r) (i:=h.length) (o:=0) (xW _ _ _)
 rw [hs] at this
 exact this

theorem Cr (ρ:aF) (i:Nat) (r:RI) (hs:r.sh=0) {n c':Nat} (hn:n≤c') (hc:c'≤maxLen) (hb:c'*r.aV≤r.size):aw (ρ.add i r) (sl r.elem i 0 n) (.slice (some ⟨r.bj,0,none⟩) n c'):=
 aw.slice (xW _ _ _) (.inl (by omega)) hn hc (by omega)

theorem azf (H:aT P ρ h w) {e:TypeId} {x x' v:Value} {h':ae} (hi:bk e h x=some (v,h')) (hx:aw ρ x x'):
  ∃w' au v',(Instr.box e x').run P w=.ok v' w'∧aw au v v'∧aT P au h' w'∧Tr ρ h w au h' w':=by
 unfold bk at hi
 split at hi
 ·rename_i mh
  simp at hi
  obtain ⟨rfl,rfl⟩:=hi
  have hc:fw ρ x'.cells 0 (cZ x):=fw.of (hx.cells mh) (hx.EN mh)
  obtain ⟨q1,q2⟩:=BX H (iP.alloc w (.cells x'.cells e)) hc
  exact ⟨_,_,_,by simp [Instr.box,newVar,newRow],abJ _ _ _ rfl,q1,q2⟩
 ·cases hi

theorem azb (H:aT P ρ h w) {e:TypeId} {zs:List Value} (hz:zeroOf P e=some zs):
  ∃w' au v',(Instr.alloc e true (.tuple #[])).run P w=.ok v' w'∧aw au (zl h) v'∧aT P au (h++[.arr e zs]) w'∧Tr ρ h w au (h++[.arr e zs]) w':=by
 obtain ⟨i,z,hi,oC,rfl,mh,fh,hlen⟩:=zZ hz
 have hc:fw ρ z.cells 0 (cZ z):=fw.of (bn.closed fun x hx=>(fh x hx).1) (fun x hx=>(fh x hx).2)
 obtain ⟨q1,q2⟩:=BX H (iP.alloc w (.cells z.cells e)) hc
 exact ⟨_,_,_,by simp [Instr.alloc,xu w hi oC,newVar,newRow],abJ _ _ _ rfl,q1,q2⟩

theorem LZ {t:TypeId} {i:TypeInfo} (hi:P.info? t=some i):P.cellsOf t=i.size:=by simp [Program.cellsOf,hi]
theorem UP {t:TypeId} {i:TypeInfo} (hi:P.info? t=some i):P.bytesOf t=i.bytes:=by simp [Program.bytesOf,hi]

theorem azy (H:aT P ρ h w) {t e:TypeId} {n:Nat} {zs:List Value} {ps:List (Nat×Nat×Value)} {qs:Array (Nat×Value)} {v:Value} {h':ae} (ht:P.underlying t=some (.slice e)) (hz:zeroOf P e=some zs)
  (hn:n*P.cellsOf e≤16777216) (br:P.cellsOf e≠0) (hp:sm ρ (fun i=>some (i*P.cellsOf e,P.cellsOf e)) ps qs.toList) (hi:dh e n zs h ps=some (v,h')):
  ∃w' au v',(Instr.buildSlice t n qs).run P w=.ok v' w'∧aw au v v'∧aT P au h' w'∧Tr ρ h w au h' w':=by
 obtain ⟨i,z,mf,oC,rfl,mh,fh,hlen⟩:=zZ hz
 have hk:gF P e=true:=by simp [gF,mf]
 have sG:=LZ mf
 simp only [dh,Option.map_eq_some_iff,Prod.mk.injEq] at hi
 obtain ⟨cs,hf,rfl,rfl⟩:=hi
 obtain ⟨zero,hzero,hzl⟩:∃zero:Array Value,(if n*P.cellsOf e=0 then (Pure.pure #[]:Sem (Array Value)) else do pure (←zeroValue e).cells).run P w=.ok zero w∧
   ((Array.range (n*P.cellsOf e)).map (zero[·%zero.size]!)).toList=gL (cZ z) n:=by
  by_cases h0:n*P.cellsOf e=0
  ·refine ⟨#[],by simp [h0],?_⟩
   have nw:n=0:=by
    rcases Nat.mul_eq_zero.1 h0 with h | h
    ·exact h
    ·exact absurd h br
   subst nw
   simp [gL,Array.range_zero']
  ·exact ⟨z.cells,by simp [h0,xu w mf oC],by rw [sG];exact auV z n i.size hlen⟩
 have asp:bn ρ (gL (cZ z) n) (gL (cZ z) n):=bn.closed (aiA fun x hx=>(fh x hx).1)
 obtain ⟨ie,yE,hr,h1,od⟩:=Mx (ys:=(Array.range (n*P.cellsOf e)).map (zero[·%zero.size]!)) hp hf (by rw [hzl];exact asp) (aiA fun x hx=>(fh x hx).2)
 obtain ⟨q1,q2⟩:=BX H (iP.alloc w (.cells ie e)) (fw.of hr h1)
 have jJ:ie.size=n*P.cellsOf e:=by
  have:=hr.length
  rw [od,RM,hlen,←sG] at this
  simpa using this.symm
 have Bo:n≤maxLen:=by
  have h1:1≤P.cellsOf e:=by omega
  have:=Nat.mul_le_mul_left n h1
  unfold maxLen
  omega
 refine ⟨_,_,.slice (some ⟨w.heap.size,0,none⟩) n n,?_,Cr ρ h.length ⟨w.heap.size,0,e,P.cellsOf e,ie.size⟩ rfl (Nat.le_refl _) Bo (by simp [jJ]),q1,q2⟩
 unfold Instr.buildSlice
 simp only [Sem.run_bind,run_underlying ht,Result.andThen_ok,oK w hk]
 have h24:¬(n*P.cellsOf e>2^24):=by rw [show (2^24:Nat)=16777216 from rfl];omega
 rw [if_neg h24]
 by_cases h0:n*P.cellsOf e=0
 ·rw [if_pos h0] at hzero⊢
  simp only [Sem.run_pure,Result.ok.injEq,and_true] at hzero
  subst hzero
  simp only [Sem.run_bind,Sem.run_pure,Result.andThen_ok,yE]
  simp [newRow]
 ·rw [if_neg h0] at hzero⊢
  simp only [Sem.run_bind,Sem.run_pure] at hzero⊢
  rw [xu w mf oC] at hzero⊢
  simp only [Result.andThen_ok,Result.ok.injEq,and_true] at hzero⊢
  subst hzero
  rw [yE]
  simp [newRow]

end
end Go.Sim


namespace Go.Sim

section
variable {P : Program} {w : World} {ρ : aF} {h : ae}

theorem azu (H:aT P ρ h w) {t e:TypeId} {zs:List Value} {l c l' c' v:Value} {h':ae} (ht:P.underlying t=some (.slice e)) (hz:zeroOf P e=some zs)
  (hi:kR e (P.bytesOf e) zs h l c=some (v,h')) (hl:aw ρ l l') (hc:aw ρ c c'):
  ∃w' au v',(Instr.makeSlice t l' c').run P w=.ok v' w'∧aw au v v'∧aT P au h' w'∧Tr ρ h w au h' w':=by
 obtain ⟨i,z,mf,oC,rfl,mh,fh,hlen⟩:=zZ hz
 unfold kR at hi
 split at hi
 ·rename_i k1 l k2 c
  rw [hl.kB,hc.kB]
  split at hi
  ·rename_i hb
   obtain ⟨h0,h1,h2,h3⟩:=hb
   simp at hi
   obtain ⟨rfl,rfl⟩:=hi
   rw [UP mf] at h2
   have fF:=run_make (P:=P) w t e i z ht mf oC k1 k2 l c h0 h1 h2 h3
   have vZ:fw ρ (madeCells z.cells (c.toNat*i.size)) 0 (gL (cZ z) l.toNat):=by
    intro j x hj
    have pj:j<l.toNat*i.size:=by
     have:=(List.getElem?_eq_some_iff.1 hj).1
     rwa [RM,hlen] at this
    have N6:z.cells.size=i.size:=by rw [←hlen];simp [cZ]
    have fQ:0<z.cells.size:=by
     rcases Nat.eq_zero_or_pos i.size with q | q
     ·rw [q] at pj;simp at pj
     ·omega
    have hmul:l.toNat*i.size≤c.toNat*i.size:=Nat.mul_le_mul_right _ (by omega)
    rw [gL,YU _ _ _ (by rw [hlen];exact pj)] at hj
    have hx:x∈cZ z:=List.mem_of_getElem? hj
    refine ⟨(fh x hx).2,x,?_,km.rel (fh x hx).1⟩
    rw [Nat.zero_add,abl _ _ _ (by omega) fQ]
    simpa [cZ] using hj
   obtain ⟨q1,q2⟩:=BX H (iP.alloc w (.cells (madeCells z.cells (c.toNat*i.size)) e)) vZ
   refine ⟨_,_,_,fF,?_,q1,q2⟩
   exact Cr ρ h.length ⟨w.heap.size,0,e,P.cellsOf e,(madeCells z.cells (c.toNat*i.size)).size⟩ rfl (by omega) (by unfold maxLen;omega) (by simp [size_madeCells,LZ mf])
  ·cases hi
 ·cases hi

theorem ahs {t e:TypeId} {i:TypeInfo} (ht:P.underlying t=some (.slice e)) (hi:P.info? e=some i) (type:TypeId) (b:Option Addr) (n c:Nat) (x:Value) (hn:n≤c)
  (hx:x=.slice none 0 0∨∃a c2,x=.slice (some a) 0 c2):(Builtin.append_ #[t,t] type #[.slice b n c,x]).run P w=.ok (.slice b n c) w:=by
 rcases hx with rfl | ⟨a,c2,rfl⟩
 ·cases b <;> simp [Builtin.append_,run_underlying ht,sizeOf,typeInfo,hi,Builtin.lenOf,hn,Builtin.firstCells,storeCells]
 ·cases b <;> simp [Builtin.append_,run_underlying ht,sizeOf,typeInfo,hi,Builtin.lenOf,hn,Builtin.firstCells,loadCells,loadCellsFrom,storeCells]

theorem L0 {ρ:aF} {c:Array Value} {xs ys zs:List Value} (hx:∀(j:Nat) (x:Value),xs[j]?=some x→eL x=true∧∃y,c[j]?=some y∧aw ρ x y) (hz:bn ρ zs ys) (h1:∀x∈zs,eL x=true)
  (hc:∀(j:Nat) (y:Value),ys[j]?=some y→c[xs.length+j]?=some y):fw ρ c 0 (xs++zs):=by
 intro j x hj
 by_cases aC:j<xs.length
 ·rw [List.getElem?_append_left aC] at hj
  simpa using hx j x hj
 ·rw [List.getElem?_append_right (by omega)] at hj
  obtain ⟨y,hy,hr⟩:=hz.get hj
  refine ⟨h1 x (List.mem_of_getElem? hj),y,?_,hr⟩
  have:=hc _ y hy
  rw [←this]
  congr 1
  omega

theorem azc (H:aT P ρ h w) {t e:TypeId} {zs:List Value} {type:TypeId} {s x s' x' v:Value} {h':ae} (ht:P.underlying t=some (.slice e)) (hz:zeroOf P e=some zs)
  (hi:dj e (P.cellsOf e) (P.bytesOf e) h s x=some (v,h')) (hs:aw ρ s s') (hx:aw ρ x x'):
  ∃w' au v',(Builtin.append_ #[t,t] type #[s',x']).run P w=.ok v' w'∧aw au v v'∧aT P au h' w'∧Tr ρ h w au h' w':=by
 obtain ⟨i,z,mf,oC,rfl,mh,fh,hlen⟩:=zZ hz
 have sG:=LZ mf
 have A6:=UP mf
 have N6:z.cells.size=i.size:=by rw [←hlen];simp [cZ]
 unfold dj at hi
 split at hi
 ·rename_i news m hn hm
  have hxx:=HQ H hn hx
  have hzero:m=0→(x'=.slice none 0 0∨∃a c2,x'=.slice (some a) 0 c2):=by
   intro mP
   rcases hxx with ⟨e1,_⟩ | ⟨b,o,n2,c2,e1,e2,_⟩
   ·exact .inl e1
   ·rw [hm] at e2;cases e2;subst mP;exact .inr ⟨_,_,e1⟩
  have aai:0<m→∃b o c2,x'=.slice (some ⟨b,o,none⟩) m c2∧news.length=m*i.size∧(∀v∈news,eL v=true)∧
    ∃ys,bn ρ news ys∧ys.length=m*i.size∧∀j v,ys[j]?=some v→w.cell? ((⟨b,o,none⟩:Addr).add j)=some v:=by
   intro mP
   rcases hxx with ⟨e1,e2⟩ | ⟨b,o,n2,c2,e1,e2,e3,e4,ys,e5,e6⟩
   ·subst e1
    cases hx
    ·simp [mU] at hm
     omega
    ·simp [mU] at hm
   ·rw [hm] at e2;cases e2
    refine ⟨b,o,c2,e1,by rw [e3,sG],e4,ys,e5,by rw [←e5.length,e3,sG],?_⟩
    intro j v hj
    rw [Addr.add_lit]
    exact e6 j v hj
  split at hi
  ·cases hs
   split at hi
   ·rename_i mP
    simp at hi
    obtain ⟨rfl,rfl⟩:=hi
    exact ⟨w,ρ,_,ahs ht mf type none 0 0 x' (Nat.le_refl _) (hzero mP),.nG,H,Tr.refl H⟩
   ·rename_i mP
    split at hi
    ·rename_i hb
     obtain ⟨jW,A5⟩:=hb
     simp at hi
     obtain ⟨rfl,rfl⟩:=hi
     obtain ⟨b,o,c2,rfl,f1,f2,ys,f3,f4,f5⟩:=aai (by omega)
     have fF:=run_append_nil (P:=P) w t type e i z ht mf oC ⟨b,o,none⟩ m c2 ys f4 f5 (by omega) (by unfold maxLen at A5;omega) (by rw [←A6];omega)
     have cH:=grownCap_ge w m 0 e
     have vZ:fw ρ (ys.toArray++Builtin.zeroCells z.cells (grownCap w m 0 e-m)) 0 news:=by
      have:=L0 (ρ:=ρ) (c:=ys.toArray++Builtin.zeroCells z.cells (grownCap w m 0 e-m)) (xs:=[]) (ys:=ys) (zs:=news) (by simp) f3 f2 (by
       intro j y hj
       have aC:=(List.getElem?_eq_some_iff.1 hj).1
       rw [Array.getElem?_append_left (by simpa using aC)]
       simpa using hj)
      simpa using this
     obtain ⟨q1,q2⟩:=BX H (iP.drew w (.cells (ys.toArray++Builtin.zeroCells z.cells (grownCap w m 0 e-m)) e)) vZ
     refine ⟨_,_,_,fF,?_,q1,q2⟩
     refine Cr ρ h.length ⟨w.heap.size,0,e,P.cellsOf e,(ys.toArray++Builtin.zeroCells z.cells (grownCap w m 0 e-m)).size⟩ rfl cH (grownCap_le_maxLen w m 0 e A5) ?_
     simp only [Array.size_append,List.size_toArray,size_zeroCells,f4,N6,sG]
     rw [←Nat.add_mul]
     exact Nat.mul_le_mul_right _ (by omega)
    ·cases hi
  ·rename_i ii e' n cc
   split at hi
   ·rename_i YD xs nB
    split at hi
    ·rename_i hb
     obtain ⟨rfl,rfl,hb3,hb4,Zn⟩:=hb
     have NQ:=hs
     cases hs with
     | slice hr ho hnc hcm yx=>
      rename_i o' c' r
      obtain ⟨g1,g2,c,g3,g4,g5⟩:=H.arr hr nB
      obtain rfl:o'=0:=by
       rcases ho with ho | ⟨_,q,_⟩
       ·omega
       ·omega
      have jd:=H.aV _ _ hr
      split at hi
      ·rename_i mP
       simp at hi
       obtain ⟨rfl,rfl⟩:=hi
       exact ⟨w,ρ,_,ahs ht mf type _ n c' x' hnc (hzero mP),NQ,H,Tr.refl H⟩
      ·rename_i mP
       simp at hi
       obtain ⟨rfl,rfl⟩:=hi
       obtain ⟨b,o,c2,rfl,f1,f2,ys,f3,f4,f5⟩:=aai (by omega)
       rw [sG] at hb3
       have uj:r.aV=i.size:=by rw [jd,sG]
       have hI:cf h ii:=.inl ⟨_,xs,nB⟩
       by_cases NN:n+m≤c'
       ·have FA:n*i.size+ys.length≤c.size:=by
         rw [f4,g4,←Nat.add_mul]
         have:=Nat.mul_le_mul_right i.size NN
         rw [uj] at yx
         omega
        have fF:=run_append_room (P:=P) w t type r.elem i ht mf r.bj n c' c g3 ⟨b,o,none⟩ m c2 ys f4 f5 (f3.B1 f2) NN FA
        have qp:(c.toList.take (n*i.size)++ys++c.toList.drop (n*i.size+ys.length)).toArray=(setAt c.toList (n*i.size) ys).toArray:=rfl
        rw [qp] at fF
        have jJ:(setAt c.toList (n*i.size) ys).toArray.size=c.size:=by simp [Rb (show n*i.size+ys.length≤c.toList.length by simpa using FA)]
        have vZ:fw ρ (setAt c.toList (n*i.size) ys).toArray 0 (xs++news):=by
         refine L0 (ys:=ys) ?_ f3 f2 ?_
         ·intro j x hj
          have aC:=(List.getElem?_eq_some_iff.1 hj).1
          obtain ⟨k1,y,k2,k3⟩:=g5 j x hj
          refine ⟨k1,y,?_,k3⟩
          rw [List.getElem?_toArray,HG (by simpa using FA),if_pos (by omega)]
          simpa using k2
         ·intro j y hj
          have aC:=(List.getElem?_eq_some_iff.1 hj).1
          rw [List.getElem?_toArray,HG (by simpa using FA),if_neg (by omega),if_pos (by omega)]
          rw [←hj]
          congr 1
          omega
        have sb:=kJ.row g3 (setAt c.toList (n*i.size) ys).toArray
        obtain ⟨q1,q2⟩:=H.move (o:=.arr r.elem (xs++news)) hr hI sb ⟨rfl,g2,_,sb.here,by rw [jJ,g4],vZ.mono (aF.rL H.none)⟩
        refine ⟨_,_,_,fF,?_,q1,q2⟩
        exact Cr ρ h.length r g2 NN hcm (by omega)
       ·obtain ⟨O7,o1,o2,o3,o4⟩:=g5.Ry (o:=0) (n:=n*i.size) (by omega)
        have ato:(xs.drop 0).take (n*i.size)=xs:=by rw [List.drop_zero];exact List.take_of_length_le (by omega)
        rw [ato] at o1 o3
        have hold:∀j v,O7[j]?=some v→w.cell? ((⟨r.bj,0,none⟩:Addr).add j)=some v:=by
         intro j v hj
         rw [Addr.add_lit,EK g3]
         simpa using o4 j v hj
        have ZD:=growslice_fits (need:=n+m) (old:=c') (bytes:=P.bytesOf r.elem) (by omega) hb4
        rw [A6] at ZD
        have fF:=run_append_grow (P:=P) w t type r.elem i z ht mf oC ⟨r.bj,0,none⟩ n c' O7 o2 hold ⟨b,o,none⟩ m c2 ys f4 f5 (by omega) (by unfold maxLen at Zn;omega) ZD
        have cH:=grownCap_ge w (n+m) c' r.elem
        generalize vY:O7.toArray++ys.toArray++Builtin.zeroCells z.cells (grownCap w (n+m) c' r.elem-(n+m))=cc at fF
        have aso:cc.size=n*i.size+m*i.size+(grownCap w (n+m) c' r.elem-(n+m))*i.size:=by
         rw [←vY];simp only [Array.size_append,List.size_toArray,size_zeroCells,o2,f4,N6]
        have vZ:fw ρ cc 0 (xs++news):=by
         refine L0 (ys:=ys) ?_ f3 f2 ?_
         ·intro j x hj
          have aC:=(List.getElem?_eq_some_iff.1 hj).1
          obtain ⟨y,k2,k3⟩:=o1.get hj
          refine ⟨o3 x (List.mem_of_getElem? hj),y,?_,k3⟩
          rw [←vY,Array.append_assoc,Array.getElem?_append_left (by simp;omega)]
          simpa using k2
         ·intro j y hj
          have aC:=(List.getElem?_eq_some_iff.1 hj).1
          rw [←vY,Array.append_assoc,Array.getElem?_append_right (by simp;omega),Array.getElem?_append_left (by simp;omega)]
          rw [←hj,List.getElem?_toArray]
          congr 1
          simp
          omega
        have nb:=iP.drew w (.cells cc r.elem)
        obtain ⟨q1,q2⟩:=H.new (h₀:=h.set ii .dead) (o:=.arr r.elem (xs++news)) (r:=⟨w.heap.size,0,r.elem,P.cellsOf r.elem,cc.size⟩) nb rfl rfl (by simp) (by
          intro j
          by_cases hj:j=ii
          ·subst hj;right;rw [List.getElem?_set_self (H.lt hr)]
          ·left;rw [List.getElem?_set_ne (Ne.symm hj)]) ⟨rfl,rfl,cc,nb.new,rfl,vZ.mono (aF.rL H.none)⟩
        refine ⟨_,_,_,fF,?_,q1,q2⟩
        refine Cr ρ h.length ⟨w.heap.size,0,r.elem,P.cellsOf r.elem,cc.size⟩ rfl cH (grownCap_le_maxLen w (n+m) c' r.elem Zn) ?_
        simp only [aso,sG]
        rw [←Nat.add_mul,←Nat.add_mul]
        exact Nat.mul_le_mul_right _ (by omega)
    ·cases hi
   ·cases hi
  ·cases hi
 ·cases hi


theorem azi (H:aT P ρ h w) {t e tt:TypeId} {type:TypeId} {d x d' x' v:Value} {h':ae} (ht:P.underlying t=some (.slice e)) (hz:(P.info? e).map (·.size)=some 1) (hi:Oa h d x=some (v,h')) (hd:aw ρ d d') (hx:aw ρ x x'):
  ∃w',(Builtin.copy_ #[t,tt] type #[d',x']).run P w=.ok v w'∧aw ρ v v∧aT P ρ h' w'∧Tr ρ h w ρ h' w':=by
 unfold Oa at hi
 split at hi
 ·rename_i n m cs hn hm qp
  have mc:∃p c,d'=.slice p n c:=by
   unfold mU at hn
   split at hn
   ·cases hd;cases hn;exact ⟨_,_,rfl⟩
   ·cases hd;cases hn;exact ⟨_,_,rfl⟩
   ·cases hn
  have fY:∃p c,x'=.slice p m c:=by
   unfold mU at hm
   split at hm
   ·cases hx;cases hm;exact ⟨_,_,rfl⟩
   ·cases hx;cases hm;exact ⟨_,_,rfl⟩
   ·cases hm
  split at hi
  ·rename_i h0
   simp at hi
   obtain ⟨rfl,rfl⟩:=hi
   obtain ⟨p,c,rfl⟩:=mc
   obtain ⟨q,c',rfl⟩:=fY
   exact ⟨w,run_copy_none (P:=P) w t tt type e p q n c m c' ht hz h0,.int _ _,H,.refl H⟩
  ·rename_i h0
   split at hi
   ·rename_i i o e' n' c0
    split at hi
    ·rename_i e2 xs hg
     split at hi
     ·rename_i hle
      simp only [Option.some.injEq,Prod.mk.injEq] at hi
      obtain ⟨rfl,rfl⟩:=hi
      cases hd with
      | slice hr ho hn2 hc hb=>
       rename_i o' c' r
       simp [mU] at hn
       subst hn
       have fQ:0<n':=by
        have:Nat.min m n'≤n':=Nat.min_le_right _ _
        omega
       have de:o'=r.sh+o:=by
        rcases ho with ho | ⟨q1,q2,q3⟩
        ·exact ho
        ·omega
       subst de
       obtain ⟨a1,a2,c,a3,a4,a5⟩:=H.arr hr hg
       rcases HQ H qp hx with ⟨rfl,rfl⟩ | ⟨b,ob,nn,cc,rfl,hl,hlen,nr,ys,wL,asP⟩
       ·obtain ⟨q,c',hq⟩:=fY
        cases hq
        exact absurd (Nat.zero_min n') h0
       ·rw [hm] at hl
        cases hl
        rw [Nat.mul_one] at hlen
        have atq:=wL.length
        have aC:(ys.take (Nat.min m n')).length=Nat.min m n':=by
         rw [List.length_take,←atq,hlen];exact Nat.min_eq_left (Nat.min_le_left _ _)
        have hct:(cs.take (Nat.min m n')).length=Nat.min m n':=by
         rw [List.length_take,hlen];exact Nat.min_eq_left (Nat.min_le_left _ _)
        have wJ:bn ρ (cs.take (Nat.min m n')) (ys.take (Nat.min m n')):=wL.take _
        have Zd:∀v∈cs.take (Nat.min m n'),eL v=true:=fun v hv=>nr v (List.mem_of_mem_take hv)
        have fF:=run_copy_row (P:=P) w t tt type e r.bj (r.sh+o) n' c' ⟨b,ob,none⟩ m cc c e2 (ys.take (Nat.min m n')) ht hz a3 aC
         (fun j v hj=>by
          rw [List.getElem?_take] at hj
          split at hj
          ·rw [Addr.add_lit];exact asP j v hj
          ·cases hj) (by have:=a5.le;rw [aC,a2];omega) (wJ.B1 Zd)
        rw [aC,a2,Nat.zero_add] at fF
        have heq:(c.toList.take o++ys.take (Nat.min m n')++c.toList.drop (o+Nat.min m n')).toArray=(setAt c.toList o (ys.take (Nat.min m n'))).toArray:=by simp only [setAt,aC]
        rw [heq] at fF
        have hI:cf h i:=.inl ⟨e2,xs,hg⟩
        obtain ⟨q1,q2⟩:=H.set (o:=.arr e2 (setAt xs o (cs.take (Nat.min m n')))) hr hI (kJ.row a3 (setAt c.toList o (ys.take (Nat.min m n'))).toArray)
         ⟨a1,a2,_,(kJ.row a3 _).here,by simp [Rb (show o+(ys.take (Nat.min m n')).length≤c.toList.length by have:=a5.le;simp only [Array.length_toList];omega),a4],a5.put wJ Zd (by omega)⟩
        refine ⟨_,?_,.int _ _,q1,q2⟩
        rw [a2,Nat.zero_add];exact fF
     ·cases hi
    ·cases hi
   ·cases hi
 ·cases hi

end
end Go.Sim


namespace Go.Sim

theorem kJ.obj {w:World} {g:Nat} {x:Obj} (hg:w.heap[g]?=some x) (b:Obj):kJ w g b { w with heap:=w.heap.setIfInBounds g b } where
 here:=by
  have:=(Array.getElem?_eq_some_iff.1 hg).1
  simp [this]
 other:=by intro j hj;simp [Ne.symm hj]
 size:=by simp
 os:=rfl
 tape:=rfl
 output:=rfl

theorem arU {ρ:aF} {es:List (ByteArray×Value)} {aJ:List MapEntry} (h:kH ρ es aJ) (k:ByteArray) {v v':Value} (hv:aw ρ v v') (born:Nat):∀i:Nat,
  (Instr.findNow .string (.string k) aJ i=some none∧kH ρ (qS k v es) (aJ++[{ key:=.string k,val:=v',born }]))∨
  (∃u j,Instr.findNow .string (.string k) aJ i=some (some (i+j,u))∧(∃en,aJ[j]?=some en∧en.key=.string k)∧kH ρ (qS k v es) (aJ.modify j fun e=>{ e with key:=.string k,val:=v' })):=by
 induction h with
 | nil=>intro i;exact .inl ⟨rfl,.cons rfl hv .nil⟩
 | cons h1 h2 h3 ih=>
  rename_i k0 v0 en es aJ
  intro i
  by_cases hk:k=k0
  ·subst hk
   have hb:(k==k)=true:=(MapKept.bytes_beq k k).2 rfl
   refine .inr ⟨en.val,0,?_,⟨en,rfl,h1⟩,?_⟩
   ·simp [Instr.findNow,h1,Instr.sameNow,hb]
   ·simp only [qS,if_true,List.modify_zero_cons]
    exact .cons rfl hv h3
  ·have hb:(k==k0)=false:=by
    rw [Bool.eq_false_iff]
    exact fun e=>hk ((MapKept.bytes_beq k k0).1 e)
   rcases ih (i+1) with ⟨e1,e2⟩ | ⟨u,j,e1,e2,e3⟩
   ·refine .inl ⟨?_,?_⟩
    ·simp [Instr.findNow,h1,Instr.sameNow,hb,e1]
    ·simp only [qS,if_neg hk,List.cons_append]
     exact .cons h1 h2 e2
   ·refine .inr ⟨u,j+1,?_,by simpa using e2,?_⟩
    ·simp [Instr.findNow,h1,Instr.sameNow,hb,e1];omega
    ·simp only [qS,if_neg hk,List.modify_succ_cons]
     exact .cons h1 h2 e3

theorem arV {kd:IntKind} {ρ:aF} {es:List (Int×Value)} {aJ:List MapEntry} (h:kI kd ρ es aJ) (k:Int) {v v':Value} (hv:aw ρ v v') (born:Nat):∀i:Nat,
  (Instr.findNow (.int kd) (.int kd k) aJ i=some none∧kI kd ρ (qR k v es) (aJ++[{ key:=.int kd k,val:=v',born }]))∨
  (∃u j,Instr.findNow (.int kd) (.int kd k) aJ i=some (some (i+j,u))∧(∃en,aJ[j]?=some en∧en.key=.int kd k)∧kI kd ρ (qR k v es) (aJ.modify j fun e=>{ e with key:=.int kd k,val:=v' })):=by
 induction h with
 | nil=>intro i;exact .inl ⟨rfl,.cons rfl hv .nil⟩
 | cons h1 h2 h3 ih=>
  rename_i k0 v0 en es aJ
  intro i
  by_cases hk:k=k0
  ·subst hk
   have hb:(k==k)=true:=beq_self_eq_true k
   refine .inr ⟨en.val,0,?_,⟨en,rfl,h1⟩,?_⟩
   ·simp [Instr.findNow,h1,Instr.sameNow]
   ·simp only [qR,if_true,List.modify_zero_cons]
    exact .cons rfl hv h3
  ·have hb:(k==k0)=false:=by
    exact beq_false_of_ne hk
   rcases ih (i+1) with ⟨e1,e2⟩ | ⟨u,j,e1,e2,e3⟩
   ·refine .inl ⟨?_,?_⟩
    ·simp [Instr.findNow,h1,Instr.sameNow,hb,e1]
    ·simp only [qR,if_neg hk,List.cons_append]
     exact .cons h1 h2 e2
   ·refine .inr ⟨u,j+1,?_,by simpa using e2,?_⟩
    ·simp [Instr.findNow,h1,Instr.sameNow,hb,e1];omega
    ·simp only [qR,if_neg hk,List.modify_succ_cons]
     exact .cons h1 h2 e3

section
variable {P : Program} {w : World} {ρ : aF} {h : ae}

theorem azv (H:aT P ρ h w) (t:TypeId):∃w' au v',(Instr.makeMap t none).run P w=.ok v' w'∧aw au (.map (some h.length)) v'∧aT P au (h++[.smap []]) w'∧Tr ρ h w au (h++[.smap []]) w':=by
 have nb:=iP.alloc w (.map #[] 0)
 obtain ⟨q1,q2⟩:=H.new (h₀:=h) (o:=.smap []) (r:=⟨w.heap.size,0,0,P.cellsOf 0,0⟩) nb rfl rfl rfl (fun _=>.inl rfl) ⟨#[],0,nb.new,rfl,fun j k v hj=>by simp at hj⟩
 refine ⟨_,_,.map (some w.heap.size),?_,aw.map (xW _ _ _),q1,q2⟩
 simp [Instr.makeMap]

theorem azx (H:aT P ρ h w) (t:TypeId) (kd:IntKind):∃w' au v',(Instr.makeMap t none).run P w=.ok v' w'∧aw au (.map (some h.length)) v'∧aT P au (h++[.jw kd []]) w'∧Tr ρ h w au (h++[.jw kd []]) w':=by
 have nb:=iP.alloc w (.map #[] 0)
 obtain ⟨q1,q2⟩:=H.new (h₀:=h) (o:=.jw kd []) (r:=⟨w.heap.size,0,0,P.cellsOf 0,0⟩) nb rfl rfl rfl (fun _=>.inl rfl) ⟨#[],0,nb.new,rfl,fun j k v hj=>by simp at hj⟩
 refine ⟨_,_,.map (some w.heap.size),?_,aw.map (xW _ _ _),q1,q2⟩
 simp [Instr.makeMap]

theorem uM {g:Nat} {aJ:Array MapEntry} {clock:Nat} (hg:w.heap[g]?=some (.map aJ clock)) (o:Obj):(setObj g o).run P w=.ok () { w with heap:=w.heap.setIfInBounds g o }:=by
 simp [setObj,Sem.run,hg]

theorem ahx (H:aT P ρ h w) {t kt et:TypeId} {m m' k k' v v':Value} {h':ae} (ht:P.underlying t=some (.map kt et)) (hk:isString P kt=true)
  (hi:Od h m k v=some h') (hm:aw ρ m m') (jI:aw ρ k k') (hv:aw ρ v v'):∃w',(Instr.mapUpdate t m' k' v').run P w=.ok () w'∧aT P ρ h' w'∧Tr ρ h w ρ h' w':=by
 unfold Od at hi
 split at hi
 ·rename_i i key
  rw [jI.tw]
  cases hm with
  | map hr=>
   rename_i r
   split at hi
   ·rename_i es he
    simp at hi;subst hi
    obtain ⟨aJ,clock,hb,wj⟩:=H.aJ hr he
    have kr:=aaZ hk
    have hI:cf h i:=.inr (.inl ⟨es,he⟩)
    have mk:∀(nW:Array MapEntry) (qe:Nat),kH ρ (qS key v es) nW.toList→aT P ρ (h.set i (.smap (qS key v es))) { w with heap:=w.heap.setIfInBounds r.bj (.map nW qe) }∧
      Tr ρ h w ρ (h.set i (.smap (qS key v es))) { w with heap:=w.heap.setIfInBounds r.bj (.map nW qe) }:=by
     intro nW qe fk
     have sb:=kJ.obj hb (.map nW qe)
     have:=fk.to
     exact H.set (o:=.smap (qS key v es)) hr hI sb ⟨nW,qe,sb.here,by simpa using this.1,by simpa using this.2⟩
    rcases arU wj key hv clock 0 with ⟨e1,e2⟩ | ⟨u,j,e1,⟨en,e2,vJ⟩,e3⟩
    ·obtain ⟨q1,q2⟩:=mk (aJ.push { key:=.string key,val:=v',born:=clock }) (clock+1) (by simpa using e2)
     refine ⟨_,?_,q1,q2⟩
     simp [Instr.mapUpdate,run_underlying ht,run_getObj_map hb,run_checkKey _ kr,run_findKey kr key _ e1,uM hb]
    ·obtain ⟨q1,q2⟩:=mk (aJ.modify j fun e=>{ e with key:=.string key,val:=v' }) clock (by simpa using e3)
     refine ⟨_,?_,q1,q2⟩
     have bN:aJ[j]?=some en:=by simpa using e2
     have wH:Instr.sameBits 10000 (.string key) (.string key)=true:=by
      simp [Instr.sameBits,(MapKept.bytes_beq key key).2 rfl]
     have Bu:(Instr.keyThatStays (((aJ[j]?).map (·.key)).getD (.string key)) (.string key)).run P w=.ok (.string key) w:=by
      rw [bN]
      simp [Instr.keyThatStays,vJ,wH]
     simp only [Instr.mapUpdate,Sem.run_bind,run_underlying ht,Result.andThen_ok,run_getObj_map hb,run_checkKey _ kr,run_findKey kr key _ e1]
     simp only [Nat.zero_add,Bu,Result.andThen_ok,uM hb]
   ·cases hi
 ·cases hi

theorem ahz (H:aT P ρ h w) {t kt et:TypeId} {kd:IntKind} {m m' k k' v v':Value} {h':ae} (ht:P.underlying t=some (.map kt et)) (hk:wX P kt=some kd)
  (hi:Oe kd h m k v=some h') (hm:aw ρ m m') (jI:aw ρ k k') (hv:aw ρ v v'):∃w',(Instr.mapUpdate t m' k' v').run P w=.ok () w'∧aT P ρ h' w'∧Tr ρ h w ρ h' w':=by
 unfold Oe at hi
 split at hi
 ·rename_i i yY key
  rw [jI.kB]
  cases hm with
  | map hr=>
   rename_i r
   split at hi
   ·rename_i lH es he
    split at hi
    ·rename_i mO
     obtain ⟨rfl,rfl⟩:=mO
     simp at hi;subst hi
     obtain ⟨aJ,clock,hb,wj⟩:=H.YI hr he
     have kr:=aaV hk
     have hI:cf h i:=.inr (.inr (.inr (.inl ⟨_,es,he⟩)))
     have mk:∀(nW:Array MapEntry) (qe:Nat),kI lH ρ (qR key v es) nW.toList→aT P ρ (h.set i (.jw lH (qR key v es))) { w with heap:=w.heap.setIfInBounds r.bj (.map nW qe) }∧
       Tr ρ h w ρ (h.set i (.jw lH (qR key v es))) { w with heap:=w.heap.setIfInBounds r.bj (.map nW qe) }:=by
      intro nW qe fk
      have sb:=kJ.obj hb (.map nW qe)
      have:=fk.to
      exact H.set (o:=.jw lH (qR key v es)) hr hI sb ⟨nW,qe,sb.here,by simpa using this.1,by simpa using this.2⟩
     rcases arV wj key hv clock 0 with ⟨e1,e2⟩ | ⟨u,j,e1,⟨en,e2,vJ⟩,e3⟩
     ·obtain ⟨q1,q2⟩:=mk (aJ.push { key:=.int lH key,val:=v',born:=clock }) (clock+1) (by simpa using e2)
      refine ⟨_,?_,q1,q2⟩
      simp [Instr.mapUpdate,run_underlying ht,run_getObj_map hb,Hz _ kr,HA kr key _ e1,uM hb]
     ·obtain ⟨q1,q2⟩:=mk (aJ.modify j fun e=>{ e with key:=.int lH key,val:=v' }) clock (by simpa using e3)
      refine ⟨_,?_,q1,q2⟩
      have bN:aJ[j]?=some en:=by simpa using e2
      have wH:∀kd,Instr.sameBits 10000 (.int kd key) (.int kd key)=true:=by
       intro kd
       simp [Instr.sameBits]
      have Bu:(Instr.keyThatStays (((aJ[j]?).map (·.key)).getD (.int lH key)) (.int lH key)).run P w=.ok (.int lH key) w:=by
       rw [bN]
       simp [Instr.keyThatStays,vJ,wH]
      simp only [Instr.mapUpdate,Sem.run_bind,run_underlying ht,Result.andThen_ok,run_getObj_map hb,Hz _ kr,HA kr key _ e1]
      simp only [Nat.zero_add,Bu,Result.andThen_ok,uM hb]
    ·cases hi
   ·cases hi
 ·cases hi

theorem azw (H:aT P ρ h w) (t:TypeId) (g:fx):∃w' au v',(Instr.makeMap t none).run P w=.ok v' w'∧aw au (.map (some h.length)) v'∧aT P au (h++[.dQ g 0 []]) w'∧Tr ρ h w au (h++[.dQ g 0 []]) w':=by
 have nb:=iP.alloc w (.map #[] 0)
 obtain ⟨q1,q2⟩:=H.new (h₀:=h) (o:=.dQ g 0 []) (r:=⟨w.heap.size,0,0,P.cellsOf 0,0⟩) nb rfl rfl rfl (fun _=>.inl rfl) ⟨by simp,#[],nb.new,rfl,fun j b k v hj=>by simp at hj⟩
 refine ⟨_,_,.map (some w.heap.size),?_,aw.map (xW _ _ _),q1,q2⟩
 simp [Instr.makeMap]

theorem pX.set {g:fx} {c:Nat} {es:List (Nat×Value×Value)} {aJ:Array MapEntry} (E:pX ρ g es aJ) {k v v':Value} (hk:ep g k=true) (hv:aw ρ v v'):
  (mo k es=none→pX ρ g (es++[(c,k,v)]) (aJ.push { key:=k,val:=v',born:=c }))∧∀j b u,mo k es=some j→es[j]?=some (b,k,u)→pX ρ g (es.modify j fun e=>(e.1,k,v)) (aJ.modify j fun e=>{ e with key:=k,val:=v' }):=by
 constructor
 ·intro hp
  have cW:∀e∈es,e.2.1≠k:=by
   rcases Hd hk es with ⟨_,h2⟩ | ⟨j,e,h1,_⟩
   ·exact h2
   ·rw [hp] at h1;cases h1
  refine ⟨by simp [E.size],?_,?_⟩
  ·rw [List.map_append,List.nodup_append]
   refine ⟨E.nodup,by simp,?_⟩
   intro a ha b hb
   obtain ⟨e,he,rfl⟩:=List.mem_map.1 ha
   simp at hb
   subst hb
   exact cW e he
  ·intro j b k1 v1 hj
   by_cases aC:j<es.length
   ·rw [List.getElem?_append_left aC] at hj
    obtain ⟨g1,en,g2,g3⟩:=E.get j b k1 v1 hj
    exact ⟨g1,en,by rw [Array.getElem?_push_lt (by rw [E.size];exact aC)];rw [Array.getElem?_eq_getElem (by rw [E.size];exact aC)] at g2;exact g2,g3⟩
   ·rw [List.getElem?_append_right (by omega)] at hj
    have rD:j=es.length:=by
     have:=(List.getElem?_eq_some_iff.1 hj).1
     simp at this
     omega
    subst rD
    simp at hj
    obtain ⟨rfl,rfl,rfl⟩:=hj
    exact ⟨hk,{ key:=k,val:=v',born:=c },by rw [←E.size];simp,rfl,rfl,hv⟩
 ·intro j b u hp hj
  have asM:((es.modify j fun e=>(e.1,k,v)).map fun e=>e.2.1)=es.map fun e=>e.2.1:=by
   apply List.ext_getElem?
   intro i
   simp only [List.getElem?_map,List.getElem?_modify]
   by_cases dG:j=i
   ·subst dG;simp [hj]
   ·simp [dG]
  refine ⟨by simp [E.size],by rw [asM];exact E.nodup,?_⟩
  intro i b1 k1 v1 hi
  rw [List.getElem?_modify] at hi
  by_cases dG:j=i
  ·subst dG
   simp [hj] at hi
   obtain ⟨rfl,rfl,rfl⟩:=hi
   obtain ⟨g1,en,g2,g3,g4,_⟩:=E.get j b k u hj
   refine ⟨hk,{ en with key:=k,val:=v' },?_,rfl,g4,hv⟩
   rw [Array.getElem?_modify]
   simp [g2]
  ·simp [dG] at hi
   obtain ⟨g1,en,g2,g3⟩:=E.get i b1 k1 v1 hi
   refine ⟨g1,en,?_,g3⟩
   rw [Array.getElem?_modify]
   simp [dG,g2]

theorem ahy (H:aT P ρ h w) {t:TypeId} {g:fx} {m m' k k' v v':Value} {h':ae} (hg:pa P t=some g)
  (hi:BJ g h m k v=some h') (hm:aw ρ m m') (jI:aw ρ k k') (hv:aw ρ v v'):∃w',(Instr.mapUpdate t m' k' v').run P w=.ok () w'∧aT P ρ h' w'∧Tr ρ h w ρ h' w':=by
 obtain ⟨kt,et,ht,L⟩:=Fj hg
 unfold BJ at hi
 split at hi
 ·rename_i i
  cases hm with
  | map hr=>
   rename_i r
   split at hi
   ·rename_i g' c es he
    split at hi
    ·rename_i mO
     obtain ⟨rfl,hk,_⟩:=mO
     simp at hi;subst hi
     rw [jI.key hk]
     obtain ⟨aJ,hb,E⟩:=H.yh hr he
     have hI:cf h i:=.inr (.inr (.inr (.inr (.inl ⟨_,_,es,he⟩))))
     obtain ⟨S1,S2⟩:=E.set (c:=c) hk hv
     rcases Q2 (w:=w) L E hk with ⟨⟨e1,_⟩,e2⟩ | ⟨j,b,u,en,e1,e2,e3,e4,e5,e6,e7⟩
     ·have E':=S1 e1
      have sb:=kJ.obj hb (.map (aJ.push { key:=k,val:=v',born:=c }) (c+1))
      have jZ:qQ c k v es=es++[(c,k,v)]:=by simp [qQ,e1]
      have M7:so c k es=c+1:=by simp [so,e1]
      obtain ⟨q1,q2⟩:=H.set (o:=.dQ g' (so c k es) (qQ c k v es)) hr hI sb (by rw [jZ,M7];exact ⟨E'.nodup,_,sb.here,E'.size,E'.get⟩)
      refine ⟨_,?_,q1,q2⟩
      simp [Instr.mapUpdate,run_underlying ht,run_getObj_map hb,L.check w _ k hk,e2,uM hb]
     ·have E':=S2 j b u e1 e2
      have sb:=kJ.obj hb (.map (aJ.modify j fun e=>{ e with key:=k,val:=v' }) c)
      have jZ:qQ c k v es=es.modify j fun e=>(e.1,k,v):=by simp [qQ,e1]
      have M7:so c k es=c:=by simp [so,e1]
      obtain ⟨q1,q2⟩:=H.set (o:=.dQ g' (so c k es) (qQ c k v es)) hr hI sb (by rw [jZ,M7];exact ⟨E'.nodup,_,sb.here,E'.size,E'.get⟩)
      refine ⟨_,?_,q1,q2⟩
      have Bu:(Instr.keyThatStays (((aJ[j]?).map (·.key)).getD k) k).run P w=.ok k w:=by
       rw [e3]
       simp [e4,L.stays w k hk]
      simp only [Instr.mapUpdate,Sem.run_bind,run_underlying ht,Result.andThen_ok,run_getObj_map hb,L.check w _ k hk,e7]
      simp only [Bu,Result.andThen_ok,uM hb]
    ·cases hi
   ·cases hi
 ·cases hi

theorem pX.era {g:fx} {es:List (Nat×Value×Value)} {aJ:Array MapEntry} (E:pX ρ g es aJ) {j:Nat} (hj:j<es.length):pX ρ g (es.eraseIdx j) (aJ.eraseIdxIfInBounds j):=by
 have aC:j<aJ.size:=by rw [E.size];exact hj
 have he:aJ.eraseIdxIfInBounds j=aJ.eraseIdx j aC:=by simp [Array.eraseIdxIfInBounds,aC]
 rw [he]
 refine ⟨by rw [Array.size_eraseIdx,List.length_eraseIdx,if_pos hj,E.size],?_,?_⟩
 ·refine List.Nodup.sublist ?_ E.nodup
  exact (List.eraseIdx_sublist _ _).map _
 ·intro i b k v hi
  rw [List.getElem?_eraseIdx] at hi
  split at hi
  ·rename_i dG
   obtain ⟨g1,en,g2,g3⟩:=E.get i b k v hi
   exact ⟨g1,en,by rw [Array.getElem?_eraseIdx,if_pos dG];exact g2,g3⟩
  ·rename_i dG
   obtain ⟨g1,en,g2,g3⟩:=E.get (i+1) b k v hi
   exact ⟨g1,en,by rw [Array.getElem?_eraseIdx,if_neg dG];exact g2,g3⟩

theorem azj (H:aT P ρ h w) {t ty:TypeId} {ts:Array TypeId} {g:fx} {m m' k k':Value} {h':ae} (Bx:ts[0]?=some t) (hg:pa P t=some g)
  (hi:BH g h m k=some h') (hm:aw ρ m m') (jI:aw ρ k k'):∃w',(Builtin.delete_ ts ty #[m',k']).run P w=.ok (.tuple #[]) w'∧aT P ρ h' w'∧Tr ρ h w ρ h' w':=by
 obtain ⟨kt,et,ht,L⟩:=Fj hg
 unfold BH at hi
 split at hi
 ·rename_i i
  cases hm with
  | map hr=>
   rename_i r
   split at hi
   ·rename_i g' c es he
    split at hi
    ·rename_i mO
     obtain ⟨rfl,hk⟩:=mO
     simp at hi;subst hi
     rw [jI.key hk]
     obtain ⟨aJ,hb,E⟩:=H.yh hr he
     have hI:cf h i:=.inr (.inr (.inr (.inr (.inl ⟨_,_,es,he⟩))))
     rcases Q2 (w:=w) L E hk with ⟨⟨e1,_⟩,e2⟩ | ⟨j,b,u,en,e1,e2,e3,e4,e5,e6,e7⟩
     ·have sb:=kJ.obj hb (.map aJ c)
      have jZ:o9 k es=es:=by simp [o9,e1]
      obtain ⟨q1,q2⟩:=H.set (o:=.dQ g' c (o9 k es)) hr hI sb (by rw [jZ];exact ⟨E.nodup,_,sb.here,E.size,E.get⟩)
      refine ⟨_,?_,q1,q2⟩
      simp [Builtin.delete_,Bx,run_underlying ht,run_getObj_map hb,L.check w _ k hk,e2,uM hb]
     ·have E':=E.era (List.getElem?_eq_some_iff.1 e2).1
      have sb:=kJ.obj hb (.map (aJ.eraseIdxIfInBounds j) c)
      have jZ:o9 k es=es.eraseIdx j:=by simp [o9,e1]
      obtain ⟨q1,q2⟩:=H.set (o:=.dQ g' c (o9 k es)) hr hI sb (by rw [jZ];exact ⟨E'.nodup,_,sb.here,E'.size,E'.get⟩)
      refine ⟨_,?_,q1,q2⟩
      simp [Builtin.delete_,Bx,run_underlying ht,run_getObj_map hb,L.check w _ k hk,e7,uM hb]
    ·cases hi
   ·cases hi
 ·cases hi

theorem azA (H:aT P ρ h w) {t:TypeId} {g:fx} {x x' v:Value} {h':ae} (hg:pa P t=some g) (hi:yT h x=some (v,h')) (hx:aw ρ x x'):
  ∃w' au v',(Instr.range t x').run P w=.ok v' w'∧aw au v v'∧aT P au h' w'∧Tr ρ h w au h' w':=by
 obtain ⟨kt,et,ht,L⟩:=Fj hg
 unfold yT at hi
 split at hi
 ·rename_i i
  cases hx with
  | map hr=>
   rename_i r
   split at hi
   ·rename_i g' c es he
    simp at hi
    obtain ⟨rfl,rfl⟩:=hi
    obtain ⟨aJ,hb,E⟩:=H.yh hr he
    have nb:=iP.alloc w (.mapIter (some r.bj) c #[] c)
    have br:i≠h.length:=by
     have:=(List.getElem?_eq_some_iff.1 he).1
     omega
    obtain ⟨q1,q2⟩:=H.new (h₀:=h) (o:=.iter i c [] c) (r:=⟨w.heap.size,0,0,P.cellsOf 0,0⟩) nb rfl rfl rfl (fun _=>.inl rfl)
     ⟨rfl,r,by simp [aF.add,br,hr],nb.new⟩
    refine ⟨_,_,.pointer (some ⟨w.heap.size,0,none⟩),?_,?_,q1,q2⟩
    ·simp [Instr.range,run_underlying ht,run_getObj_map hb,newObj,Sem.run,Result.andThen]
    ·exact aw.ptr (o:=0) (xW _ _ _)
   ·cases hi
 ·cases hi

theorem iY.val {v v':Value} {h':ae} {s:Result Next} {w':World} {au:aF} (e:s=.ok (.value v') w') (a:aw au v v') (b:aT P au h' w') (c:Tr ρ h w au h' w'):iY P ρ h w v h' s:=
 ⟨_,_,_,_,e,.inl rfl,a,b,c⟩
theorem iY.skip {h':ae} {s:Result Next} {w':World} (e:s=.ok .skip w') (b:aT P ρ h' w') (c:Tr ρ h w ρ h' w'):iY P ρ h w undef h' s:=
 ⟨_,_,_,_,e,.inr ⟨rfl,rfl⟩,aw.undef _,b,c⟩

theorem art {o:Oper} {eo:mZ} {g g':Operand→Value} (hc:gA P o.op=some eo) (aB:o.op.operands.all iy=true) (H:aT P ρ h w)
  (hg:∀x,iy x=true→aw ρ (g x) (g' x)) {v:Value} {h':ae} (hi:fB eo g h=some (v,h')):iY P ρ h w v h' ((execOp g' o).run P w):=by
 cases ho:o.op with
 | store t a x=>
  rw [ho] at hc aB
  simp [Op.operands] at aB
  simp only [gA] at hc
  split at hc
  ·rename_i hk
   simp at hc;subst hc
   simp only [fB,Option.map_eq_some_iff,Prod.mk.injEq] at hi
   obtain ⟨aS,hi,rfl,rfl⟩:=hi
   obtain ⟨w',q1,q2,q3⟩:=azD H hk hi (hg a aB.1) (hg x aB.2)
   exact iY.skip (w':=w') (by simp [execOp,ho,q1]) q2 q3
  ·cases hc
 | box e x=>
  rw [ho] at hc aB
  simp [Op.operands] at aB
  simp [gA] at hc;subst hc
  obtain ⟨w',au,v',q1,q2,q3,q4⟩:=azf H hi (hg x aB)
  exact iY.val (v':=v') (w':=w') (by simp [execOp,ho,q1]) q2 q3 q4
 | alloc e=>
  rw [ho] at hc
  simp only [gA,Option.map_eq_some_iff] at hc
  obtain ⟨zs,hz,rfl⟩:=hc
  simp [fB] at hi
  obtain ⟨rfl,rfl⟩:=hi
  obtain ⟨w',au,v',q1,q2,q3,q4⟩:=azb H hz
  exact iY.val (v':=v') (w':=w') (by simp [execOp,ho,q1]) q2 q3 q4
 | buildSlice t n ps=>
  rw [ho] at hc aB
  simp only [gA] at hc
  simp only [Op.operands] at aB
  split at hc
  ·rename_i e ht
   split at hc
   ·rename_i zs hz
    split at hc
    ·rename_i hb
     simp at hc;subst hc
     have hq:∀q∈ps.toList,iy q.2=true:=by
      intro q hm
      rw [Array.all_eq_true'] at aB
      exact aB q.2 (by simp;exact ⟨q.1,by simpa using hm⟩)
     have hp:=Qs hg (fun i=>(i*P.cellsOf e,P.cellsOf e)) ps.toList hq
     obtain ⟨w',au,v',q1,q2,q3,q4⟩:=azy H ht hz hb.1 hb.2 (qs:=ps.map fun (i,x)=>(i,g' x)) (by simpa using hp) hi
     exact iY.val (v':=v') (w':=w') (by simp [execOp,ho,q1]) q2 q3 q4
    ·cases hc
   ·cases hc
  ·cases hc
 | makeSlice t l c=>
  rw [ho] at hc aB
  simp [Op.operands] at aB
  simp only [gA] at hc
  split at hc
  ·rename_i e ht
   split at hc
   ·rename_i zs hz
    simp at hc;subst hc
    obtain ⟨w',au,v',q1,q2,q3,q4⟩:=azu H ht hz hi (hg l aB.1) (hg c aB.2)
    exact iY.val (v':=v') (w':=w') (by simp [execOp,ho,q1]) q2 q3 q4
   ·cases hc
  ·cases hc
 | range t x=>
  rw [ho] at hc aB
  simp [Op.operands] at aB
  simp only [gA,Option.map_eq_some_iff] at hc
  obtain ⟨g,ju,rfl⟩:=hc
  obtain ⟨w',au,v',q1,q2,q3,q4⟩:=azA H ju hi (hg x aB)
  exact iY.val (v':=v') (w':=w') (by simp [execOp,ho,q1]) q2 q3 q4
 | next it b=>
  rw [ho] at hc
  cases b with
  | false=>simp [gA] at hc;subst hc;simp [fB] at hi
  | true=>simp [gA] at hc
 | makeMap t r=>
  rw [ho] at hc
  cases r with
  | none=>
   cases ju:pa P t with
   | some g=>
    simp only [gA,ju,Option.some.injEq] at hc
    subst hc
    simp [fB] at hi
    obtain ⟨rfl,rfl⟩:=hi
    obtain ⟨w',au,v',q1,q2,q3,q4⟩:=azw H t g
    exact iY.val (v':=v') (w':=w') (by simp [execOp,ho,q1]) q2 q3 q4
   | none=>
   have two:eo=.mkMap∨∃kd,eo=.Gn kd:=by
    simp only [gA,ju] at hc
    split at hc
    ·split at hc
     ·simp at hc;exact .inr ⟨_,hc.symm⟩
     ·simp at hc;exact .inl hc.symm
    ·simp at hc;exact .inl hc.symm
   rcases two with rfl | ⟨kd,rfl⟩
   ·simp [fB] at hi
    obtain ⟨rfl,rfl⟩:=hi
    obtain ⟨w',au,v',q1,q2,q3,q4⟩:=azv H t
    exact iY.val (v':=v') (w':=w') (by simp [execOp,ho,q1]) q2 q3 q4
   ·simp [fB] at hi
    obtain ⟨rfl,rfl⟩:=hi
    obtain ⟨w',au,v',q1,q2,q3,q4⟩:=azx H t kd
    exact iY.val (v':=v') (w':=w') (by simp [execOp,ho,q1]) q2 q3 q4
  | some r=>simp [gA] at hc
 | mapUpdate t m k x=>
  rw [ho] at hc aB
  simp [Op.operands] at aB
  simp only [gA] at hc
  split at hc
  ·rename_i g ju
   simp at hc;subst hc
   simp only [fB,Option.map_eq_some_iff,Prod.mk.injEq] at hi
   obtain ⟨aS,hi,rfl,rfl⟩:=hi
   obtain ⟨w',q1,q2,q3⟩:=ahy H ju hi (hg m aB.1) (hg k aB.2.1) (hg x aB.2.2)
   exact iY.skip (w':=w') (by simp [execOp,ho,q1]) q2 q3
  split at hc
  ·rename_i kt et ht
   split at hc
   ·rename_i hk
    simp at hc;subst hc
    simp only [fB,Option.map_eq_some_iff,Prod.mk.injEq] at hi
    obtain ⟨aS,hi,rfl,rfl⟩:=hi
    obtain ⟨w',q1,q2,q3⟩:=ahx H ht hk hi (hg m aB.1) (hg k aB.2.1) (hg x aB.2.2)
    exact iY.skip (w':=w') (by simp [execOp,ho,q1]) q2 q3
   ·simp only [Option.map_eq_some_iff] at hc
    obtain ⟨kd,mO,rfl⟩:=hc
    simp only [fB,Option.map_eq_some_iff,Prod.mk.injEq] at hi
    obtain ⟨aS,hi,rfl,rfl⟩:=hi
    obtain ⟨w',q1,q2,q3⟩:=ahz H ht mO hi (hg m aB.1) (hg k aB.2.1) (hg x aB.2.2)
    exact iY.skip (w':=w') (by simp [execOp,ho,q1]) q2 q3
  ·cases hc
 | insert t m k x=>
  rw [ho] at hc aB
  simp [Op.operands] at aB
  simp only [gA] at hc
  split at hc
  ·rename_i g ju
   simp at hc;subst hc
   simp only [fB,Option.map_eq_some_iff,Prod.mk.injEq] at hi
   obtain ⟨aS,hi,rfl,rfl⟩:=hi
   obtain ⟨w',q1,q2,q3⟩:=ahy H ju hi (hg m aB.1) (hg k aB.2.1) (hg x aB.2.2)
   exact iY.skip (w':=w') (by simp [execOp,ho,q1]) q2 q3
  split at hc
  ·rename_i kt et ht
   split at hc
   ·rename_i hk
    simp at hc;subst hc
    simp only [fB,Option.map_eq_some_iff,Prod.mk.injEq] at hi
    obtain ⟨aS,hi,rfl,rfl⟩:=hi
    obtain ⟨w',q1,q2,q3⟩:=ahx H ht hk hi (hg m aB.1) (hg k aB.2.1) (hg x aB.2.2)
    exact iY.skip (w':=w') (by simp [execOp,ho,q1]) q2 q3
   ·simp only [Option.map_eq_some_iff] at hc
    obtain ⟨kd,mO,rfl⟩:=hc
    simp only [fB,Option.map_eq_some_iff,Prod.mk.injEq] at hi
    obtain ⟨aS,hi,rfl,rfl⟩:=hi
    obtain ⟨w',q1,q2,q3⟩:=ahz H ht mO hi (hg m aB.1) (hg k aB.2.1) (hg x aB.2.2)
    exact iY.skip (w':=w') (by simp [execOp,ho,q1]) q2 q3
  ·cases hc
 | call c=>
  rw [ho] at hc aB
  obtain ⟨callee,args,argTypes⟩:=c
  cases callee with
  | builtin b=>
   cases b with
   | append=>
    simp only [gA] at hc
    split at hc
    ·rename_i s x t t' hx sU
     obtain rfl:args=#[s,x]:=Array.ext' hx
     obtain rfl:argTypes=#[t,t']:=Array.ext' sU
     simp [Op.operands,Call.operands] at aB
     split at hc
     ·rename_i hte
      subst hte
      split at hc
      ·rename_i e ht
       split at hc
       ·rename_i zs hz
        simp at hc;subst hc
        obtain ⟨w',au,v',q1,q2,q3,q4⟩:=azc (type:=o.type) H ht hz hi (hg s aB.1) (hg x aB.2)
        exact iY.val (v':=v') (w':=w') (by simp [execOp,ho,resolve,invoke,builtin,q1]) q2 q3 q4
       ·cases hc
      ·cases hc
     ·cases hc
    ·cases hc
   | copy=>
    simp only [gA] at hc
    split at hc
    ·rename_i d x t t' hx sU
     obtain rfl:args=#[d,x]:=Array.ext' hx
     obtain rfl:argTypes=#[t,t']:=Array.ext' sU
     simp [Op.operands,Call.operands] at aB
     split at hc
     ·rename_i e ht
      split at hc
      ·rename_i hz
       simp at hc;subst hc
       obtain ⟨w',q1,q2,q3,q4⟩:=azi (tt:=t') (type:=o.type) H ht hz hi (hg d aB.1) (hg x aB.2)
       exact iY.val (v':=v) (w':=w') (by simp [execOp,ho,resolve,invoke,builtin,q1]) q2 q3 q4
      ·cases hc
     ·cases hc
    ·cases hc
   | delete=>
    simp only [gA] at hc
    split at hc
    ·rename_i m k t hx sU
     obtain rfl:args=#[m,k]:=Array.ext' hx
     simp [Op.operands,Call.operands] at aB
     simp only [Option.map_eq_some_iff] at hc
     obtain ⟨g,ju,rfl⟩:=hc
     simp only [fB,Option.map_eq_some_iff,Prod.mk.injEq] at hi
     obtain ⟨aS,hi,rfl,rfl⟩:=hi
     obtain ⟨w',q1,q2,q3⟩:=azj (ty:=o.type) H sU ju hi (hg m aB.1) (hg k aB.2)
     exact iY.val (v':=.tuple #[]) (w':=w') (by simp [execOp,ho,resolve,invoke,builtin,q1]) (aw.undef _) q2 q3
    ·cases hc
   | _=>simp [gA] at hc
  | _=>simp [gA] at hc
 | panic x=>rw [ho] at hc;simp [gA] at hc;subst hc;simp [fB] at hi
 | makeInterface t x=>rw [ho] at hc;simp [gA] at hc;subst hc;simp [fB] at hi
 | _=>rw [ho] at hc;simp [gA] at hc

end
end Go.Sim


namespace Go.Sim

inductive fU where
 | p (o:nS)
 | l (o:m9)
 | e (o:mZ)
 | call (f:FuncId) (args:List Operand)
 | jE (x:Operand) (args:List Operand)

structure gM where
 dst:Option Nat
 op:fU
 guard:Option (Nat×Bool)

structure hC where
 dst:Option Nat
 op:fU

structure cK where
 op:gM
 pre:Nat

structure iZ where
 dst:Option Nat
 op:fU
 pre:Nat

inductive dX where
 | skip
 | EZ (l:List (Option (Nat×Bool)×List iZ))
 | ops (g:Option (Nat×Bool)) (l:List hC)
 | seq (a b:dX)
 | cut (ls:List Nat) (c:dX)
 | cond (c:Operand) (a b:dX)
 | block (id:Nat) (c:dX)
 | loop (ks ls:List Nat) (c:dX)
 | exit (id:Nat)
 | ret
 | range (g:Operand) (ls:List Nat) (c:Ai)

abbrev FR (R:Option Nat):Fence:={ Fence.wide with round:=R }

def tI (P:Program) (F:FuncId) (args:List Value) (h:ae) (v:Value) (h':ae):Prop:=
 ∀(ρ:aF) (args':Array Value) (w:World),bn ρ args args'.toList→aT P ρ h w→
  Calls P F args' w fun e w'=>∃v' au,e=.returned v'∧aw au v v'∧aT P au h' w'∧Tr ρ h w au h' w'

def pH (P:Program) (F:FuncId) (args:List Value) (h:ae) (K:Value→ae→Prop):Prop:=∃v h',tI P F args h v h'∧K v h'

theorem pH.mono {P:Program} {F:FuncId} {args:List Value} {h:ae} {K K':Value→ae→Prop} (hc:pH P F args h K) (hk:∀v h',K v h'→K' v h'):pH P F args h K':=
 let ⟨v,h',a,b⟩:=hc;⟨v,h',a,hk v h' b⟩

def IM (P:Program) (i:Nat) (args:List Value) (h:ae) (v:Value) (h':ae):Prop:=
 ∀(ρ:aF) (r:RI) (args':Array Value) (w:World),ρ i=some r→bn ρ args args'.toList→aT P ρ h w→
  ∃fn tmps jc body,(Instr.yield r.bj args').run P w=.ok (.round r.bj fn tmps jc body) w∧
   RoundIn Fence.wide 0 P r.bj fn tmps jc body w fun e w'=>∃v' au,e=.returned v'∧aw au v v'∧aT P au h' w'∧Tr ρ h w au h' w'

def BL (P:Program) (i:Nat) (args:List Value) (h:ae) (K:Value→ae→Prop):Prop:=∃v h',IM P i args h v h'∧K v h'

theorem BL.mono {P:Program} {i:Nat} {args:List Value} {h:ae} {K K':Value→ae→Prop} (hc:BL P i args h K) (hk:∀v h',K v h'→K' v h'):BL P i args h K':=
 let ⟨v,h',a,b⟩:=hc;⟨v,h',a,hk v h' b⟩

def p6 (P:Program) (f:FuncId):Bool:=
 match P.funcs[f]? with
 | some fn=>fn.name != "runtime.NumGoroutine" &&fn.body.isSome
 | none=>false

def eO (o:Option Value) (K:Value→Prop):Prop:=
 match o with
 | some v=>K v
 | none=>False

def lL (o:Option (Value×ae)) (K:Value→ae→Prop):Prop:=
 match o with
 | some (v,h')=>K v h'
 | none=>False

def rh (P:Program) (x:Value) (args:List Value) (h:ae) (K:Value→ae→Prop):Prop:=
 match x with
 | .func (.func g) first cap=>p6 P g=true∧pH P g (first.toList++args++cap.toList) h K
 | .func (.yield i) first cap=>(first=#[]∧cap=#[])∧BL P i args h K
 | _=>False

def rU (P:Program) (g:Value) (ls:List Nat) (vs:List Value) (c:Ai) (h:ae) (K:ae→Prop):Prop:=
 match g with
 | .func (.func F) first cap=>p6 P F=true∧pH P F (first.toList++[.func (.yield h.length) #[] #[]]++cap.toList) (h++[.loop c ls vs]) fun _ h'=>
   (∃c' ls' iI,h'[h.length]?=some (.loop c' ls' iI))∧K (h'.set h.length .dead)
 | _=>False

def cQ (P:Program) (o:fU) (f:Nat→Value) (h:ae) (K:Value→ae→Prop):Prop:=
 match o with
 | .p o=>eO (il o (ev f)) fun v=>K v h
 | .l o=>eO (eK o (ev f) h) fun v=>K v h
 | .e o=>lL (fB o (ev f) h) K
 | .call g args=>pH P g (args.map (ev f)) h K
 | .jE x args=>rh P (ev f x) (args.map (ev f)) h K

def oE (v:Value) (b:Bool):Bool:=
 match v with
 | .bool c=>c==b
 | _=>false

def tc:Value→Bool
 | .complex _ _ _=>true
 | _=>false

def gH (g:Option (Nat×Bool)) (f:Nat→Value):Bool:=
 match g with
 | none=>true
 | some (s,b)=>oE (f s) b

def jr (v:Value) (b:Bool) (A B:Prop):Prop:=
 match v with
 | .bool c=>if (c==b)=true then A else B
 | .complex _ _ _=>False
 | _=>B

def db (f:Nat→Value) (d:Option Nat) (v:Value):Nat→Value:=
 match d with
 | some d=>uO f d v
 | none=>f

def qH (P:Program):List gM→((Nat→Value)→ae→Prop)→(Nat→Value)→ae→Prop
 | [],K,f,h=>K f h
 | o::os,K,f,h=>
  match o.guard with
  | none=>cQ P o.op f h fun v h'=>qH P os K (db f o.dst v) h'
  | some (s,b)=>jr (f s) b (cQ P o.op f h fun v h'=>qH P os K (db f o.dst v) h') (qH P os K (db f o.dst undef) h)

def ue (P:Program):List hC→((Nat→Value)→ae→Prop)→(Nat→Value)→ae→Prop
 | [],K,f,h=>K f h
 | o::os,K,f,h=>cQ P o.op f h fun v h'=>ue P os K (db f o.dst v) h'

def zO:List hC→(Nat→Value)→(Nat→Value)
 | [],f=>f
 | o::os,f=>zO os (db f o.dst undef)

def qO (P:Program) (g:Option (Nat×Bool)) (l:List hC) (K:(Nat→Value)→ae→Prop) (f:Nat→Value) (h:ae):Prop:=
 match g with
 | none=>ue P l K f h
 | some (s,b)=>jr (f s) b (ue P l K f h) (K (zO l f) h)

def fU.c7:fU→Bool
 | .p _=>false
 | .l _=>false
 | _=>true

abbrev dU:=List (Nat×m9×(Nat→Value)×Value)

def tS (pre:Nat) (lo:m9) (f:Nat→Value) (v:Value):List (Nat×ae)→Prop
 | []=>True
 | (e,H)::r=>if pre.testBit e=true then tS pre lo f v r else eK lo (ev f) H=some v∧tS pre lo f v r

def jS (pre:Nat) (H:ae):dU→Prop
 | []=>True
 | (j,lo,f,v)::r=>if pre.testBit j=true then jS pre H r else eK lo (ev f) H=some v∧jS pre H r

def jF (P:Program) (io:fU) (pre j:Nat) (aL:List (Nat×ae)) (aH:dU) (f:Nat→Value) (h:ae) (next:List (Nat×ae)→dU→Value→ae→Prop):Prop:=
 match io with
 | .p po=>eO (il po (ev f)) fun v=>next aL aH v h
 | .l lo=>eO (eK lo (ev f) h) fun v=>tS pre lo f v aL∧next aL (aH++[(j,lo,f,v)]) v h
 | .e (.fl a)=>lL (fB (.fl a) (ev f) h) fun v h'=>eO (dH h' v) fun u=>jS pre h' aH∧next (aL++[(j,h)]) (aH++[(j,.obj (.const v),f,u)]) v h'
 | .e eo=>lL (fB eo (ev f) h) fun v h'=>jS pre h' aH∧next (aL++[(j,h)]) aH v h'
 | .call g args=>pH P g (args.map (ev f)) h fun v h'=>jS pre h' aH∧next (aL++[(j,h)]) aH v h'
 | .jE x args=>rh P (ev f x) (args.map (ev f)) h fun v h'=>jS pre h' aH∧next (aL++[(j,h)]) aH v h'

def tX (io:fU) (pre j:Nat) (aL:List (Nat×ae)) (aH:dU) (h:ae) (next:List (Nat×ae)→dU→Value→ae→Prop):Prop:=
 match io.c7 with
 | false=>next aL aH undef h
 | true=>jS pre h aH∧next (aL++[(j,h)]) aH undef h

def jL (P:Program):List cK→Nat→List (Nat×ae)→dU→((Nat→Value)→ae→Prop)→(Nat→Value)→ae→Prop
 | [],_,_,_,K,f,h=>K f h
 | o::os,j,aL,aH,K,f,h=>
  match o.op.guard with
  | none=>jF P o.op.op o.pre j aL aH f h fun aL aH v h'=>jL P os (j+1) aL aH K (db f o.op.dst v) h'
  | some (s,b)=>
   jr (f s) b (jF P o.op.op o.pre j aL aH f h fun aL aH v h'=>jL P os (j+1) aL aH K (db f o.op.dst v) h')
    (tX o.op.op o.pre j aL aH h fun aL aH v h'=>jL P os (j+1) aL aH K (db f o.op.dst v) h')

def mM (P:Program):List iZ→Nat→List (Nat×ae)→dU→(List (Nat×ae)→dU→(Nat→Value)→ae→Prop)→(Nat→Value)→ae→Prop
 | [],_,aL,aH,K,f,h=>K aL aH f h
 | o::os,j,aL,aH,K,f,h=>jF P o.op o.pre j aL aH f h fun aL aH v h'=>mM P os (j+1) aL aH K (db f o.dst v) h'

def sE:List iZ→Nat→List (Nat×ae)→dU→(List (Nat×ae)→dU→(Nat→Value)→ae→Prop)→(Nat→Value)→ae→Prop
 | [],_,aL,aH,K,f,h=>K aL aH f h
 | o::os,j,aL,aH,K,f,h=>tX o.op o.pre j aL aH h fun aL aH v h'=>sE os (j+1) aL aH K (db f o.dst v) h'

def ma (P:Program):List (Option (Nat×Bool)×List iZ)→Nat→List (Nat×ae)→dU→((Nat→Value)→ae→Prop)→(Nat→Value)→ae→Prop
 | [],_,_,_,K,f,h=>K f h
 | (none,l)::gs,j,aL,aH,K,f,h=>mM P l j aL aH (fun aL aH f h=>ma P gs (j+l.length) aL aH K f h) f h
 | (some (s,b),l)::gs,j,aL,aH,K,f,h=>
  jr (f s) b (mM P l j aL aH (fun aL aH f h=>ma P gs (j+l.length) aL aH K f h) f h)
   (sE l j aL aH (fun aL aH f h=>ma P gs (j+l.length) aL aH K f h) f h)

def aD (next:(Nat→Value)→ae→Prop) (K:Exit→(Nat→Value)→ae→Prop):Exit→(Nat→Value)→ae→Prop
 | .normal,f,h=>next f h
 | e,f,h=>K e f h

def bz (id:Nat) (K:Exit→(Nat→Value)→ae→Prop):Exit→(Nat→Value)→ae→Prop
 | .exit i,f,h=>if i=id then K .normal f h else K (.exit i) f h
 | e,f,h=>K e f h

def nj (c:Value) (a b:Prop):Prop:=
 match c with
 | .bool t=>if t=true then a else b
 | _=>False

def ye (Q:(Nat→Value)→ae→Prop) (ls:List Nat) (vs:List Value) (h:ae):Prop:=Q (ji ls vs) h

def xa (init:List Value) (h:ae) (Q:(List Value→ae→Prop)→List Value→ae→Prop):Prop:=
 ∃(J:List Value→ae→Prop) (μ:List Value→ae→Nat),J init h∧∀(xs:List Value) (hx:ae),J xs hx→Q (fun ys hy=>J ys hy∧μ ys hy<μ xs hx) xs hx

abbrev ar:=Exit→(Nat→Value)→ae→Prop

noncomputable def gR (P:Program) (c:dX):ar→(Nat→Value)→ae→Prop:=
 dX.rec (motive:=fun _=>ar→(Nat→Value)→ae→Prop)
  (fun K f h=>K .normal f h)
  (fun l K f h=>ma P l 0 [] [] (K .normal) f h)
  (fun g l K f h=>qO P g l (K .normal) f h)
  (fun _ _ ia ib K f h=>ia (aD (ib K) K) f h)
  (fun ls _ ic K f h=>ye (ic K) ls (ls.map f) h)
  (fun c _ _ ia ib K f h=>nj (ev f c) (ia K f h) (ib K f h))
  (fun id _ ic K f h=>ic (bz id K) f h)
  (fun ks ls _ ic K f h=>xa (ls.map f) h fun L xs hx=>ic (aD (fun f' aS=>ks.map f'=ks.map f∧L (ls.map f') aS) K) (ji (ks++ls) (ks.map f++xs)) hx)
  (fun id K f h=>K (.exit id) f h)
  (fun K f h=>K .ret f h)
  (fun g ls c K f h=>rU P (ev f g) ls (ls.map f) c h (K .normal f)) c

theorem aa0 {P:Program} {c:Operand} {a b:dX} {K:ar} {f:Nat→Value} {h:ae}:gR P (.cond c a b) K f h=nj (ev f c) (gR P a K f h) (gR P b K f h):=rfl

def sv (P:Program) (op:Op):Option fU:=
 match gO P op with
 | some o=>some (.p o)
 | none=>match sr P op with
  | some o=>some (.l o)
  | none=>match gA P op with
   | some o=>some (.e o)
   | none=>match op with
    | .call { callee:=.value (.func f),args,.. }=>if p6 P f then some (.call f args.toList) else none
    | .call { callee:=.value x,args,.. }=>some (.jE x args.toList)
    | _=>none

def ES (N:Nat) (ops:Array Oper):Option (Nat×Bool)→Option (Option (Nat×Bool))
 | none=>some none
 | some (j,b)=>match (ops[j]?).bind (·.dst) with
  | some s=>if s<N then some (some (s,b)) else none
  | none=>none

def vH (P:Program) (N:Nat) (ops:Array Oper) (o:Oper):Option gM:=
 if o.op.operands.all iy&&o.dst.all (·<N) then
  match sv P o.op,ES N ops o.guard with
  | some op,some g=>some ⟨o.dst,op,g⟩
  | _,_=>none
 else none

def jT (P:Program) (N:Nat) (ops:Array Oper):List Oper→Option (List gM)
 | []=>some []
 | o::os=>match vH P N ops o,jT P N ops os with
  | some x,some xs=>some (x::xs)
  | _,_=>none

def nS.fZ:nS→List Operand
 | .mv x | .un _ x | .conv _ x | .Re x | .OD x | .OE x | .Mw _ x | .Mz _ _ _ x | .OX x | .ext x _=>[x]
 | .pick c a b=>[c,a,b]
 | .bin _ x y | .E5 _ x y | .E6 _ x y | .Ok x y | .Oi _ _ _ x y | .K9 _ x y | .K8 _ _ x y=>[x,y]
 | .Gg _=>[]
 | .BV _ xs=>xs
 | .HM x lo hi=>x::(lo.toList++hi.toList)
 | .HP _ _ x lo hi=>x::(lo.toList++hi.toList)
 | .fn _ first captured=>first++captured
 | .build _ parts=>parts.map (·.2.2)
 | .Oj f x c=>[.func f,x,c]

def m9.fZ:m9→List Operand
 | .load _ _ a=>[a]
 | .xX x=>[x]
 | .lookup _ _ m k=>[m,k]
 | .Gi _ _ _ m k=>[m,k]
 | .Gh _ _ _ m k=>[m,k]
 | .entry it=>[it]
 | .obj x=>[x]

def kG.fZ:kG→List Operand
 | .alloc _ _=>[]
 | .lK _ _ _ parts=>parts.map (·.2.2)
 | .make _ _ _ l c=>[l,c]
 | .mX _=>[]

def mZ.fZ:mZ→List Operand
 | .fl a=>a.fZ
 | .store _ a v=>[a,v]
 | .box _ x=>[x]
 | .alloc _ _=>[]
 | .lK _ _ _ parts=>parts.map (·.2.2)
 | .make _ _ _ l c=>[l,c]
 | .app _ _ _ s x=>[s,x]
 | .mkMap=>[]
 | .Gn _=>[]
 | .die=>[]
 | .mX _=>[]
 | .OT _ m k v=>[m,k,v]
 | .AJ _ m k=>[m,k]
 | .QR x=>[x]
 | .next it=>[it]
 | .OU _ m k v=>[m,k,v]
 | .OS m k v=>[m,k,v]
 | .copy d s=>[d,s]

def fU.fZ:fU→List Operand
 | .p o=>o.fZ
 | .l o=>o.fZ
 | .e o=>o.fZ
 | .call _ args=>args
 | .jE x args=>x::args

def tmpsOf:List Operand→List Nat
 | []=>[]
 | .tmp t::xs=>t::tmpsOf xs
 | _::xs=>tmpsOf xs

def gM.reads (o:gM):List Nat:=(match o.guard with | some (s,_)=>[s] | none=>[])++tmpsOf o.op.fZ

def tm (nK:List Nat):List Nat→Nat
 | []=>0
 | e::es=>(2^e ||| nK.getD e 0) ||| tm nK es

def iA:List (List Nat)→List Nat→List Nat
 | [],acc=>acc
 | es::r,acc=>iA r (acc++[tm acc es])

def rZ (o:cK) (t:Nat):Bool:=o.op.dst==some t||o.op.reads.contains t

def zA (oj:cK) (j:Nat) (oi:cK) (i:Nat):Bool:=
 (i==j||(match oi.op.dst with
  | none=>true
  | some t=> !rZ oj t||(if i<j then oj.pre.testBit i else oi.pre.testBit j)))&&
 (!(decide (i<j)&&oi.op.op.c7&&oj.op.op.c7)||oj.pre.testBit i)

def G9 (l:List cK):Bool:=l.zipIdx.all fun (oj,j)=>l.zipIdx.all fun (oi,i)=>zA oj j oi i

def eG (o:Oper):List Nat:=o.after.toList.filterMap fun e=>if Region.binds .any e then some e.on else none

def vB (ops:List Oper):Nat→Bool
 | i=>match ops with
  | []=>true
  | o::os=>(eG o).all (·<i)&&vB os (i+1)

def mD:List gM→List Nat→List cK
 | o::os,p::ps=>⟨o,p⟩::mD os ps
 | _,_=>[]

def L4 (P:Program) (N:Nat) (ops:Array Oper):Option (List cK):=
 match jT P N ops ops.toList with
 | some ios=>
  if P.follows .mixedOrders&&vB ops.toList 0&&G9 (mD ios (iA (ops.toList.map eG) [])) then some (mD ios (iA (ops.toList.map eG) [])) else none
 | none=>none


def gG (o:cK):Bool:=match o.op.op with | .e (.fl _)=>true | _=>false

def MB (l:List cK):List Nat:=
 l.zipIdx.filterMap fun (oi,i)=>
  if (match oi.op.op with | .e eo=>eo.H5.isSome | _=>false)&&oi.op.guard.isNone&&(l.zipIdx.any fun (oj,j)=>j != i&&oj.op.op.c7&& !(oi.pre.testBit j)&& !(oj.pre.testBit i)) then some i else none

def AT (o:gM):gM:=
 match o.op,o.guard with
 | .e eo,none=>match eo.H5 with | some a=>⟨o.dst,.e (.fl a),none⟩ | none=>o
 | _,_=>o

def Gl (pre:Nat):List Nat→Nat→Nat
 | [],_=>0
 | i::is,q=>(if pre.testBit i then 2^q else 0) ||| Gl pre is (q+1)

def avx (l:List cK) (fl:List Nat):List Nat:=
 let inD:=fun i=>fl.contains i||fl.any fun a=>((l[a]?).map fun o=>o.pre.testBit i).getD false
 (List.range l.length).filter inD++(List.range l.length).filter fun i=> !inD i

def aa9 (l:List cK) (fl perm:List Nat):List cK:=
 perm.filterMap fun i=>(l[i]?).map fun o=>⟨if fl.contains i then AT o.op else o.op,Gl o.pre perm 0⟩

def EY:List Nat→Bool
 | []=>true
 | x::xs=> !(xs.contains x)&&EY xs

def zB (oj:cK) (j:Nat) (oi:cK) (i:Nat):Bool:=
 (i==j||(match oi.op.dst with
  | none=>true
  | some t=> !rZ oj t||(if i<j then oj.pre.testBit i else oi.pre.testBit j)))&&
 (!(decide (i<j)&&oi.op.op.c7&&oj.op.op.c7&& !(gG oi)&& !(gG oj))||oj.pre.testBit i)

def rC (l:List cK):Nat:=l.length-((l.reverse.takeWhile fun o=> !(gG o)).length)

def okF (l:List cK) (perm:List Nat) (nK:List Nat):Bool:=
 l.length==nK.length&&perm.length==nK.length&&EY perm&&perm.all (·<nK.length)&&
 (l.zipIdx.all fun (oj,j)=>l.zipIdx.all fun (oi,i)=>zB oj j oi i)&&
 (l.zipIdx.all fun (o,q)=>if q<rC l then !(o.op.op.c7)||gG o else !(gG o))&&
 (l.zipIdx.all fun (o,q)=>(List.range nK.length).all fun k=>o.pre.testBit k==(nK.getD (perm.getD q 0) 0).testBit (perm.getD k 0))&&
 (l.zipIdx.all fun (o,_)=> !(gG o)||o.op.guard.isNone)

def ER (P:Program) (N:Nat) (ops:Array Oper):Option (List cK×List Nat):=
 match jT P N ops ops.toList with
 | some ios=>
  let nK:=iA (ops.toList.map eG) []
  let l:=mD ios nK
  let fl:=MB l
  let perm:=avx l fl
  let l':=aa9 l fl perm
  if P.follows .mixedOrders&&vB ops.toList 0&&okF l' perm nK then some (l',perm) else none
 | none=>none

def L5 (P:Program) (N:Nat) (ops:Array Oper):Option (List cK):=
 match L4 P N ops with
 | some l=>some l
 | none=>(ER P N ops).map Prod.fst

def ru:List gM→List (Option (Nat×Bool)×List hC)
 | []=>[]
 | o::os=>match ru os with
  | (g,l)::gs=>if o.guard=g then (g,⟨o.dst,o.op⟩::l)::gs else (o.guard,[⟨o.dst,o.op⟩])::(g,l)::gs
  | []=>[(o.guard,[⟨o.dst,o.op⟩])]

def leaves (g:Option (Nat×Bool)) (d:Option Nat):Bool:=
 match g with
 | some (s,_)=>d != some s
 | none=>true

def tW:List cK→List (Option (Nat×Bool)×List iZ)
 | []=>[]
 | o::os=>match tW os with
  | (g,l)::gs=>if o.op.guard=g then (g,⟨o.op.dst,o.op.op,o.pre⟩::l)::gs else (o.op.guard,[⟨o.op.dst,o.op.op,o.pre⟩])::(g,l)::gs
  | []=>[(o.op.guard,[⟨o.op.dst,o.op.op,o.pre⟩])]

abbrev Hints:=List (List Nat)

def tU (ls:List Nat) (c:dX):dX:=
 match ls with
 | []=>c
 | l::ls=>.cut (l::ls) c

def oJ:List (Option (Nat×Bool)×List hC)→Hints→dX×Hints
 | [],hs=>(.skip,hs)
 | (g,l)::gs,hs=>
  match gs,hs with
  | [],hs=>(.ops g l,hs)
  | gs,h::hs=>let r:=oJ gs hs;(.seq (.ops g l) (tU h r.1),r.2)
  | gs,[]=>let r:=oJ gs [];(.seq (.ops g l) r.1,r.2)

def eD (P:Program) (N:Nat):Code→Hints→Option (dX×Hints)
 | .skip,hs=>some (.skip,hs)
 | .region _ ops false,hs=>
  match jT P N ops ops.toList with
  | some l=>if l.all fun o=>leaves o.guard o.dst then some (oJ (ru l) hs) else none
  | none=>some (.ops none [⟨none,.e .die⟩],hs)
 | .region _ ops true,hs=>
  match L5 P N ops with
  | some l=>if l.all fun o=>leaves o.op.guard o.op.dst then some (.EZ (tW l),hs) else none
  | none=>none
 | .seq a b,hs=>
  match eD P N a hs with
  | some (x,h::hs)=>match eD P N b hs with
   | some (y,hs)=>some (.seq x (tU h y),hs)
   | none=>none
  | some (x,[])=>match eD P N b [] with
   | some (y,hs)=>some (.seq x y,hs)
   | none=>none
  | none=>none
 | .cond c a b,hs=>if iy c then match eD P N a hs with
  | some (x,hs)=>match eD P N b hs with
   | some (y,hs)=>some (.cond c x y,hs)
   | none=>none
  | none=>none
  else none
 | .block id c,hs=>match eD P N c hs with
  | some (x,hs)=>some (.block id x,hs)
  | none=>none
 | .loop c,hs=>
  match hs with
  | ks::ls::hs=>match eD P N c hs with
   | some (x,hs)=>some (.loop ks ls x,hs)
   | none=>none
  | _=>none
 | .exit id,hs=>some (.exit id,hs)
 | .ret,hs=>some (.ret,hs)
 | .rangeFunc g ps jc body,hs=>
  match hs with
  | ls::hs=>if iy g&&ps.all (·<N) then some (.range g ls ⟨N,ps,jc,body⟩,hs) else none
  | []=>none
 | _,_=>none

def gu:Code→Bool
 | .seq a b=>gu a&&gu b
 | .cond _ a b=>gu a&&gu b
 | .block _ c=>gu c
 | .loop c=>gu c
 | .rangeFunc .. =>false
 | _=>true

section
variable {P : Program} {N : Nat}

def vf (P:Program) (N B:Nat) (ρ:aF) (h:ae) (w:World) (e:Exit) (f':Nat→Value) (h':ae):Exit→Act→World→Prop:=
 fun e' a' w'=>e'=e∧∃au,Rel P N B au f' h' a' w'∧Tr ρ h w au h' w'

def fL (P:Program) (N:Nat) (out:Bool) (c:Code) (f:Nat→Value) (h:ae) (e:Exit) (f':Nat→Value) (h':ae):Prop:=
 ∀R,(out=true→R=none)→∀B ρ a w,Rel P N B ρ f h a w→c.wpIn (FR R) 0 P (vf P N B ρ h w e f' h') a w

def Dj (P:Program) (N:Nat) (o:Oper) (f:Nat→Value) (h:ae) (v:Value) (h':ae):Prop:=
 ∀R B ρ a w,Rel P N B ρ f h a w→∀(next:Act→World→Prop) (Q:Exit→Act→World→Prop),
  (∀au v' w',aw au v v'→aT P au h' w'→Tr ρ h w au h' w'→next (a.put o.dst v') w')→o.wpIn (FR R) 0 P a w next Q

theorem HF {o:Oper} (hn:∀c,o.op≠ .defer c) (R:Option Nat) (g:Operand→Value):o.semAt R g=execOp g o:=by
 cases R with
 | none=>rfl
 | some l=>exact Oper.semAt_some l g o hn

theorem Ii {R:Option Nat} {o:Oper} {a:Act} {w w':World} {next:Act→World→Prop} {Q:Exit→Act→World→Prop} {v:Value} (hn:∀c,o.op≠ .defer c)
  (he:(execOp a.eval o).run P w=.ok (.value v) w') (hk:next (a.put o.dst v) w'):o.wpIn (FR R) 0 P a w next Q:=by
 refine ⟨fun _ _=>trivial,?_⟩
 rw [HF hn,he,Oper.uponIn_value]
 exact hk

theorem aAB {R:Option Nat} {o:Oper} {a:Act} {w w':World} {next:Act→World→Prop} {Q:Exit→Act→World→Prop} (hn:∀c,o.op≠ .defer c)
  (he:(execOp a.eval o).run P w=.ok .skip w') (hk:next (a.put o.dst undef) w'):o.wpIn (FR R) 0 P a w next Q:=by
 refine ⟨fun _ _=>trivial,?_⟩
 rw [HF hn,he,Oper.uponIn_skip]
 exact hk

theorem Yf {f:FuncId} {args:Array Value} {w:World} {K:Ending→World→Prop} (h:Calls P f args w K) (R:Option Nat) (n:Nat):CallsIn (FR R) n P f args w K:=by
 cases R with
 | none=>exact callsIn_wide.2 h
 | some l=>exact (callsIn_wide (n:=n)).2 h

theorem ay3 {l:Nat} {f:FuncId} {tmps:Array Value} {jc body:Code} {w:World} {K:Ending→World→Prop} (h:RoundIn Fence.wide 0 P l f tmps jc body w K) (R:Option Nat):
  RoundIn (FR R) 0 P l f tmps jc body w K:=h

theorem LV {f:FuncId} (h:p6 P f=true) (args:Array Value) (w:World):(callFunc f args).run P w=.ok (.enter f args) w:=by
 unfold p6 at h
 split at h
 ·rename_i fn hf
  simp only [Bool.and_eq_true,bne_iff_ne] at h
  obtain ⟨h1,h2⟩:=h
  have h3:fn.body≠none:=by
   intro hb
   simp [hb] at h2
  simp [callFunc,hf,h1,h3]
 ·cases h

theorem adx {o:Oper} {f:Nat→Value} {h:ae} {g:FuncId} {args:List Value} {v:Value} {h':ae} (hc:tI P g args h v h')
  (hd:∀c,o.op≠ .defer c)
  (he:∀B ρ a w,Rel P N B ρ f h a w→∃args':Array Value,bn ρ args args'.toList∧(execOp a.eval o).run P w=.ok (.enter g args') w):Dj P N o f h v h':=by
 intro r B ρ a w R next Q hn
 obtain ⟨args',hv,hr⟩:=he B ρ a w R
 refine ⟨fun _ _=>trivial,?_⟩
 rw [HF hd,hr,Oper.uponIn_enter]
 refine ⟨fun h=>(by cases h),?_⟩
 refine (Yf (hc ρ args' w hv R.heap) r _).mono ?_
 rintro e w' ⟨v',au,rfl,h1,h2,h3⟩
 exact hn au v' w' h1 h2 h3

theorem avk {o:Oper} {f:Nat→Value} {h:ae} {i:Nat} {args:List Value} {v:Value} {h':ae} (hc:IM P i args h v h')
  (hd:∀c,o.op≠ .defer c)
  (he:∀B ρ a w,Rel P N B ρ f h a w→∃(r:RI) (args':Array Value),ρ i=some r∧bn ρ args args'.toList∧(execOp a.eval o).run P w=(Instr.yield r.bj args').run P w):Dj P N o f h v h':=by
 intro R' B ρ a w R next Q hn
 obtain ⟨r,args',hi,hv,hr⟩:=he B ρ a w R
 obtain ⟨fn,tmps,jc,body,e1,e2⟩:=hc ρ r args' w hi hv R.heap
 refine ⟨fun _ _=>trivial,?_⟩
 rw [HF hd,hr,e1,Oper.uponIn_round]
 refine ⟨fun h=>(by cases h),?_⟩
 refine (ay3 e2 R').mono ?_
 rintro e w' ⟨v',au,rfl,h1,h2,h3⟩
 exact hn au v' w' h1 h2 h3

theorem Yi {op:Op} {io:fU} (h:sv P op=some io):∀c,op≠ .defer c:=by
 rintro c rfl
 simp [sv,gO,sr,gA] at h

theorem L8 {op:Op} {io:fU} (h:sv P op=some io):(∃o,io=.p o∧gO P op=some o)∨(∃o,io=.l o∧sr P op=some o)∨(∃o,io=.e o∧gA P op=some o)∨
  (∃f args at_,op=.call ⟨.value (.func f),args,at_⟩∧p6 P f=true∧io=.call f args.toList)∨(∃x args at_,op=.call ⟨.value x,args,at_⟩∧io=.jE x args.toList):=by
 unfold sv at h
 split at h
 ·rename_i o ho;simp at h;exact .inl ⟨o,h.symm,ho⟩
 ·split at h
  ·rename_i o ho;simp at h;exact .inr (.inl ⟨o,h.symm,ho⟩)
  ·split at h
   ·rename_i o ho;simp at h;exact .inr (.inr (.inl ⟨o,h.symm,ho⟩))
   ·split at h
    ·split at h
     ·rename_i hc;simp at h;exact .inr (.inr (.inr (.inl ⟨_,_,_,rfl,hc,h.symm⟩)))
     ·cases h
    ·simp at h;exact .inr (.inr (.inr (.inr ⟨_,_,_,rfl,h.symm⟩)))
    ·cases h

theorem xl {o:Oper} {io:fU} {f:Nat→Value} {h:ae} {K:Value→ae→Prop} (hc:sv P o.op=some io) (aB:o.op.operands.all iy=true) (hs:cQ P io f h K):
  ∃v h',Dj P N o f h v h'∧K v h':=by
 have ny:=Yi hc
 rcases L8 hc with ⟨po,rfl,hp⟩ | ⟨lo,rfl,hl⟩ | ⟨eo,rfl,he⟩ | ⟨g,args,at_,ho,kM,rfl⟩ | ⟨x,args,at_,ho,rfl⟩
 ·simp only [cQ,eO] at hs
  split at hs
  ·rename_i v hv
   refine ⟨v,h,?_,hs⟩
   intro _ B ρ a w R next Q hn
   obtain ⟨v',h1,h2⟩:=avG w hp aB R.heap.aV (fun x hx=>R.ev hx) hv
   exact Ii ny h1 (hn ρ v' w h2 R.heap (Tr.refl R.heap))
  ·exact hs.elim
 ·simp only [cQ,eO] at hs
  split at hs
  ·rename_i v hv
   refine ⟨v,h,?_,hs⟩
   intro _ B ρ a w R next Q hn
   obtain ⟨v',h1,h2⟩:=auT hl aB R.heap (fun x hx=>R.ev hx) hv
   exact Ii ny h1 (hn ρ v' w h2 R.heap (Tr.refl R.heap))
  ·exact hs.elim
 ·simp only [cQ,lL] at hs
  split at hs
  ·rename_i v h' hv
   refine ⟨v,h',?_,hs⟩
   intro _ B ρ a w R next Q hn
   obtain ⟨nx,w',au,v',e1,e2,e3,e4,e5⟩:=art he aB R.heap (fun x hx=>R.ev hx) hv
   rcases e2 with rfl | ⟨rfl,rfl⟩
   ·exact Ii ny e1 (hn au v' w' e3 e4 e5)
   ·exact aAB ny e1 (hn au undef w' e3 e4 e5)
  ·exact hs.elim
 ·obtain ⟨v,h',pg,hk⟩:=hs
  refine ⟨v,h',adx pg ny ?_,hk⟩
  intro B ρ a w R
  rw [ho] at aB
  simp [Op.operands,Call.operands] at aB
  refine ⟨args.map a.eval,by simpa using bn.xe (fun x hx=>R.ev hx) (xs:=args.toList) (by simpa using aB.2),?_⟩
  simp [execOp,ho,resolve,Act.eval,Deferred.ofValue,invoke,LV kM]
 ·simp only [cQ,rh] at hs
  rw [ho] at aB
  simp [Op.operands,Call.operands] at aB
  split at hs
  ·rename_i g first cap hx
   obtain ⟨kM,v,h',pg,hk⟩:=hs
   refine ⟨v,h',adx pg ny ?_,hk⟩
   intro B ρ a w R
   have hr:=R.ev (x:=x) aB.1
   rw [hx] at hr
   generalize hy:a.eval x=y at hr
   cases hr with
   | func _ s1 s2 r1 r2=>
    rename_i My EJ
    refine ⟨My++args.map a.eval++EJ,?_,?_⟩
    ·have q1:=bn.qU s1 r1
     have q2:=bn.xe (fun x hx=>R.ev hx) (xs:=args.toList) (by simpa using aB.2)
     have q3:=bn.qU s2 r2
     simpa using (q1.append q2).append q3
    ·simp [execOp,ho,resolve,hy,Deferred.ofValue,invoke,LV kM]
  ·rename_i i first cap hx
   obtain ⟨⟨rfl,rfl⟩,v,h',pg,hk⟩:=hs
   refine ⟨v,h',avk pg ny ?_,hk⟩
   intro B ρ a w R
   have hr:=R.ev (x:=x) aB.1
   rw [hx] at hr
   generalize hy:a.eval x=y at hr
   cases hr with
   | yield hi=>
    rename_i r
    refine ⟨r,args.map a.eval,hi,by simpa using bn.xe (fun x hx=>R.ev hx) (xs:=args.toList) (by simpa using aB.2),?_⟩
    simp [execOp,ho,resolve,hy,Deferred.ofValue,invoke]
  ·exact hs.elim

end
end Go.Sim

