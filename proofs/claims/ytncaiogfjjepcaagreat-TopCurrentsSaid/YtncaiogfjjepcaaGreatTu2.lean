/-
  Part 2 of the texts behind a statement of this seat: Sim14, Sim15, Sim17, Sim18, Sim18b, Sim18c, Sim18d, Sim18e, Sim18f, Sim19, Sim19b, Sim16, Sim20, Sim21, Sim23, Sim24, Sim30, Sim31, Sim33.
-/
import Derived.ProofKit
import Derived.OpenShut
import Derived.Test.YtncaiogfjjepcaaGreatTu1
open Array (replicate)
open Bool (and_eq_true or_eq_true)
open Classical (byContradiction choose_spec)
open List (all_eq_true cons_append getD getElem?_append_left getElem?_eq_getElem getElem?_set_ne getElem?_set_self length_cons map_cons mem_cons mem_cons_of_mem mem_range nodup_cons range')
open Nat (add_zero le_of_not_lt le_refl zero_add)
open Option (bind_some getD_some map_some)
namespace Go.Sim
section
inductive kB where
 | p (o:p7)
 | l (o:qM)
 | e (o:pM)
 | call (f:FuncId) (args:List Operand)
 | ou (x:Operand) (args:List Operand)
structure jK where
 dst:Option Nat
 op:kB
 guard:Option (Nat×Bool)
structure oZ where
 dst:Option Nat
 op:kB
structure dQ where
 op:jK
 pre:Nat
structure nO where
 dst:Option Nat
 op:kB
 pre:Nat
inductive jz where
 | skip
 | adA (l:List (Option (Nat×Bool)×List nO))
 | ops (g:Option (Nat×Bool)) (l:List oZ)
 | seq (a b:jz)
 | cut (ls:List Nat) (c:jz)
 | cond (c:Operand) (a b:jz)
 | block (id:Nat) (c:jz)
 | loop (ks ls:List Nat) (c:jz)
 | exit (id:Nat)
 | ret
 | range (g:Operand) (ls:List Nat) (c:Ft)
abbrev FR (R:Option Nat):Fence:={ Fence.wide with round:=R }
def Wv (P:Program) (F:FuncId) (args:List Value) (h:ae) (v:Value) (h':ae):Prop:=
 ∀(ρ:bk) (args':Array Value) (w:World),dw ρ args args'.toList->bN P ρ h w->
  Calls P F args' w λe w'=>∃v' aN,e=.returned v'/\aK aN v v'/\bN P aN h' w'/\Tr ρ h w aN h' w'
def rC (P:Program) (F:FuncId) (args:List Value) (h:ae) (K:Value->ae->Prop):Prop:=∃v h',Wv P F args h v h'/\K v h'
theorem rC.mono {P:Program} {F:FuncId} {args:List Value} {h:ae} {K K':Value->ae->Prop} (hc:rC P F args h K) (hk:∀v h',K v h'->K' v h'):rC P F args h K':=
 let ⟨v,h',a,b⟩:=hc;⟨v,h',a,hk v h' b⟩
def Ww (P:Program) (i:Nat) (args:List Value) (h:ae) (v:Value) (h':ae):Prop:=
 ∀(ρ:bk) (r:RI) (args':Array Value) (w:World),ρ i=some r->dw ρ args args'.toList->bN P ρ h w->
  ∃fn tmps nt body,(Instr.yield r.cZ args').run P w=.ok (.round r.cZ fn tmps nt body) w/\
   RoundIn Fence.wide 0 P r.cZ fn tmps nt body w λe w'=>∃v' aN,e=.returned v'/\aK aN v v'/\bN P aN h' w'/\Tr ρ h w aN h' w'
def IF (P:Program) (i:Nat) (args:List Value) (h:ae) (K:Value->ae->Prop):Prop:=∃v h',Ww P i args h v h'/\K v h'
theorem IF.mono {P:Program} {i:Nat} {args:List Value} {h:ae} {K K':Value->ae->Prop} (hc:IF P i args h K) (hk:∀v h',K v h'->K' v h'):IF P i args h K':=
 let ⟨v,h',a,b⟩:=hc;⟨v,h',a,hk v h' b⟩
def rS (P:Program) (f:FuncId):Bool:=
 match P.funcs[f]? with
 | some fn=>fn.name != "runtime.NumGoroutine" &&fn.body.isSome
 | none=>false
def iI (o:Option Value) (K:Value->Prop):Prop:=
 match o with
 | some v=>K v
 | none=>False
def pE (o:Option (Value×ae)) (K:Value->ae->Prop):Prop:=
 match o with
 | some (v,h')=>K v h'
 | none=>False
def uF (P:Program) (x:Value) (args:List Value) (h:ae) (K:Value->ae->Prop):Prop:=
 match x with
 | .func (.func g) first cap=>rS P g=true/\rC P g (first.toList++args++cap.toList) h K
 | .func (.yield i) first cap=>(first=#[]/\cap=#[])/\IF P i args h K
 | _=>False
def Bu (P:Program) (g:Value) (ls:List Nat) (vs:List Value) (c:Ft) (h:ae) (K:ae->Prop):Prop:=
 match g with
 | .func (.func F) first cap=>rS P F=true/\rC P F (first.toList++[.func (.yield h.length) #[] #[]]++cap.toList) (h++[.loop c ls vs]) λ_ h'=>
   (∃c' ls' kX,h'[h.length]?=some (.loop c' ls' kX))/\K (h'.set h.length .dead)
 | _=>False
def eY (P:Program) (o:kB) (f:Nat->Value) (h:ae) (K:Value->ae->Prop):Prop:=
 match o with
 | .p o=>iI (kn o (ev f)) λv=>K v h
 | .l o=>iI (ie o (ev f) h) λv=>K v h
 | .e o=>pE (iR o (ev f) h) K
 | .call g args=>rC P g (args.map (ev f)) h K
 | .ou x args=>uF P (ev f x) (args.map (ev f)) h K
def qu (v:Value) (b:Bool):Bool:=
 match v with
 | .bool c=>c==b
 | _=>false
def vC:Value->Bool
 | .complex _ _ _=>true
 | _=>false
def jJ (g:Option (Nat×Bool)) (f:Nat->Value):Bool:=
 match g with
 | none=>true
 | some (s,b)=>qu (f s) b
def mu (v:Value) (b:Bool) (A B:Prop):Prop:=
 match v with
 | .bool c=>if (c==b)=true then A else B
 | .complex _ _ _=>False
 | _=>B
def fW (f:Nat->Value) (d:Option Nat) (v:Value):Nat->Value:=
 match d with
 | some d=>zM f d v
 | none=>f
def sA (P:Program):List jK->((Nat->Value)->ae->Prop)->(Nat->Value)->ae->Prop
 | [],K,f,h=>K f h
 | o::os,K,f,h=>
  match o.guard with
  | none=>eY P o.op f h λv h'=>sA P os K (fW f o.dst v) h'
  | some (s,b)=>mu (f s) b (eY P o.op f h λv h'=>sA P os K (fW f o.dst v) h') (sA P os K (fW f o.dst undef) h)
def yk (P:Program):List oZ->((Nat->Value)->ae->Prop)->(Nat->Value)->ae->Prop
 | [],K,f,h=>K f h
 | o::os,K,f,h=>eY P o.op f h λv h'=>yk P os K (fW f o.dst v) h'
def U6:List oZ->(Nat->Value)->(Nat->Value)
 | [],f=>f
 | o::os,f=>U6 os (fW f o.dst undef)
def zx (P:Program) (g:Option (Nat×Bool)) (l:List oZ) (K:(Nat->Value)->ae->Prop) (f:Nat->Value) (h:ae):Prop:=
 match g with
 | none=>yk P l K f h
 | some (s,b)=>mu (f s) b (yk P l K f h) (K (U6 l f) h)
def kB.eQ:kB->Bool
 | .p _=>false
 | .l _=>false
 | _=>true
abbrev iB:=List (Nat×qM×(Nat->Value)×Value)
def Aw (pre:Nat) (lo:qM) (f:Nat->Value) (v:Value):List (Nat×ae)->Prop
 | []=>True
 | (e,H)::r=>if pre.testBit e=true then Aw pre lo f v r else ie lo (ev f) H=some v/\Aw pre lo f v r
def pe (pre:Nat) (H:ae):iB->Prop
 | []=>True
 | (j,lo,f,v)::r=>if pre.testBit j=true then pe pre H r else ie lo (ev f) H=some v/\pe pre H r
def ny (P:Program) (io:kB) (pre j:Nat) (bJ:List (Nat×ae)) (bD:iB) (f:Nat->Value) (h:ae) (next:List (Nat×ae)->iB->Value->ae->Prop):Prop:=
 match io with
 | .p po=>iI (kn po (ev f)) λv=>next bJ bD v h
 | .l lo=>iI (ie lo (ev f) h) λv=>Aw pre lo f v bJ/\next bJ (bD++[(j,lo,f,v)]) v h
 | .e (.fl a)=>pE (iR (.fl a) (ev f) h) λv h'=>iI (eA h' v) λu=>pe pre h' bD/\next (bJ++[(j,h)]) (bD++[(j,.obj (.const v),f,u)]) v h'
 | .e eo=>pE (iR eo (ev f) h) λv h'=>pe pre h' bD/\next (bJ++[(j,h)]) bD v h'
 | .call g args=>rC P g (args.map (ev f)) h λv h'=>pe pre h' bD/\next (bJ++[(j,h)]) bD v h'
 | .ou x args=>uF P (ev f x) (args.map (ev f)) h λv h'=>pe pre h' bD/\next (bJ++[(j,h)]) bD v h'
def yc (io:kB) (pre j:Nat) (bJ:List (Nat×ae)) (bD:iB) (h:ae) (next:List (Nat×ae)->iB->Value->ae->Prop):Prop:=
 match io.eQ with
 | false=>next bJ bD undef h
 | true=>pe pre h bD/\next (bJ++[(j,h)]) bD undef h
def lW (P:Program):List dQ->Nat->List (Nat×ae)->iB->((Nat->Value)->ae->Prop)->(Nat->Value)->ae->Prop
 | [],_,_,_,K,f,h=>K f h
 | o::os,j,bJ,bD,K,f,h=>
  match o.op.guard with
  | none=>ny P o.op.op o.pre j bJ bD f h λbJ bD v h'=>lW P os (j+1) bJ bD K (fW f o.op.dst v) h'
  | some (s,b)=>
   mu (f s) b (ny P o.op.op o.pre j bJ bD f h λbJ bD v h'=>lW P os (j+1) bJ bD K (fW f o.op.dst v) h')
    (yc o.op.op o.pre j bJ bD h λbJ bD v h'=>lW P os (j+1) bJ bD K (fW f o.op.dst v) h')
def uP (P:Program):List nO->Nat->List (Nat×ae)->iB->(List (Nat×ae)->iB->(Nat->Value)->ae->Prop)->(Nat->Value)->ae->Prop
 | [],_,bJ,bD,K,f,h=>K bJ bD f h
 | o::os,j,bJ,bD,K,f,h=>ny P o.op o.pre j bJ bD f h λbJ bD v h'=>uP P os (j+1) bJ bD K (fW f o.dst v) h'
def yj:List nO->Nat->List (Nat×ae)->iB->(List (Nat×ae)->iB->(Nat->Value)->ae->Prop)->(Nat->Value)->ae->Prop
 | [],_,bJ,bD,K,f,h=>K bJ bD f h
 | o::os,j,bJ,bD,K,f,h=>yc o.op o.pre j bJ bD h λbJ bD v h'=>yj os (j+1) bJ bD K (fW f o.dst v) h'
def qR (P:Program):List (Option (Nat×Bool)×List nO)->Nat->List (Nat×ae)->iB->((Nat->Value)->ae->Prop)->(Nat->Value)->ae->Prop
 | [],_,_,_,K,f,h=>K f h
 | (none,l)::gs,j,bJ,bD,K,f,h=>uP P l j bJ bD (λbJ bD f h=>qR P gs (j+l.length) bJ bD K f h) f h
 | (some (s,b),l)::gs,j,bJ,bD,K,f,h=>
  mu (f s) b (uP P l j bJ bD (λbJ bD f h=>qR P gs (j+l.length) bJ bD K f h) f h)
   (yj l j bJ bD (λbJ bD f h=>qR P gs (j+l.length) bJ bD K f h) f h)
def aH (next:(Nat->Value)->ae->Prop) (K:Exit->(Nat->Value)->ae->Prop):Exit->(Nat->Value)->ae->Prop
 | .normal,f,h=>next f h
 | e,f,h=>K e f h
def bC (id:Nat) (K:Exit->(Nat->Value)->ae->Prop):Exit->(Nat->Value)->ae->Prop
 | .exit i,f,h=>if i=id then K .normal f h else K (.exit i) f h
 | e,f,h=>K e f h
def sX (c:Value) (a b:Prop):Prop:=
 match c with
 | .bool t=>if t=true then a else b
 | _=>False
def Hr (Q:(Nat->Value)->ae->Prop) (ls:List Nat) (vs:List Value) (h:ae):Prop:=Q (qy ls vs) h
def IT (init:List Value) (h:ae) (Q:(List Value->ae->Prop)->List Value->ae->Prop):Prop:=
 ∃(J:List Value->ae->Prop) (μ:List Value->ae->Nat),J init h/\∀(xs:List Value) (hx:ae),J xs hx->Q (λys hy=>J ys hy/\μ ys hy<μ xs hx) xs hx
abbrev ax:=Exit->(Nat->Value)->ae->Prop
noncomputable def lZ (P:Program) (c:jz):ax->(Nat->Value)->ae->Prop:=
 jz.rec (motive:=λ_=>ax->(Nat->Value)->ae->Prop)
  (λK f h=>K .normal f h)
  (λl K f h=>qR P l 0 [] [] (K .normal) f h)
  (λg l K f h=>zx P g l (K .normal) f h)
  (λ_ _ ia ib K f h=>ia (aH (ib K) K) f h)
  (λls _ ic K f h=>Hr (ic K) ls (ls.map f) h)
  (λc _ _ ia ib K f h=>sX (ev f c) (ia K f h) (ib K f h))
  (λid _ ic K f h=>ic (bC id K) f h)
  (λks ls _ ic K f h=>IT (ls.map f) h λL xs hx=>ic (aH (λf' aQ=>ks.map f'=ks.map f/\L (ls.map f') aQ) K) (qy (ks++ls) (ks.map f++xs)) hx)
  (λid K f h=>K (.exit id) f h)
  (λK f h=>K .ret f h)
  (λg ls c K f h=>Bu P (ev f g) ls (ls.map f) c h (K .normal f)) c
theorem aCa {P:Program} {c:Operand} {a b:jz} {K:ax} {f:Nat->Value} {h:ae}:lZ P (.cond c a b) K f h=sX (ev f c) (lZ P a K f h) (lZ P b K f h):=rfl
def wu (P:Program) (op:Op):Option kB:=
 match jM P op with
 | some o=>some (.p o)
 | none=>match uI P op with
  | some o=>some (.l o)
  | none=>match jW P op with
   | some o=>some (.e o)
   | none=>match op with
    | .call { callee:=.value (.func f),args,.. }=>if rS P f then some (.call f args.toList) else none
    | .call { callee:=.value x,args,.. }=>some (.ou x args.toList)
    | _=>none
def Hn (N:Nat) (ops:Array Oper):Option (Nat×Bool)->Option (Option (Nat×Bool))
 | none=>some none
 | some (j,b)=>match (ops[j]?).bind (·.dst) with
  | some s=>if s<N then some (some (s,b)) else none
  | none=>none
def ya (P:Program) (N:Nat) (ops:Array Oper) (o:Oper):Option jK:=
 if o.op.operands.all kF&&o.dst.all (·<N) then
  match wu P o.op,Hn N ops o.guard with
  | some op,some g=>some ⟨o.dst,op,g⟩
  | _,_=>none
 else none
def nR (P:Program) (N:Nat) (ops:Array Oper):List Oper->Option (List jK)
 | []=>some []
 | o::os=>match ya P N ops o,nR P N ops os with
  | some x,some xs=>some (x::xs)
  | _,_=>none
def p7.jk:p7->List Operand
 | .mv x | .un _ x | .conv _ x | .UY x | .UE x | .Rt x | .Ru x | .Pt _ x | .Pz _ _ _ x | .RN x | .ext x _=>[x]
 | .pick c a b=>[c,a,b]
 | .bin _ x y | .HI _ x y | .HJ _ x y | .HG _ _ x y | .Q8 x y | .Q6 _ _ _ x y | .NH _ x y | .NG _ _ x y=>[x,y]
 | .IK _=>[]
 | .Dr _ xs=>xs
 | .J1 x lo hi=>x::(lo.toList++hi.toList)
 | .J2 _ _ x lo hi=>x::(lo.toList++hi.toList)
 | .fn _ first captured=>first++captured
 | .build _ parts=>parts.map (·.2.2)
 | .Q7 f x c=>[.func f,x,c]
def qM.jk:qM->List Operand
 | .load _ _ a=>[a]
 | .xR x=>[x]
 | .lookup _ _ m k=>[m,k]
 | .IS _ _ _ m k=>[m,k]
 | .IQ _ _ _ m k=>[m,k]
 | .entry it=>[it]
 | .obj x=>[x]
def nj.jk:nj->List Operand
 | .alloc _ _=>[]
 | .oa _ _ _ parts=>parts.map (·.2.2)
 | .make _ _ _ l c=>[l,c]
 | .pD _=>[]
def pM.jk:pM->List Operand
 | .fl a=>a.jk
 | .store _ a v=>[a,v]
 | .box _ x=>[x]
 | .alloc _ _=>[]
 | .oa _ _ _ parts=>parts.map (·.2.2)
 | .make _ _ _ l c=>[l,c]
 | .app _ _ _ s x=>[s,x]
 | .mkMap=>[]
 | .IY _=>[]
 | .die=>[]
 | .pD _=>[]
 | .RK _ m k v=>[m,k,v]
 | .Pd _ m k=>[m,k]
 | .UF x=>[x]
 | .next it=>[it]
 | .RL _ m k v=>[m,k,v]
 | .RJ m k v=>[m,k,v]
 | .copy d s=>[d,s]
 | .O6 _ d s=>[d,s]
def kB.jk:kB->List Operand
 | .p o=>o.jk
 | .l o=>o.jk
 | .e o=>o.jk
 | .call _ args=>args
 | .ou x args=>x::args
def tmpsOf:List Operand->List Nat
 | []=>[]
 | .tmp t::xs=>t::tmpsOf xs
 | _::xs=>tmpsOf xs
def jK.reads (o:jK):List Nat:=(match o.guard with | some (s,_)=>[s] | none=>[])++tmpsOf o.op.jk
def vJ (pV:List Nat):List Nat->Nat
 | []=>0
 | e::es=>(2^e ||| pV.getD e 0) ||| vJ pV es
def kC:List (List Nat)->List Nat->List Nat
 | [],acc=>acc
 | es::r,acc=>kC r (acc++[vJ acc es])
def ue (o:dQ) (t:Nat):Bool:=o.op.dst==some t||o.op.reads.contains t
def Bq (oj:dQ) (j:Nat) (oi:dQ) (i:Nat):Bool:=
 (i==j||(match oi.op.dst with
  | none=>true
  | some t=> !ue oj t||(if i<j then oj.pre.testBit i else oi.pre.testBit j)))&&
 (!(decide (i<j)&&oi.op.op.eQ&&oj.op.op.eQ)||oj.pre.testBit i)
def JE (l:List dQ):Bool:=l.zipIdx.all λ(oj,j)=>l.zipIdx.all λ(oi,i)=>Bq oj j oi i
def gq (o:Oper):List Nat:=o.after.toList.filterMap λe=>if Region.binds .any e then some e.on else none
def xS (ops:List Oper):Nat->Bool
 | i=>match ops with
  | []=>true
  | o::os=>(gq o).all (·<i)&&xS os (i+1)
def oW:List jK->List Nat->List dQ
 | o::os,p::ps=>⟨o,p⟩::oW os ps
 | _,_=>[]
def O3 (P:Program) (N:Nat) (ops:Array Oper):Option (List dQ):=
 match nR P N ops ops.toList with
 | some ios=>
  if P.follows .mixedOrders&&xS ops.toList 0&&JE (oW ios (kC (ops.toList.map gq) [])) then some (oW ios (kC (ops.toList.map gq) [])) else none
 | none=>none
def jG (o:dQ):Bool:=match o.op.op with | .e (.fl _)=>true | _=>false
def PB (l:List dQ):List Nat:=
 l.zipIdx.filterMap λ(oi,i)=>
  if (match oi.op.op with | .e eo=>eo.Kf.isSome | _=>false)&&oi.op.guard.isNone&&(l.zipIdx.any λ(oj,j)=>j != i&&oj.op.op.eQ&& !(oi.pre.testBit j)&& !(oj.pre.testBit i)) then some i else none
def Cr (o:jK):jK:=
 match o.op,o.guard with
 | .e eo,none=>match eo.Kf with | some a=>⟨o.dst,.e (.fl a),none⟩ | none=>o
 | _,_=>o
def IV (pre:Nat):List Nat->Nat->Nat
 | [],_=>0
 | i::is,q=>(if pre.testBit i then 2^q else 0) ||| IV pre is (q+1)
def aDA (l:List dQ) (fl:List Nat):List Nat:=
 let inD:=λi=>fl.contains i||fl.any λa=>((l[a]?).map λo=>o.pre.testBit i).getD false
 (List.range l.length).filter inD++(List.range l.length).filter λi=> !inD i
def afW (l:List dQ) (fl perm:List Nat):List dQ:=
 perm.filterMap λi=>(l[i]?).map λo=>⟨if fl.contains i then Cr o.op else o.op,IV o.pre perm 0⟩
def Hw:List Nat->Bool
 | []=>true
 | x::xs=> !(xs.contains x)&&Hw xs
def Br (oj:dQ) (j:Nat) (oi:dQ) (i:Nat):Bool:=
 (i==j||(match oi.op.dst with
  | none=>true
  | some t=> !ue oj t||(if i<j then oj.pre.testBit i else oi.pre.testBit j)))&&
 (!(decide (i<j)&&oi.op.op.eQ&&oj.op.op.eQ&& !(jG oi)&& !(jG oj))||oj.pre.testBit i)
def tG (l:List dQ):Nat:=l.length-((l.reverse.takeWhile λo=> !(jG o)).length)
def okF (l:List dQ) (perm:List Nat) (pV:List Nat):Bool:=
 l.length==pV.length&&perm.length==pV.length&&Hw perm&&perm.all (·<pV.length)&&
 (l.zipIdx.all λ(oj,j)=>l.zipIdx.all λ(oi,i)=>Br oj j oi i)&&
 (l.zipIdx.all λ(o,q)=>if q<tG l then !(o.op.op.eQ)||jG o else !(jG o))&&
 (l.zipIdx.all λ(o,q)=>(List.range pV.length).all λk=>o.pre.testBit k==(pV.getD (perm.getD q 0) 0).testBit (perm.getD k 0))&&
 (l.zipIdx.all λ(o,_)=> !(jG o)||o.op.guard.isNone)
def Hm (P:Program) (N:Nat) (ops:Array Oper):Option (List dQ×List Nat):=
 match nR P N ops ops.toList with
 | some ios=>
  let pV:=kC (ops.toList.map gq) []
  let l:=oW ios pV
  let fl:=PB l
  let perm:=aDA l fl
  let l':=afW l fl perm
  if P.follows .mixedOrders&&xS ops.toList 0&&okF l' perm pV then some (l',perm) else none
 | none=>none
def O4 (P:Program) (N:Nat) (ops:Array Oper):Option (List dQ):=
 match O3 P N ops with
 | some l=>some l
 | none=>(Hm P N ops).map Prod.fst
def uQ:List jK->List (Option (Nat×Bool)×List oZ)
 | []=>[]
 | o::os=>match uQ os with
  | (g,l)::gs=>if o.guard=g then (g,⟨o.dst,o.op⟩::l)::gs else (o.guard,[⟨o.dst,o.op⟩])::(g,l)::gs
  | []=>[(o.guard,[⟨o.dst,o.op⟩])]
def leaves (g:Option (Nat×Bool)) (d:Option Nat):Bool:=
 match g with
 | some (s,_)=>d != some s
 | none=>true
def wx:List dQ->List (Option (Nat×Bool)×List nO)
 | []=>[]
 | o::os=>match wx os with
  | (g,l)::gs=>if o.op.guard=g then (g,⟨o.op.dst,o.op.op,o.pre⟩::l)::gs else (o.op.guard,[⟨o.op.dst,o.op.op,o.pre⟩])::(g,l)::gs
  | []=>[(o.op.guard,[⟨o.op.dst,o.op.op,o.pre⟩])]
abbrev Hints:=List (List Nat)
def Ci (ls:List Nat) (c:jz):jz:=
 match ls with
 | []=>c
 | l::ls=>.cut (l::ls) c
def xb:List (Option (Nat×Bool)×List oZ)->Hints->jz×Hints
 | [],hs=>(.skip,hs)
 | (g,l)::gs,hs=>
  match gs,hs with
  | [],hs=>(.ops g l,hs)
  | gs,h::hs=>let r:=xb gs hs;(.seq (.ops g l) (Ci h r.1),r.2)
  | gs,[]=>let r:=xb gs [];(.seq (.ops g l) r.1,r.2)
def lC (P:Program) (N:Nat):Code->Hints->Option (jz×Hints)
 | .skip,hs=>some (.skip,hs)
 | .region _ ops false,hs=>
  match nR P N ops ops.toList with
  | some l=>if l.all λo=>leaves o.guard o.dst then some (xb (uQ l) hs) else none
  | none=>some (.ops none [⟨none,.e .die⟩],hs)
 | .region _ ops true,hs=>
  match O4 P N ops with
  | some l=>if l.all λo=>leaves o.op.guard o.op.dst then some (.adA (wx l),hs) else none
  | none=>none
 | .seq a b,hs=>
  match lC P N a hs with
  | some (x,h::hs)=>match lC P N b hs with
   | some (y,hs)=>some (.seq x (Ci h y),hs)
   | none=>none
  | some (x,[])=>match lC P N b [] with
   | some (y,hs)=>some (.seq x y,hs)
   | none=>none
  | none=>none
 | .cond c a b,hs=>if kF c then match lC P N a hs with
  | some (x,hs)=>match lC P N b hs with
   | some (y,hs)=>some (.cond c x y,hs)
   | none=>none
  | none=>none
  else none
 | .block id c,hs=>match lC P N c hs with
  | some (x,hs)=>some (.block id x,hs)
  | none=>none
 | .loop c,hs=>
  match hs with
  | ks::ls::hs=>match lC P N c hs with
   | some (x,hs)=>some (.loop ks ls x,hs)
   | none=>none
  | _=>none
 | .exit id,hs=>some (.exit id,hs)
 | .ret,hs=>some (.ret,hs)
 | .rangeFunc g ps nt body,hs=>
  match hs with
  | ls::hs=>if kF g&&ps.all (·<N) then some (.range g ls ⟨N,ps,nt,body⟩,hs) else none
  | []=>none
 | _,_=>none
def oM:Code->Bool
 | .seq a b=>oM a&&oM b
 | .cond _ a b=>oM a&&oM b
 | .block _ c=>oM c
 | .loop c=>oM c
 | .rangeFunc .. =>false
 | _=>true
section
variable {P : Program} {N : Nat}
def xN (P:Program) (N B:Nat) (ρ:bk) (h:ae) (w:World) (e:Exit) (f':Nat->Value) (h':ae):Exit->Act->World->Prop:=
 λe' a' w'=>e'=e/\∃aN,gL P N B aN f' h' a' w'/\Tr ρ h w aN h' w'
def jr (P:Program) (N:Nat) (out:Bool) (c:Code) (f:Nat->Value) (h:ae) (e:Exit) (f':Nat->Value) (h':ae):Prop:=
 ∀R,(out=true->R=none)->∀B ρ a w,gL P N B ρ f h a w->c.wpIn (FR R) 0 P (xN P N B ρ h w e f' h') a w
def Fv (P:Program) (N:Nat) (o:Oper) (f:Nat->Value) (h:ae) (v:Value) (h':ae):Prop:=
 ∀R B ρ a w,gL P N B ρ f h a w->∀(next:Act->World->Prop) (Q:Exit->Act->World->Prop),
  (∀aN v' w',aK aN v v'->bN P aN h' w'->Tr ρ h w aN h' w'->next (a.put o.dst v') w')->o.wpIn (FR R) 0 P a w next Q
theorem JV {o:Oper} (hn:∀c,o.op≠ .defer c) (R:Option Nat) (g:Operand->Value):o.semAt R g=execOp g o:=by
 cases R with
 | none=>rfl
 | some l=>exact Oper.semAt_some l g o hn
theorem Vg {R:Option Nat} {o:Oper} {a:Act} {w w':World} {next:Act->World->Prop} {Q:Exit->Act->World->Prop} {v:Value} (hn:∀c,o.op≠ .defer c)
  (he:(execOp a.eval o).run P w=.ok (.value v) w') (hk:next (a.put o.dst v) w'):o.wpIn (FR R) 0 P a w next Q:=by
 refine ⟨λ_ _=>trivial,?_⟩
 rw [JV hn,he,Oper.uponIn_value]
 exact hk
theorem aK2 {R:Option Nat} {o:Oper} {a:Act} {w w':World} {next:Act->World->Prop} {Q:Exit->Act->World->Prop} (hn:∀c,o.op≠ .defer c)
  (he:(execOp a.eval o).run P w=.ok .skip w') (hk:next (a.put o.dst undef) w'):o.wpIn (FR R) 0 P a w next Q:=by
 refine ⟨λ_ _=>trivial,?_⟩
 rw [JV hn,he,Oper.uponIn_skip]
 exact hk
theorem acZ {f:FuncId} {args:Array Value} {w:World} {K:Ending->World->Prop} (h:Calls P f args w K) (R:Option Nat) (n:Nat):CallsIn (FR R) n P f args w K:=by
 cases R with
 | none=>exact callsIn_wide.2 h
 | some l=>exact (callsIn_wide (n:=n)).2 h
theorem aJv {l:Nat} {f:FuncId} {tmps:Array Value} {nt body:Code} {w:World} {K:Ending->World->Prop} (h:RoundIn Fence.wide 0 P l f tmps nt body w K) (R:Option Nat):
  RoundIn (FR R) 0 P l f tmps nt body w K:=h
theorem OU {f:FuncId} (h:rS P f=true) (args:Array Value) (w:World):(callFunc f args).run P w=.ok (.enter f args) w:=by
 unfold rS at h
 split at h
 ·rename_i fn hf
  simp only [and_eq_true,bne_iff_ne] at h
  obtain ⟨h1,h2⟩:=h
  have h3:fn.body≠none:=by
   intro hb
   simp [hb] at h2
  simp [callFunc,hf,h1,h3]
 ·cases h
theorem aiG {o:Oper} {f:Nat->Value} {h:ae} {g:FuncId} {args:List Value} {v:Value} {h':ae} (hc:Wv P g args h v h')
  (hd:∀c,o.op≠ .defer c)
  (he:∀B ρ a w,gL P N B ρ f h a w->∃args':Array Value,dw ρ args args'.toList/\(execOp a.eval o).run P w=.ok (.enter g args') w):Fv P N o f h v h':=by
 intro r B ρ a w R next Q hn
 obtain ⟨args',hv,hr⟩:=he B ρ a w R
 refine ⟨λ_ _=>trivial,?_⟩
 rw [JV hd,hr,Oper.uponIn_enter]
 refine ⟨λh=>(by cases h),?_⟩
 refine (acZ (hc ρ args' w hv R.heap) r _).mono ?_
 rintro e w' ⟨v',aN,rfl,h1,h2,h3⟩
 exact hn aN v' w' h1 h2 h3
theorem aDn {o:Oper} {f:Nat->Value} {h:ae} {i:Nat} {args:List Value} {v:Value} {h':ae} (hc:Ww P i args h v h')
  (hd:∀c,o.op≠ .defer c)
  (he:∀B ρ a w,gL P N B ρ f h a w->∃(r:RI) (args':Array Value),ρ i=some r/\dw ρ args args'.toList/\(execOp a.eval o).run P w=(Instr.yield r.cZ args').run P w):Fv P N o f h v h':=by
 intro R' B ρ a w R next Q hn
 obtain ⟨r,args',hi,hv,hr⟩:=he B ρ a w R
 obtain ⟨fn,tmps,nt,body,e1,e2⟩:=hc ρ r args' w hi hv R.heap
 refine ⟨λ_ _=>trivial,?_⟩
 rw [JV hd,hr,e1,Oper.uponIn_round]
 refine ⟨λh=>(by cases h),?_⟩
 refine (aJv e2 R').mono ?_
 rintro e w' ⟨v',aN,rfl,h1,h2,h3⟩
 exact hn aN v' w' h1 h2 h3
theorem aze {op:Op} {io:kB} (h:wu P op=some io):∀c,op≠ .defer c:=by
 rintro c rfl
 simp [wu,jM,uI,jW] at h
theorem adi {op:Op} {io:kB} (h:wu P op=some io):(∃o,io=.p o/\jM P op=some o)∨(∃o,io=.l o/\uI P op=some o)∨(∃o,io=.e o/\jW P op=some o)∨
  (∃f args at_,op=.call ⟨.value (.func f),args,at_⟩/\rS P f=true/\io=.call f args.toList)∨(∃x args at_,op=.call ⟨.value x,args,at_⟩/\io=.ou x args.toList):=by
 unfold wu at h
 split at h
 ·rename_i o ho;simp at h;exact .inl ⟨o,h.symm,ho⟩
 ·split at h
  ·rename_i o ho;simp at h;exact .inr (.inl ⟨o,h.symm,ho⟩)
  ·split at h
   ·rename_i o ho;simp at h;exact .inr (.inr (.inl ⟨o,h.symm,ho⟩))
   ·split at h
    ·split at h
     ·rename_i hc;simp at h;exact .inr (.inr (.inr (.inl ⟨_,_,_,rfl,hc,h.symm⟩)))
     ·cases h
    ·simp at h;exact .inr (.inr (.inr (.inr ⟨_,_,_,rfl,h.symm⟩)))
    ·cases h
theorem Bl {o:Oper} {io:kB} {f:Nat->Value} {h:ae} {K:Value->ae->Prop} (hc:wu P o.op=some io) (bc:o.op.operands.all kF=true) (hs:eY P io f h K):
  ∃v h',Fv P N o f h v h'/\K v h':=by
 have oC:=aze hc
 rcases adi hc with ⟨po,rfl,hp⟩ | ⟨lo,rfl,hl⟩ | ⟨eo,rfl,he⟩ | ⟨g,args,at_,ho,pQ,rfl⟩ | ⟨x,args,at_,ho,rfl⟩
 ·simp only [eY,iI] at hs
  split at hs
  ·rename_i v hv
   refine ⟨v,h,?_,hs⟩
   intro _ B ρ a w R next Q hn
   obtain ⟨v',h1,h2⟩:=aDF w hp bc R.heap.esz (λx hx=>R.ev hx) hv
   exact Vg oC h1 (hn ρ v' w h2 R.heap (Tr.refl R.heap))
  ·exact hs.elim
 ·simp only [eY,iI] at hs
  split at hs
  ·rename_i v hv
   refine ⟨v,h,?_,hs⟩
   intro _ B ρ a w R next Q hn
   obtain ⟨v',h1,h2⟩:=aCY hl bc R.heap (λx hx=>R.ev hx) hv
   exact Vg oC h1 (hn ρ v' w h2 R.heap (Tr.refl R.heap))
  ·exact hs.elim
 ·simp only [eY,pE] at hs
  split at hs
  ·rename_i v h' hv
   refine ⟨v,h',?_,hs⟩
   intro _ B ρ a w R next Q hn
   obtain ⟨nx,w',aN,v',e1,e2,e3,e4,e5⟩:=az3 he bc R.heap (λx hx=>R.ev hx) hv
   rcases e2 with rfl | ⟨rfl,rfl⟩
   ·exact Vg oC e1 (hn aN v' w' e3 e4 e5)
   ·exact aK2 oC e1 (hn aN undef w' e3 e4 e5)
  ·exact hs.elim
 ·obtain ⟨v,h',tz,hk⟩:=hs
  refine ⟨v,h',aiG tz oC ?_,hk⟩
  intro B ρ a w R
  rw [ho] at bc
  simp [Op.operands,Call.operands] at bc
  refine ⟨args.map a.eval,by simpa using dw.zo (λx hx=>R.ev hx) (xs:=args.toList) (by simpa using bc.2),?_⟩
  simp [execOp,ho,resolve,Act.eval,Deferred.ofValue,invoke,OU pQ]
 ·simp only [eY,uF] at hs
  rw [ho] at bc
  simp [Op.operands,Call.operands] at bc
  split at hs
  ·rename_i g first cap hx
   obtain ⟨pQ,v,h',tz,hk⟩:=hs
   refine ⟨v,h',aiG tz oC ?_,hk⟩
   intro B ρ a w R
   have hr:=R.ev (x:=x) bc.1
   rw [hx] at hr
   generalize hy:a.eval x=y at hr
   cases hr with
   | func _ s1 s2 r1 r2=>
    rename_i Pw OV
    refine ⟨Pw++args.map a.eval++OV,?_,?_⟩
    ·have q1:=dw.zK s1 r1
     have q2:=dw.zo (λx hx=>R.ev hx) (xs:=args.toList) (by simpa using bc.2)
     have q3:=dw.zK s2 r2
     simpa using (q1.append q2).append q3
    ·simp [execOp,ho,resolve,hy,Deferred.ofValue,invoke,OU pQ]
  ·rename_i i first cap hx
   obtain ⟨⟨rfl,rfl⟩,v,h',tz,hk⟩:=hs
   refine ⟨v,h',aDn tz oC ?_,hk⟩
   intro B ρ a w R
   have hr:=R.ev (x:=x) bc.1
   rw [hx] at hr
   generalize hy:a.eval x=y at hr
   cases hr with
   | yield hi=>
    rename_i r
    refine ⟨r,args.map a.eval,hi,by simpa using dw.zo (λx hx=>R.ev hx) (xs:=args.toList) (by simpa using bc.2),?_⟩
    simp [execOp,ho,resolve,hy,Deferred.ofValue,invoke]
  ·exact hs.elim
end
end
section
section
variable {P : Program} {N : Nat}
def jA (P:Program) (N:Nat) (ops:Array Oper) (oH:List Nat) (f:Nat->Value) (h:ae) (f':Nat->Value) (h':ae):Prop:=
 ∀S B ρ a w,gL P N B ρ f h a w->∀Q:Exit->Act->World->Prop,(∀aN a' w',gL P N B aN f' h' a' w'->Tr ρ h w aN h' w'->Q .normal a' w')->wpOpsIn (FR S) 0 P ops Q oH a w
theorem jA.nil {ops:Array Oper} {f:Nat->Value} {h:ae}:jA P N ops [] f h f h:=λ_ _ ρ a w R _ hq=>hq ρ a w R (Tr.refl R.heap)
theorem gL.vK {B:Nat} {ρ aN:bk} {f:Nat->Value} {h h':ae} {a:Act} {w w':World} (R:gL P N B ρ f h a w) {d:Option Nat} (hd:d.all (·<N)=true) {v v':Value} (T:Tr ρ h w aN h' w') (hv:aK aN v v') (H:bN P aN h' w'):
  gL P N B aN (fW f d v) h' (a.put d v') w':=by
 cases d with
 | none=>exact R.mono T H
 | some d=>exact R.put (by simpa using hd) T hv H
theorem jA.step {ops:Array Oper} {i:Nat} {oH:List Nat} {o:Oper} {f f':Nat->Value} {h gO h':ae} {v:Value} (ho:ops[i]?=some o) (hd:o.dst.all (·<N)=true)
  (hw:∀B ρ a w,gL P N B ρ f h a w->Region.wanted o (yielded ops a.tmps)=true) (hs:Fv P N o f h v gO) (hr:jA P N ops oH (fW f o.dst v) gO f' h'):jA P N ops (i::oH) f h f' h':=by
 intro S B ρ a w R Q hq
 simp only [wpOpsIn,ho]
 rw [if_pos (hw B ρ a w R)]
 refine hs S B ρ a w R _ _ ?_
 intro aN v' w' hv H T
 exact hr S B aN _ w' (R.vK hd T hv H) Q λwe uA mI rP T'=>hq we uA mI rP (T.trans T')
theorem jA.pass {ops:Array Oper} {i:Nat} {oH:List Nat} {o:Oper} {f f':Nat->Value} {h h':ae} (ho:ops[i]?=some o) (hd:o.dst.all (·<N)=true)
  (hw:∀B ρ a w,gL P N B ρ f h a w->Region.wanted o (yielded ops a.tmps)=false) (hr:jA P N ops oH (fW f o.dst undef) h f' h'):jA P N ops (i::oH) f h f' h':=by
 intro S B ρ a w R Q hq
 simp only [wpOpsIn,ho]
 rw [if_neg (by rw [hw B ρ a w R];simp)]
 exact ⟨λ_ _=>trivial,hr S B ρ _ w (R.vK hd (Tr.refl R.heap) (aK.undef _) R.heap) Q hq⟩
def rV (g:Option (Nat×Bool)) (f:Nat->Value):Prop:=
 match g with
 | none=>True
 | some (s,_)=>vC (f s)=false
theorem aB6 {ρ:bk} {v v':Value} (h:aK ρ v v') (hb:vC v=false) (b:Bool):qu v' b=qu v b:=by
 cases h <;> first | rfl | simp [vC] at hb
theorem HT {v:Value} {b:Bool} {A B:Prop} (h:mu v b A B):vC v=false/\((qu v b=true/\A)∨(qu v b=false/\B)):=by
 unfold mu at h
 split at h
 ·rename_i c
  refine ⟨rfl,?_⟩
  split at h
  ·rename_i hc;exact .inl ⟨hc,h⟩
  ·rename_i hc;exact .inr ⟨by simpa [qu] using hc,h⟩
 ·exact h.elim
 ·rename_i x h1 h2
  have e1:vC v=false:=by
   cases v <;> first | rfl | exact absurd rfl (h2 _ _ _)
  have e2:qu v b=false:=by
   cases v <;> first | rfl | exact absurd rfl (h1 _)
  exact ⟨e1,.inr ⟨e2,h⟩⟩
theorem Kn {ops:Array Oper} {o:Oper} {g:Option (Nat×Bool)} (hg:Hn N ops o.guard=some g) {B:Nat} {ρ:bk} {f:Nat->Value} {h:ae} {a:Act} {w:World} (R:gL P N B ρ f h a w) (hb:rV g f):
  Region.wanted o (yielded ops a.tmps)=jJ g f:=by
 unfold Hn at hg
 unfold Region.wanted
 cases lG:o.guard with
 | none=>rw [lG] at hg;simp at hg;subst hg;rfl
 | some jb=>
  obtain ⟨j,b⟩:=jb
  rw [lG] at hg
  simp only at hg⊢
  split at hg
  ·rename_i s hs
   split at hg
   ·rename_i aw
    simp at hg;subst hg
    simp only [jJ]
    have hr:=R.tmp s
    have nG:s<a.tmps.size:=by rw [R.size];exact aw
    have dE:a.tmps[s]?=some (a.tmps.getD s Go.undef):=by simp [Array.getD,nG]
    rw [<-aB6 hr hb b]
    unfold yielded
    rw [hs]
    simp only [bind_some,dE]
    generalize a.tmps.getD s Go.undef=u
    cases u <;> simp [qu]
   ·cases hg
  ·cases hg
def zN (f' f:Nat->Value):Prop:=∀t,f' t=f t∨f' t=Yn
theorem gL.weaken {B:Nat} {ρ:bk} {f f':Nat->Value} {h:ae} {a:Act} {w:World} (R:gL P N B ρ f h a w) (hw:zN f' f):gL P N B ρ f' h a w:=
 ⟨R.size,R.defers,λt=>(hw t).elim (λe=>by rw [e];exact R.tmp t) (λe=>by rw [e];exact .any _),R.heap⟩
theorem Jc (f:Nat->Value):∀ls:List Nat,zN (qy ls (ls.map f)) f
 | [],t=>.inr rfl
 | l::ls,t=>by
  simp only [map_cons,aDl]
  by_cases h:t=l
  ·subst h;simp
  ·rw [if_neg h];exact Jc f ls t
theorem jA.weaken {ops:Array Oper} {oH:List Nat} {f gB f':Nat->Value} {h h':ae} (hw:zN gB f) (hr:jA P N ops oH gB h f' h'):jA P N ops oH f h f' h':=
 λS B ρ a w R=>hr S B ρ a w (R.weaken hw)
theorem jr.weaken {b:Bool} {c:Code} {f gB f':Nat->Value} {h h':ae} {e:Exit} (hw:zN gB f) (hr:jr P N b c gB h e f' h'):jr P N b c f h e f' h':=
 λS hS B ρ a w R=>hr S hS B ρ a w (R.weaken hw)
theorem vR {S:Option Nat} {ops:Array Oper} {Q:Exit->Act->World->Prop}:∀{i j:List Nat} {a:Act} {w:World},wpOpsIn (FR S) 0 P ops (λe a w=>match e with | .normal=>wpOpsIn (FR S) 0 P ops Q j a w | e=>Q e a w) i a w->wpOpsIn (FR S) 0 P ops Q (i++j) a w
 | [],j,a,w,h=>h
 | i::is,j,a,w,h=>by
  simp only [cons_append,wpOpsIn] at h⊢
  cases ho:ops[i]? with
  | none=>rw [ho] at h;exact vR h
  | some o=>
   rw [ho] at h
   simp only at h⊢
   split at h
   ·rename_i hw
    rw [if_pos hw]
    obtain ⟨h0,h⟩:=h
    refine ⟨h0,?_⟩
    generalize (o.semAt (FR S).round a.eval).run P w=r at h⊢
    cases r with
    | ok x w'=>
     cases x <;> simp only [Oper.uponIn] at h⊢
     ·exact vR h
     ·exact vR h
     ·refine ⟨h.1,h.2.mono ?_⟩
      rintro e mI hR
      cases e with
      | returned v=>exact vR hR
      | panicked chain=>exact hR
      | outgrown=>exact hR
     ·refine ⟨h.1,h.2.mono ?_⟩
      rintro e mI hR
      cases e with
      | returned v=>exact vR hR
      | panicked chain=>exact hR
      | outgrown=>exact hR
     ·exact vR h
     ·refine ⟨h.1,h.2.mono ?_⟩
      rintro v mI hR
      exact vR hR
    | halt x w'=>
     cases x <;> simp only [Oper.uponIn] at h⊢
     exact h
   ·rename_i hw
    rw [if_neg hw]
    exact ⟨h.1,vR h.2⟩
theorem jA.append {ops:Array Oper} {i j:List Nat} {f gB f':Nat->Value} {h gO h':ae} (a:jA P N ops i f h gB gO) (b:jA P N ops j gB gO f' h'):jA P N ops (i++j) f h f' h':=by
 intro S B ρ ac w R Q hq
 refine vR (a S B ρ ac w R _ ?_)
 intro aN a' w' R' T
 exact b S B aN a' w' R' Q λwe uA mI rP T'=>hq we uA mI rP (T.trans T')
theorem Ho {ops:Array Oper} {o:Oper} {x:jK} (h:ya P N ops o=some x):
  o.op.operands.all kF=true/\o.dst.all (·<N)=true/\wu P o.op=some x.op/\Hn N ops o.guard=some x.guard/\x.dst=o.dst:=by
 unfold ya at h
 split at h
 ·rename_i hc
  simp only [and_eq_true] at hc
  split at h
  ·rename_i op g h1 h2
   simp at h;subst h
   exact ⟨hc.1,hc.2,h1,h2,rfl⟩
  ·cases h
 ·cases h
theorem Cg {ops:Array Oper} {o:Oper} {os:List Oper} {l:List jK} (h:nR P N ops (o::os)=some l):∃x xs,ya P N ops o=some x/\nR P N ops os=some xs/\l=x::xs:=by
 simp only [nR] at h
 split at h
 ·rename_i x xs h1 h2
  simp at h
  exact ⟨x,xs,h1,h2,h.symm⟩
 ·cases h
theorem Rj {ops:Array Oper}:∀{os:List Oper} {l:List jK} {i:Nat} {K:(Nat->Value)->ae->Prop} {f:Nat->Value} {h:ae},(∀(k:Nat) (o:Oper),os[k]?=some o->ops[i+k]?=some o)->nR P N ops os=some l->sA P l K f h->
  ∃f' h',jA P N ops (range' i os.length) f h f' h'/\K f' h'
 | [],l,i,K,f,h,_,hc,hi=>by
  simp [nR] at hc
  subst hc
  exact ⟨f,h,jA.nil,hi⟩
 | o::os,l,i,K,f,h,AU,hc,hi=>by
  obtain ⟨x,xs,h1,h2,rfl⟩:=Cg hc
  obtain ⟨q1,q2,q3,q4,q5⟩:=Ho h1
  have ho:ops[i]?=some o:=AU 0 o rfl
  have ae1:∀(k:Nat) (o':Oper),os[k]?=some o'->ops[i+1+k]?=some o':=by
   intro k o' hk
   have:=AU (k+1) o' (by simpa using hk)
   rw [show i+(k+1)=i+1+k by omega] at this
   exact this
  have go:∀(_:rV x.guard f) (_:jJ x.guard f=true),eY P x.op f h (λv h'=>sA P xs K (fW f x.dst v) h')->
    ∃f' h',jA P N ops (range' i (o::os).length) f h f' h'/\K f' h':=by
   intro hb hw hs
   obtain ⟨v,h',ju,hk⟩:=Bl (N:=N) q3 q1 hs
   obtain ⟨Ps,aQ,r1,r2⟩:=Rj ae1 h2 hk
   refine ⟨Ps,aQ,?_,r2⟩
   rw [length_cons,List.range'_succ]
   rw [q5] at r1
   exact jA.step ho q2 (λB ρ a w R=>by rw [Kn q4 R hb,hw]) ju r1
  have skip:∀(_:rV x.guard f) (_:jJ x.guard f=false),sA P xs K (fW f x.dst undef) h->
    ∃f' h',jA P N ops (range' i (o::os).length) f h f' h'/\K f' h':=by
   intro hb hw hs
   obtain ⟨Ps,aQ,r1,r2⟩:=Rj ae1 h2 hs
   refine ⟨Ps,aQ,?_,r2⟩
   rw [length_cons,List.range'_succ]
   rw [q5] at r1
   exact jA.pass ho q2 (λB ρ a w R=>by rw [Kn q4 R hb,hw]) r1
  simp only [sA] at hi
  split at hi
  ·rename_i lG
   exact go (by rw [lG];trivial) (by rw [lG];rfl) hi
  ·rename_i s b lG
   obtain ⟨e1,e2⟩:=HT hi
   rcases e2 with ⟨e2,e3⟩ | ⟨e2,e3⟩
   ·exact go (by rw [lG];exact e1) (by rw [lG];exact e2) e3
   ·exact skip (by rw [lG];exact e1) (by rw [lG];exact e2) e3
def uN (g:Option (Nat×Bool)) (l:List oZ):List jK:=l.map λo=>⟨o.dst,o.op,g⟩
def qQ:List (Option (Nat×Bool)×List oZ)->List jK
 | []=>[]
 | (g,l)::gs=>uN g l++qQ gs
theorem Py:∀os:List jK,qQ (uQ os)=os
 | []=>rfl
 | o::os=>by
  have ih:=Py os
  simp only [uQ]
  cases hg:uQ os with
  | nil=>
   rw [hg] at ih
   simp only [qQ] at ih
   subst ih
   simp [qQ,uN]
  | cons a gs=>
   obtain ⟨g,l⟩:=a
   rw [hg] at ih
   simp only
   split
   ·rename_i he
    simp only [qQ,uN,map_cons,cons_append] at ih⊢
    rw [ih,<-he]
   ·simp only [qQ,uN,map_cons,List.map_nil,cons_append,List.nil_append] at ih⊢
    rw [ih]
theorem PO {v:Value} {b:Bool} {A B:Prop} (hb:vC v=false) (hA:qu v b=true->A) (hB:qu v b=false->B):mu v b A B:=by
 unfold mu
 split
 ·split
  ·rename_i c hc;exact hA hc
  ·rename_i c hc;exact hB (by simpa [qu] using hc)
 ·simp [vC] at hb
 ·rename_i x h1 h2
  refine hB ?_
  cases v <;> first | rfl | exact absurd rfl (h1 _)
theorem aDp {g:Option (Nat×Bool)} {K:(Nat->Value)->ae->Prop}:∀{l:List oZ} {f:Nat->Value} {h:ae},(∀o∈l,leaves g o.dst=true)->zx P g l K f h->sA P (uN g l) K f h:=by
 intro l f h hl hk
 cases g with
 | none=>
  simp only [zx] at hk
  clear hl
  induction l generalizing f h with
  | nil=>exact hk
  | cons o l ih=>
   simp only [yk] at hk
   simp only [uN,map_cons,sA]
   have:eY P o.op f h (λv h'=>sA P (uN none l) K (fW f o.dst v) h'):=by
    have mono:∀{io:kB} {K K':Value->ae->Prop},(∀v h,K v h->K' v h)->eY P io f h K->eY P io f h K':=by
     intro io K K' hm hs
     cases io with
     | p po=>simp only [eY,iI] at hs⊢;split at hs <;> first | exact hm _ _ hs | exact hs.elim
     | l lo=>simp only [eY,iI] at hs⊢;split at hs <;> first | exact hm _ _ hs | exact hs.elim
     | e eo=>simp only [eY,pE] at hs⊢;split at hs <;> first | exact hm _ _ hs | exact hs.elim
     | call g args=>exact hs.mono hm
     | ou x args=>simp only [eY,uF] at hs⊢;split at hs <;> first | exact ⟨hs.1,hs.2.mono hm⟩ | exact hs.elim
    exact mono (λv h' fN=>ih fN) hk
   exact this
 | some sb=>
  obtain ⟨s,b⟩:=sb
  simp only [zx] at hk
  obtain ⟨e1,e2⟩:=HT hk
  clear hk
  induction l generalizing f h with
  | nil=>
   rcases e2 with ⟨_,e⟩ | ⟨_,e⟩ <;> exact e
  | cons o l ih=>
   have hd:o.dst≠some s:=by simpa [leaves] using hl o (by simp)
   have hs:∀v,fW f o.dst v s=f s:=by
    intro v
    cases ho:o.dst with
    | none=>rfl
    | some d=>
     have:s≠d:=by rintro rfl;exact hd ho
     simp [fW,uf,this]
   simp only [uN,map_cons,sA]
   refine PO e1 (λhb=>?_) (λhb=>?_)
   ·rcases e2 with ⟨_,e⟩ | ⟨e,_⟩
    ·simp only [yk] at e
     have mono:∀{io:kB} {K K':Value->ae->Prop},(∀v h,K v h->K' v h)->eY P io f h K->eY P io f h K':=by
      intro io K K' hm hs
      cases io with
      | p po=>simp only [eY,iI] at hs⊢;split at hs <;> first | exact hm _ _ hs | exact hs.elim
      | l lo=>simp only [eY,iI] at hs⊢;split at hs <;> first | exact hm _ _ hs | exact hs.elim
      | e eo=>simp only [eY,pE] at hs⊢;split at hs <;> first | exact hm _ _ hs | exact hs.elim
      | call g args=>exact hs.mono hm
      | ou x args=>simp only [eY,uF] at hs⊢;split at hs <;> first | exact ⟨hs.1,hs.2.mono hm⟩ | exact hs.elim
     refine mono (λv h' fN=>?_) e
     exact ih (λo' fU=>hl o' (by simp [fU])) (by rw [hs];exact e1) (.inl ⟨by rw [hs];exact hb,fN⟩)
    ·rw [hb] at e;cases e
   ·rcases e2 with ⟨e,_⟩ | ⟨_,e⟩
    ·rw [hb] at e;cases e
    ·exact ih (λo' fU=>hl o' (by simp [fU])) (by rw [hs];exact e1) (.inr ⟨by rw [hs];exact hb,e⟩)
theorem adh {ops:Array Oper}:∀{os:List Oper} {m0 m1:List jK},nR P N ops os=some (m0++m1)->∃rF jZ,os=rF++jZ/\nR P N ops rF=some m0/\nR P N ops jZ=some m1
 | os,[],m1,h=>⟨[],os,rfl,rfl,h⟩
 | [],x::m0,m1,h=>by simp [nR] at h
 | o::os,x::m0,m1,h=>by
  obtain ⟨y,ys,h1,h2,he⟩:=Cg h
  simp only [cons_append,List.cons.injEq] at he
  obtain ⟨rfl,rfl⟩:=he
  obtain ⟨rF,jZ,rfl,e1,e2⟩:=adh h2
  refine ⟨o::rF,jZ,rfl,?_,e2⟩
  simp [nR,h1,e1]
theorem adp {ls:List Nat} {c:jz} {K:Exit->(Nat->Value)->ae->Prop} {f:Nat->Value} {h:ae} (hi:lZ P (Ci ls c) K f h):∃f',zN f' f/\lZ P c K f' h:=by
 cases ls with
 | nil=>exact ⟨f,λ_=>.inl rfl,hi⟩
 | cons l ls=>exact ⟨_,Jc f (l::ls),hi⟩
theorem aJk {ops:Array Oper}:∀{gs:List (Option (Nat×Bool)×List oZ)} {hs:Hints} {os:List Oper} {i:Nat} {K:Exit->(Nat->Value)->ae->Prop} {f:Nat->Value} {h:ae},
  (∀(k:Nat) (o:Oper),os[k]?=some o->ops[i+k]?=some o)->nR P N ops os=some (qQ gs)->(∀g l,(g,l)∈gs->∀o∈l,leaves g o.dst=true)->lZ P (xb gs hs).1 K f h->
  ∃f' h',jA P N ops (range' i os.length) f h f' h'/\K .normal f' h':=by
 intro gs
 induction gs with
 | nil=>
  intro hs os i K f h AU hc _ hi
  cases os with
  | nil=>exact ⟨f,h,jA.nil,hi⟩
  | cons o os=>
   obtain ⟨x,xs,_,_,he⟩:=Cg hc
   simp [qQ] at he
 | cons a gs ih=>
  obtain ⟨g,l⟩:=a
  intro hs os i K f h AU hc hl hi
  simp only [qQ] at hc
  obtain ⟨rF,jZ,rfl,c0,c1⟩:=adh hc
  have aBi:∀(k:Nat) (o:Oper),rF[k]?=some o->ops[i+k]?=some o:=by
   intro k o hk
   refine AU k o ?_
   rw [getElem?_append_left (cm hk).1]
   exact hk
  have aBj:∀(k:Nat) (o:Oper),jZ[k]?=some o->ops[i+rF.length+k]?=some o:=by
   intro k o hk
   rw [Nat.add_assoc]
   refine AU _ o ?_
   rw [List.getElem?_append_right (by omega)]
   simpa using hk
  have first:∀{K:(Nat->Value)->ae->Prop},zx P g l K f h->∃f' h',jA P N ops (range' i rF.length) f h f' h'/\K f' h':=by
   intro K hk
   exact Rj aBi c0 (aDp (λo ho=>hl g l (by simp) o ho) hk)
  have both:∀{gB:Nat->Value} {gO:ae} {f':Nat->Value} {h':ae},jA P N ops (range' i rF.length) f h gB gO->jA P N ops (range' (i+rF.length) jZ.length) gB gO f' h'->jA P N ops (range' i (rF++jZ).length) f h f' h':=by
   intro gB gO f' h' a b
   rw [List.length_append,<-List.range'_append_1]
   exact a.append b
  have rest:∀{hs:Hints} {gB:Nat->Value} {gO:ae},lZ P (xb gs hs).1 K gB gO->∃f' h',jA P N ops (range' (i+rF.length) jZ.length) gB gO f' h'/\K .normal f' h':=
   λhk=>ih aBj c1 (λg' l' hm=>hl g' l' (by simp [hm])) hk
  cases gs with
  | nil=>
   have Qr:lZ P (.ops g l) K f h:=by
    cases hs <;> exact hi
   obtain ⟨f',h',r1,r2⟩:=first Qr
   have h1:jZ=[]:=by
    cases jZ with
    | nil=>rfl
    | cons o os=>obtain ⟨x,xs,_,_,he⟩:=Cg c1;simp [qQ] at he
   subst h1
   exact ⟨f',h',by simpa using r1,r2⟩
  | cons b gs=>
   cases hs with
   | nil=>
    obtain ⟨gB,gO,r1,r2⟩:=first (K:=λf h=>lZ P (xb (b::gs) []).1 K f h) hi
    obtain ⟨f',h',s1,s2⟩:=rest r2
    exact ⟨f',h',both r1 s1,s2⟩
   | cons h0 hs=>
    obtain ⟨gB,gO,r1,r2⟩:=first (K:=λf h=>lZ P (Ci h0 (xb (b::gs) hs).1) K f h) hi
    obtain ⟨aAq,hw,r3⟩:=adp r2
    obtain ⟨f',h',s1,s2⟩:=rest r3
    exact ⟨f',h',both r1 (s1.weaken hw),s2⟩
def sE (S:Option Nat) (P:Program) (c:Code) (Q:Exit->Act->World->Prop) (a:Act) (w:World):Prop:=
 ∀(b:Frame) (k:List Item) (cs:List Frame),b.roundOf=S->
  ∃e a' w',Q e a' w'/\ArrivesIn (Machine.fenced P (FR S)) P (lone (b.atR a (.code c:: .inLoop c::k)) cs w) b k cs e a' w'
theorem FR.room (S:Option Nat) (n:Nat):(FR S).room n:=λ_ h=>by cases h
theorem sE.wp {S:Option Nat} {c:Code} {Q:Exit->Act->World->Prop} {a:Act} {w:World} (h:sE S P c Q a w):(Code.loop c).wpIn (FR S) 0 P Q a w:=by
 intro b k cs lU hb hr
 obtain ⟨e,a',w',q,r⟩:=h b k cs lU
 exact ⟨e,a',w',q,.of_steps (.one (fenced_calm hb hr rfl) stepR_loop) r⟩
theorem sE.round {S:Option Nat} {c:Code} {Q:Exit->Act->World->Prop} {a:Act} {w:World} (h:c.wpIn (FR S) 0 P (Exit.then (sE S P c Q) Q) a w):sE S P c Q a w:=by
 intro b k cs lU
 have hb:(FR S).fn b.fn:=trivial
 have hr:(FR S).room (cs.length+1+0):=FR.room S _
 obtain ⟨e,BY,sN,hq,wE⟩:=h b (.inLoop c::k) cs lU hb hr
 cases e with
 | normal=>
  obtain ⟨aAd,aup,Ko,aBq,aAJ⟩:=hq b k cs lU
  exact ⟨aAd,aup,Ko,aBq,.of_steps (StepsIn.trans wE (.one (fenced_calm hb hr rfl) stepR_inLoop)) aAJ⟩
 | exit id=>exact ⟨_,BY,sN,hq,.pass (x:=.inLoop c) rfl (λ_ _=>.inl (by simp)) wE⟩
 | goto l=>exact ⟨_,BY,sN,hq,.pass (x:=.inLoop c) rfl (λ_ _=>.inl (by simp)) wE⟩
 | ret=>exact ⟨_,BY,sN,hq,.pass (x:=.inLoop c) rfl (λ_ _=>.inl (by simp)) wE⟩
 | panic ch=>exact ⟨_,BY,sN,hq,.pass (x:=.inLoop c) rfl (λ_ _=>.inl (by simp)) wE⟩
 | outgrown=>exact ⟨_,BY,sN,hq,.pass (x:=.inLoop c) rfl (λ_ _=>.inl (by simp)) wE⟩
theorem aCO {l:List jK} (h:l.all (λo=>leaves o.guard o.dst)=true):∀g m,(g,m)∈uQ l->∀o∈m,leaves g o.dst=true:=by
 intro g m hm o ho
 have kl:(⟨o.dst,o.op,g⟩:jK)∈qQ (uQ l):=by
  generalize uQ l=gs at hm
  induction gs with
  | nil=>simp at hm
  | cons a gs ih=>
   obtain ⟨g',m'⟩:=a
   simp only [qQ,List.mem_append]
   rcases mem_cons.1 hm with he | hm
   ·cases he
    left
    simp only [uN,List.mem_map]
    exact ⟨o,ho,rfl⟩
   ·exact .inr (ih hm)
 rw [Py] at kl
 rw [all_eq_true] at h
 exact h _ kl
def p6 (P:Program) (N:Nat) (out:Bool) (c:Code) (f:Nat->Value) (h:ae) (e:Exit) (f':Nat->Value) (h':ae):Prop:=
 ∀S,(out=true->S=none)->∀B ρ a w,gL P N B ρ f h a w->sE S P c (xN P N B ρ h w e f' h') a w
theorem sE.mono {S:Option Nat} {c:Code} {Q Q':Exit->Act->World->Prop} {a:Act} {w:World} (h:sE S P c Q a w) (hq:∀e a w,Q e a w->Q' e a w):sE S P c Q' a w:=
 λb k cs lU=>let ⟨e,a',w',q,r⟩:=h b k cs lU;⟨e,a',w',hq _ _ _ q,r⟩
theorem xN.trans {B:Nat} {ρ Aa:bk} {h gO h':ae} {w sN:World} {e:Exit} {f':Nat->Value} (T:Tr ρ h w Aa gO sN):∀e' a' w',xN P N B Aa gO sN e f' h' e' a' w'->xN P N B ρ h w e f' h' e' a' w':=by
 rintro e' a' w' ⟨rfl,aN,R,T'⟩
 exact ⟨rfl,aN,R,T.trans T'⟩
variable {out : Bool}
theorem p6.next {c:Code} {f gB f':Nat->Value} {h gO h':ae} {e:Exit} (a:jr P N out c f h .normal gB gO) (b:p6 P N out c gB gO e f' h'):p6 P N out c f h e f' h':=by
 intro S hS B ρ ac w R
 refine sE.round (wpIn_mono (a S hS B ρ ac w R) ?_)
 rintro e' a' w' ⟨rfl,aN,R',T⟩
 exact (b S hS B aN a' w' R').mono (xN.trans T)
theorem p6.leave {c:Code} {f f':Nat->Value} {h h':ae} {e:Exit} (he:e≠ .normal) (a:jr P N out c f h e f' h'):p6 P N out c f h e f' h':=by
 intro S hS B ρ ac w R
 refine sE.round (wpIn_mono (a S hS B ρ ac w R) ?_)
 rintro e' a' w' ⟨rfl,aN,R',T⟩
 cases e' <;> first | exact absurd rfl he | exact ⟨rfl,aN,R',T⟩
theorem p6.run {c:Code} {f f':Nat->Value} {h h':ae} {e:Exit} (a:p6 P N out c f h e f' h'):jr P N out (.loop c) f h e f' h':=λS hS B ρ ac w R=>(a S hS B ρ ac w R).wp
theorem jr.seq {x y:Code} {f gB f':Nat->Value} {h gO h':ae} {e:Exit} (a:jr P N out x f h .normal gB gO) (b:jr P N out y gB gO e f' h'):jr P N out (.seq x y) f h e f' h':=by
 intro S hS B ρ ac w R
 refine wpIn_seq (wpIn_mono (a S hS B ρ ac w R) ?_)
 rintro e' a' w' ⟨rfl,aN,R',T⟩
 exact wpIn_mono (b S hS B aN a' w' R') (xN.trans T)
theorem jr.aKe {x y:Code} {f f':Nat->Value} {h h':ae} {e:Exit} (he:e≠ .normal) (a:jr P N out x f h e f' h'):jr P N out (.seq x y) f h e f' h':=by
 intro S hS B ρ ac w R
 refine wpIn_seq (wpIn_mono (a S hS B ρ ac w R) ?_)
 rintro e' a' w' ⟨rfl,aN,R',T⟩
 cases e' <;> first | exact absurd rfl he | exact ⟨rfl,aN,R',T⟩
theorem jr.block {id:Nat} {c:Code} {f f':Nat->Value} {h h':ae} {e:Exit} (a:jr P N out c f h e f' h'):jr P N out (.block id c) f h (match e with | .exit i=>if i=id then .normal else .exit i | e=>e) f' h':=by
 intro S hS B ρ ac w R
 refine wpIn_block (wpIn_mono (a S hS B ρ ac w R) ?_)
 rintro e' a' w' ⟨rfl,aN,R',T⟩
 cases e' with
 | exit i=>
  simp only [Exit.inBlock]
  split
  ·exact ⟨rfl,aN,R',T⟩
  ·exact ⟨rfl,aN,R',T⟩
 | _=>exact ⟨rfl,aN,R',T⟩
theorem jr.cond {c:Operand} {x y:Code} {t:Bool} {f f':Nat->Value} {h h':ae} {e:Exit} (hc:kF c=true) (ht:ev f c=.bool t) (a:jr P N out (if t then x else y) f h e f' h'):jr P N out (.cond c x y) f h e f' h':=by
 intro S hS B ρ ac w R
 have:=R.ev hc
 rw [ht] at this
 exact wpIn_cond this.Aq (a S hS B ρ ac w R)
theorem jr.region {id:Nat} {ops:Array Oper} {f f':Nat->Value} {h h':ae} (a:jA P N ops (List.range ops.size) f h f' h'):jr P N out (.region id ops false) f h .normal f' h':=by
 intro S hS B ρ ac w R
 refine wpIn_region (a S B ρ ac w R _ ?_)
 intro aN a' w' R' T
 exact ⟨rfl,aN,R',T⟩
theorem p6.weaken {c:Code} {f gB f':Nat->Value} {h h':ae} {e:Exit} (hw:zN gB f) (hr:p6 P N out c gB h e f' h'):p6 P N out c f h e f' h':=
 λS hS B ρ a w R=>hr S hS B ρ a w (R.weaken hw)
end
end
section
inductive xP (ops:Array Oper):List Nat->List Nat->Prop
 | nil {S:List Nat}:(∀i,i<ops.size->i∈S)->xP ops S []
 | cons {S:List Nat} {i:Nat} {o:Oper} {l:List Nat}:ops[i]?=some o->i∉S->(∀e∈gq o,e∈S)->xP ops (i::S) l->xP ops S (i::l)
theorem FD:∀{ops:List Oper} {i:Nat},xS ops i=true->∀(k:Nat) (o:Oper),ops[k]?=some o->∀e∈gq o,e<i+k
 | [],i,_,k,o,hk=>by simp at hk
 | x::ops,i,h,k,o,hk=>by
  simp only [xS,and_eq_true,all_eq_true,decide_eq_true_eq] at h
  cases k with
  | zero=>simp at hk;subst hk;exact h.1
  | succ k=>
   intro e he
   have:=FD h.2 k o (by simpa using hk) e he
   omega
def ready (ops:Array Oper) (jw:Array Bool) (i:Nat):Bool:=
 !jw.getD i true&&((ops[i]?).map (·.after.all λe=> !Region.binds .any e||jw.getD e.on false)).getD false
theorem aAy (ops:Array Oper) (fuel t:Nat) (jw:Array Bool) (acc:List Nat):
  Region.linearise.go .any ops (fuel+1) t jw acc=
   match ((List.range ops.size).filter (ready ops jw))[t%((List.range ops.size).filter (ready ops jw)).length]? with
   | some i=>Region.linearise.go .any ops fuel (t / ((List.range ops.size).filter (ready ops jw)).length) (jw.setIfInBounds i true) (i::acc)
   | none=>acc.reverse:=by
 rw [Region.linearise.go]
 rfl
theorem ank {ops:Array Oper} {jw:Array Bool} {S:List Nat} (hl:jw.size=ops.size) (hS:∀i,i<ops.size->(jw.getD i false=true↔i∈S)) (hb:∀(k:Nat) (o:Oper),ops[k]?=some o->∀e∈gq o,e<k)
  {i:Nat} (hi:i<ops.size):ready ops jw i=true↔i∉S/\∀o,ops[i]?=some o->∀e∈gq o,e∈S:=by
 have ho:ops[i]?=some ops[i]:=by simp [hi]
 have e1:jw.getD i true=jw.getD i false:=by simp [Array.getD,hl,hi]
 unfold ready
 rw [e1,ho]
 simp only [map_some,getD_some,and_eq_true,Bool.not_eq_true',Option.some.injEq,forall_eq']
 have h1:jw.getD i false=false↔i∉S:=by
  rw [<-hS i hi]
  cases jw.getD i false <;> simp
 rw [h1]
 refine and_congr_right λ_=>?_
 rw [Array.all_eq_true']
 constructor
 ·intro h e he
  have aw:=hb i _ ho e he
  unfold gq at he
  simp only [List.mem_filterMap] at he
  obtain ⟨x,hx,wT⟩:=he
  split at wT
  ·rename_i wF
   simp at wT
   subst wT
   have:=h x (by simpa using hx)
   simp only [or_eq_true,Bool.not_eq_true',wF] at this
   exact (hS _ (by omega)).1 (by simpa using this)
  ·cases wT
 ·intro h x hx
  cases wF:Region.binds .any x with
  | false=>simp
  | true=>
   have hm:x.on∈gq ops[i]:=by
    unfold gq
    simp only [List.mem_filterMap]
    exact ⟨x,by simpa using hx,by simp [wF]⟩
   have aw:=hb i _ ho _ hm
   simp [(hS x.on (by omega)).2 (h _ hm)]
theorem I5:∀{l m:List Nat},l.Nodup->l ⊆ m->l.length<=m.length
 | [],m,_,_=>by simp
 | x::l,m,hd,hs=>by
  have hx:x∈m:=hs (by simp)
  rw [nodup_cons] at hd
  have h1:l ⊆ m.erase x:=by
   intro y hy
   have bY:y≠x:=by rintro rfl;exact hd.1 hy
   exact (List.mem_erase_of_ne bY).2 (hs (by simp [hy]))
  have h2:=I5 hd.2 h1
  rw [List.length_erase_of_mem hx] at h2
  have:0<m.length:=List.length_pos_of_mem hx
  simp
  omega
theorem azi {n:Nat} {S:List Nat} (hlen:S.length<n):∃i,i<n/\i∉S/\∀k,k<i->k∈S:=by
 have hex:∃i,i<n/\i∉S:=by
  apply byContradiction
  intro jR
  have gR:∀i,i<n->i∈S:=λi hi=>byContradiction λh=>jR ⟨i,hi,h⟩
  have C2:List.range n ⊆ S:=λi hi=>gR i (mem_range.1 hi)
  have:=I5 (List.nodup_range (n:=n)) C2
  simp at this
  omega
 have key:∀m,(∃i,i<m/\i<n/\i∉S)->∃i,i<n/\i∉S/\∀k,k<i->k∈S:=by
  intro m
  induction m with
  | zero=>rintro ⟨i,h,_⟩;omega
  | succ m ih=>
   rintro ⟨i,h1,h2,h3⟩
   by_cases fO:∃i,i<m/\i<n/\i∉S
   ·exact ih fO
   ·have AR:i=m:=by
     by_cases e:i=m
     ·exact e
     ·exact absurd ⟨i,by omega,h2,h3⟩ fO
    subst AR
    refine ⟨i,h2,h3,λk hk=>byContradiction λCL=>fO ⟨k,hk,by omega,CL⟩⟩
 obtain ⟨i,h1,h2⟩:=hex
 exact key n ⟨i,h1,h1,h2⟩
theorem adY {ops:Array Oper} (hb:∀(k:Nat) (o:Oper),ops[k]?=some o->∀e∈gq o,e<k):∀(fuel t:Nat) (jw:Array Bool) (acc:List Nat),jw.size=ops.size->
  (∀i,i<ops.size->(jw.getD i false=true↔i∈acc))->acc.Nodup->(∀i∈acc,i<ops.size)->acc.length+fuel=ops.size->
  ∃l,Region.linearise.go .any ops fuel t jw acc=acc.reverse++l/\xP ops acc l
 | 0,t,jw,acc,hl,hS,hd,aw,hf=>by
  refine ⟨[],by simp [Region.linearise.go],.nil ?_⟩
  intro i hi
  apply byContradiction
  intro h
  have C2:(i::acc) ⊆ List.range ops.size:=by
   intro x hx
   rcases mem_cons.1 hx with rfl | hx
   ·simpa using hi
   ·simpa using aw x hx
  have:=I5 (nodup_cons.2 ⟨h,hd⟩) C2
  simp at this
  omega
 | fuel+1,t,jw,acc,hl,hS,hd,aw,hf=>by
  rw [aAy]
  obtain ⟨i0,wL,aA2,aA1⟩:=azi (n:=ops.size) (S:=acc) (by omega)
  have sk:ready ops jw i0=true:=(ank hl hS hb wL).2 ⟨aA2,λo ho e he=>aA1 e (hb i0 o ho e he)⟩
  have iO:0<((List.range ops.size).filter (ready ops jw)).length:=List.length_pos_of_mem (List.mem_filter.2 ⟨mem_range.2 wL,sk⟩)
  have dE:∃i,((List.range ops.size).filter (ready ops jw))[t%((List.range ops.size).filter (ready ops jw)).length]?=some i:=⟨_,getElem?_eq_getElem (Nat.mod_lt _ iO)⟩
  obtain ⟨i,hi⟩:=dE
  rw [hi]
  have kl:=List.mem_of_getElem? hi
  simp only [List.mem_filter,mem_range] at kl
  obtain ⟨fG,aBs⟩:=kl
  obtain ⟨u7,yB⟩:=(ank hl hS hb fG).1 aBs
  obtain ⟨l,h1,h2⟩:=adY hb fuel (t / ((List.range ops.size).filter (ready ops jw)).length) (jw.setIfInBounds i true) (i::acc) (by simpa using hl) (by
   intro k hk
   by_cases e:k=i
   ·subst e;simp [Array.getD,hl,hk]
   ·have:(jw.setIfInBounds i true).getD k false=jw.getD k false:=by
     simp only [Array.getD_eq_getD_getElem?,Array.getElem?_setIfInBounds]
     rw [if_neg (Ne.symm e)]
    rw [this,hS k hk]
    simp [e]) (nodup_cons.2 ⟨u7,hd⟩) (by
   intro k hk
   rcases mem_cons.1 hk with rfl | hk
   ·exact fG
   ·exact aw k hk) (by simp;omega)
  refine ⟨i::l,by simp only [h1];simp,?_⟩
  exact .cons (o:=ops[i]) (by simp [fG]) u7 (yB _ (by simp [fG])) h2
theorem af6 {ops:Array Oper} (hb:xS ops.toList 0=true) (t:Nat):xP ops [] (Region.linearise .any ops t):=by
 have qT:∀(k:Nat) (o:Oper),ops[k]?=some o->∀e∈gq o,e<k:=by
  intro k o hk e he
  have:=FD hb k o (by simpa using hk) e he
  omega
 obtain ⟨l,h1,h2⟩:=adY qT ops.size t (replicate ops.size false) [] (by simp) (by intro i hi;simp [Array.getD,hi]) .nil (by simp) (by simp)
 have:Region.linearise .any ops t=l:=by
  unfold Region.linearise
  rw [h1]
  simp
 rw [this]
 exact h2
end
section
theorem Pq {f f':Nat->Value}:∀{l:List Operand},(∀t∈tmpsOf l,f t=f' t)->∀x∈l,ev f x=ev f' x
 | [],_,x,hx=>by simp at hx
 | y::l,h,x,hx=>by
  have h':∀t∈tmpsOf l,f t=f' t:=by
   intro t ht
   apply h
   cases y <;> simp [tmpsOf,ht]
  rcases mem_cons.1 hx with rfl | hx
  ·cases x with
   | tmp t=>exact h t (by simp [tmpsOf])
   | _=>rfl
  ·exact Pq h' x hx
theorem Dq {g g':Operand->Value} {xs:List Operand} (h:∀x∈xs,g x=g' x):xs.map g=xs.map g':=List.map_congr_left h
theorem Je {g g':Operand->Value} {x:Option Operand} (h:∀y∈x.toList,g y=g' y):x.map g=x.map g':=by
 cases x with
 | none=>rfl
 | some y=>simp [h y (by simp)]
theorem JF {g g':Operand->Value} {ps:List (Nat×Nat×Operand)} (h:∀x∈ps.map (·.2.2),g x=g' x):(ps.map λ(o,s,x)=>(o,s,g x))=ps.map λ(o,s,x)=>(o,s,g' x):=by
 apply List.map_congr_left
 rintro ⟨o,s,x⟩ hx
 simp [h x (by simp;exact ⟨o,s,hx⟩)]
theorem aB5 {o:p7} {g g':Operand->Value} (h:∀x∈o.jk,g x=g' x):kn o g=kn o g':=by
 cases o with
 | Dr mx xs=>
  simp only [kn]
  rw [Dq (xs:=xs) h]
 | J1 x lo hi=>
  simp only [kn,p7.jk] at*
  rw [h x (by simp),Je (x:=lo) (λy hy=>h y (by simp at hy⊢;exact .inr (.inl hy))),Je (x:=hi) (λy hy=>h y (by simp at hy⊢;exact .inr (.inr hy)))]
 | J2 e s x lo hi=>
  simp only [kn,p7.jk] at*
  rw [h x (by simp),Je (x:=lo) (λy hy=>h y (by simp at hy⊢;exact .inr (.inl hy))),Je (x:=hi) (λy hy=>h y (by simp at hy⊢;exact .inr (.inr hy)))]
 | fn f first captured=>
  simp only [kn,p7.jk] at*
  rw [Dq (xs:=first) (λx hx=>h x (by simp [hx])),Dq (xs:=captured) (λx hx=>h x (by simp [hx]))]
 | build zero parts=>
  simp only [kn]
  rw [JF (ps:=parts) h]
 | _=>simp [p7.jk] at h;simp [kn,h]
theorem aBY {o:qM} {g g':Operand->Value} (h:∀x∈o.jk,g x=g' x) (H:ae):ie o g H=ie o g' H:=by
 cases o <;> simp [qM.jk] at h <;> simp [ie,h]
theorem aBV {o:pM} {g g':Operand->Value} (h:∀x∈o.jk,g x=g' x) (H:ae):iR o g H=iR o g' H:=by
 cases o with
 | oa e n zs ps=>
  simp only [iR]
  rw [JF (ps:=ps) h]
 | fl a=>
  cases a with
  | oa e n zs ps=>
   simp only [iR]
   rw [JF (ps:=ps) h]
  | _=>simp [pM.jk,nj.jk] at h;simp [iR,h]
 | _=>simp [pM.jk] at h;simp [iR,h]
theorem J6 {P:Program} {io:kB} {f f':Nat->Value} {h:ae} {K:Value->ae->Prop} (hf:∀t∈tmpsOf io.jk,f t=f' t):eY P io f h K↔eY P io f' h K:=by
 have he:=Pq hf
 cases io with
 | p o=>simp only [eY];rw [aB5 he]
 | l o=>simp only [eY];rw [aBY he]
 | e o=>simp only [eY];rw [aBV he]
 | call g args=>
  simp only [eY]
  rw [Dq (xs:=args) he]
 | ou x args=>simp only [eY];rw [he x (by simp [kB.jk]),Dq (xs:=args) (λy hy=>he y (by simp [kB.jk,hy]))]
structure Trace (P:Program) (l:List dQ) (j0:Nat) (F:Nat->Nat->Value) (H:Nat->ae) (V:Nat->Value):Prop where
 zM:∀k o,l[k]?=some o->F (j0+k+1)=fW (F (j0+k)) o.op.dst (V (j0+k))
 PL:∀k o,l[k]?=some o->rV o.op.guard (F (j0+k))
 yes:∀k o,l[k]?=some o->jJ o.op.guard (F (j0+k))=true->eY P o.op.op (F (j0+k)) (H (j0+k)) λv h'=>v=V (j0+k)/\h'=H (j0+k+1)
 no:∀k o,l[k]?=some o->jJ o.op.guard (F (j0+k))=false->V (j0+k)=undef/\H (j0+k+1)=H (j0+k)
 Um:∀e oe k ok lo,l[e]?=some oe->oe.op.op.eQ=true->l[k]?=some ok->ok.op.op=.l lo->jJ ok.op.guard (F (j0+k))=true->e<k->ok.pre.testBit (j0+e)=false->
  ie lo (ev (F (j0+k))) (H (j0+e))=some (V (j0+k))
 PE:∀k ok lo e oe,l[k]?=some ok->ok.op.op=.l lo->jJ ok.op.guard (F (j0+k))=true->l[e]?=some oe->oe.op.op.eQ=true->k<e->oe.pre.testBit (j0+k)=false->
  ie lo (ev (F (j0+k))) (H (j0+e+1))=some (V (j0+k))
 flo:∀k ok a,l[k]?=some ok->ok.op.op=.e (.fl a)->jJ ok.op.guard (F (j0+k))=true->∃u,eA (H (j0+k+1)) (V (j0+k))=some u/\
  ∀e oe,l[e]?=some oe->oe.op.op.eQ=true->k<e->oe.pre.testBit (j0+k)=false->eA (H (j0+e+1)) (V (j0+k))=some u
theorem O0 {pre:Nat} {lo:qM} {f:Nat->Value} {v:Value}:∀{hs:List (Nat×ae)},Aw pre lo f v hs->∀e H,(e,H)∈hs->pre.testBit e=false->ie lo (ev f) H=some v
 | [],_,e,H,hm,_=>by simp at hm
 | (e',H')::r,h,e,H,hm,hp=>by
  simp only [Aw] at h
  rcases mem_cons.1 hm with hq | hm
  ·cases hq
   rw [if_neg (by rw [hp];simp)] at h
   exact h.1
  ·split at h
   ·exact O0 h e H hm hp
   ·exact O0 h.2 e H hm hp
theorem Ce {pre:Nat} {H:ae}:∀{ls:iB},pe pre H ls->∀j lo f v,(j,lo,f,v)∈ls->pre.testBit j=false->ie lo (ev f) H=some v
 | [],_,j,lo,f,v,hm,_=>by simp at hm
 | (j',pC,f',v')::r,h,j,lo,f,v,hm,hp=>by
  simp only [pe] at h
  rcases mem_cons.1 hm with hq | hm
  ·cases hq
   rw [if_neg (by rw [hp];simp)] at h
   exact h.1
  ·split at h
   ·exact Ce h j lo f v hm hp
   ·exact Ce h.2 j lo f v hm hp
def BS (P:Program) (l:List dQ) (j:Nat) (bJ:List (Nat×ae)) (bD:iB) (K:(Nat->Value)->ae->Prop) (f:Nat->Value) (h:ae):Prop:=
 ∃F H V,F j=f/\H j=h/\K (F (j+l.length)) (H (j+l.length))/\Trace P l j F H V/\
  (∀e Hh,(e,Hh)∈bJ->∀k ok lo,l[k]?=some ok->ok.op.op=.l lo->jJ ok.op.guard (F (j+k))=true->ok.pre.testBit e=false->ie lo (ev (F (j+k))) Hh=some (V (j+k)))/\
  (∀i lo ff v,(i,lo,ff,v)∈bD->∀e oe,l[e]?=some oe->oe.op.op.eQ=true->oe.pre.testBit i=false->ie lo (ev ff) (H (j+e+1))=some v)
theorem Q4 {P:Program}:∀{l:List dQ} {j:Nat} {bJ:List (Nat×ae)} {bD:iB} {K:(Nat->Value)->ae->Prop} {f:Nat->Value} {h:ae},lW P l j bJ bD K f h->BS P l j bJ bD K f h
 | [],j,bJ,bD,K,f,h,hi=>
  ⟨λ_=>f,λ_=>h,λ_=>undef,rfl,rfl,hi,⟨λk o hk=>by simp at hk,λk o hk=>by simp at hk,λk o hk=>by simp at hk,λk o hk=>by simp at hk,λe oe k ok lo hk=>by simp at hk,λk ok lo e oe hk=>by simp at hk,λk ok a hk=>by simp at hk⟩,
   λe Hh hm k ok lo hk=>by simp at hk,λi lo ff v hm e oe hk=>by simp at hk⟩
 | o::os,j,bJ,bD,K,f,h,hi=>by
  -- j6 rest,and how j6 first step is laid ahead of it
  have key:∀(v:Value) (h':ae) (H9:List (Nat×ae)) (Dn:iB),rV o.op.guard f->lW P os (j+1) H9 Dn K (fW f o.op.dst v) h'->
    (∀p∈bJ,p∈H9)->(∀p∈bD,p∈Dn)->(o.op.op.eQ=true->(j,h)∈H9)->(∀lo,o.op.op=.l lo->jJ o.op.guard f=true->(j,lo,f,v)∈Dn)->
    (jJ o.op.guard f=true->eY P o.op.op f h λu g=>u=v/\g=h')->(jJ o.op.guard f=false->v=undef/\h'=h)->
    (∀lo,o.op.op=.l lo->jJ o.op.guard f=true->∀e Hh,(e,Hh)∈bJ->o.pre.testBit e=false->ie lo (ev f) Hh=some v)->
    (o.op.op.eQ=true->∀i lo ff u,(i,lo,ff,u)∈bD->o.pre.testBit i=false->ie lo (ev ff) h'=some u)->
    (∀a,o.op.op=.e (.fl a)->jJ o.op.guard f=true->∃u,eA h' v=some u/\(j,.obj (.const v),f,u)∈Dn)->
    BS P (o::os) j bJ bD K f h:=by
   intro v h' H9 Dn lF aBu hh hl hE hL hy hn hp hf kD
   obtain ⟨F,H,V,f1,f2,f3,T,fp,ff⟩:=Q4 aBu
   have RU:∀{α:Type} (x:α) (G:Nat->α),∃G2:Nat->α,G2 j=x/\(∀k,G2 (j+k+1)=G (j+1+k))/\∀k,G2 (j+(k+1))=G (j+1+k):=by
    intro α x G
    refine ⟨λk=>if k=j then x else G k,by simp,λk=>?_,λk=>?_⟩
    ·show (if j+k+1=j then x else G (j+k+1))=_
     rw [if_neg (by omega)]
     congr 1
     omega
    ·show (if j+(k+1)=j then x else G (j+(k+1)))=_
     rw [if_neg (by omega)]
     congr 1
     omega
   obtain ⟨F2,uK,eF1,eF⟩:=RU f F
   obtain ⟨H2,HC,wy,eH⟩:=RU h H
   obtain ⟨V2,yd,eV1,eV⟩:=RU v V
   have az1:F2 (j+1)=F (j+1):=eF1 0
   have HD:H2 (j+1)=H (j+1):=wy 0
   refine ⟨F2,H2,V2,uK,HC,?_,?_,?_,?_⟩
   ·rw [length_cons,eF,eH]
    exact f3
   ·constructor
    ·intro k ok hk
     cases k with
     | zero=>
      simp at hk;subst hk
      simp only [add_zero]
      rw [az1,uK,yd]
      exact f1
     | succ k=>
      have:=T.zM k ok (by simpa using hk)
      rw [eF1,eF,eV,show j+1+(k+1)=j+1+k+1 by omega]
      exact this
    ·intro k ok hk
     cases k with
     | zero=>
      simp at hk;subst hk
      simp only [add_zero]
      rw [uK]
      exact lF
     | succ k=>
      rw [eF]
      exact T.PL k ok (by simpa using hk)
    ·intro k ok hk hw
     cases k with
     | zero=>
      simp at hk;subst hk
      simp only [add_zero] at hw⊢
      rw [uK] at hw
      rw [HD,uK,HC,yd,f2]
      exact hy hw
     | succ k=>
      rw [eF] at hw
      rw [wy,eF,eH,eV,show j+1+(k+1)=j+1+k+1 by omega]
      exact T.yes k ok (by simpa using hk) hw
    ·intro k ok hk hw
     cases k with
     | zero=>
      simp at hk;subst hk
      simp only [add_zero] at hw⊢
      rw [uK] at hw
      rw [HD,HC,yd,f2]
      exact hn hw
     | succ k=>
      rw [eF] at hw
      rw [wy,eH,eV,show j+1+(k+1)=j+1+k+1 by omega]
      exact T.no k ok (by simpa using hk) hw
    ·intro e oe k ok lo he gZ hk fO hw aw jh
     cases k with
     | zero=>omega
     | succ k=>
      rw [eF] at hw⊢
      rw [eV]
      cases e with
      | zero=>
       simp at he;subst he
       simp only [add_zero] at jh⊢
       rw [HC]
       exact fp j h (hE gZ) k ok lo (by simpa using hk) fO hw jh
      | succ e=>
       rw [eH]
       rw [show j+(e+1)=j+1+e by omega] at jh
       exact T.Um e oe k ok lo (by simpa using he) gZ (by simpa using hk) fO hw (by omega) jh
    ·intro k ok lo e oe hk fO hw he gZ aw jh
     cases e with
     | zero=>omega
     | succ e=>
      rw [wy,show j+1+(e+1)=j+1+e+1 by omega]
      cases k with
      | zero=>
       simp at hk;subst hk
       simp only [add_zero] at hw jh⊢
       rw [uK] at hw⊢
       rw [yd]
       exact ff j lo f v (hL lo fO hw) e oe (by simpa using he) gZ jh
      | succ k=>
       rw [eF] at hw⊢
       rw [eV]
       rw [show j+(k+1)=j+1+k by omega] at jh
       exact T.PE k ok lo e oe (by simpa using hk) fO hw (by simpa using he) gZ (by omega) jh
    ·intro k ok a hk eO hw
     cases k with
     | zero=>
      simp at hk;subst hk
      simp only [add_zero] at hw⊢
      rw [uK] at hw
      obtain ⟨u,u1,u2⟩:=kD a eO hw
      refine ⟨u,by rw [HD,yd,f2];exact u1,?_⟩
      intro e oe he gZ aw jh
      cases e with
      | zero=>omega
      | succ e=>
       rw [wy,show j+1+(e+1)=j+1+e+1 by omega,yd]
       exact ff j (.obj (.const v)) f u u2 e oe (by simpa using he) gZ jh
     | succ k=>
      rw [eF] at hw
      obtain ⟨u,u1,u2⟩:=T.flo k ok a (by simpa using hk) eO hw
      refine ⟨u,by rw [wy,eV,show j+1+(k+1)=j+1+k+1 by omega];exact u1,?_⟩
      intro e oe he gZ aw jh
      cases e with
      | zero=>omega
      | succ e=>
       rw [wy,show j+1+(e+1)=j+1+e+1 by omega,eV]
       rw [show j+(k+1)=j+1+k by omega] at jh
       exact u2 e oe (by simpa using he) gZ (by omega) jh
   ·intro e Hh hm k ok lo hk fO hw jh
    cases k with
    | zero=>
     simp at hk;subst hk
     simp only [add_zero] at hw⊢
     rw [uK] at hw⊢
     rw [yd]
     exact hp lo fO hw e Hh hm jh
    | succ k=>
     rw [eF] at hw⊢
     rw [eV]
     exact fp e Hh (hh _ hm) k ok lo (by simpa using hk) fO hw jh
   ·intro i lo ff' u hm e oe he gZ jh
    cases e with
    | zero=>
     simp at he;subst he
     simp only [add_zero]
     rw [HD,f2]
     exact hf gZ i lo ff' u hm jh
    | succ e=>
     rw [wy,show j+1+(e+1)=j+1+e+1 by omega]
     exact ff i lo ff' u (hl _ hm) e oe (by simpa using he) gZ jh
  have go:rV o.op.guard f->jJ o.op.guard f=true->ny P o.op.op o.pre j bJ bD f h (λbJ bD v h'=>lW P os (j+1) bJ bD K (fW f o.op.dst v) h')->BS P (o::os) j bJ bD K f h:=λlF hw hd=>by
   have Pn:o.op.op.eQ=true->(∀a,o.op.op≠ .e (.fl a))->eY P o.op.op f h (λv h'=>pe o.pre h' bD/\lW P os (j+1) (bJ++[(j,h)]) bD K (fW f o.op.dst v) h')->BS P (o::os) j bJ bD K f h:=λhE qX hs=>by
    have yK:∀lo,o.op.op≠ .l lo:=by intro lo e;rw [e] at hE;cases hE
    have ex:∃v h',eY P o.op.op f h (λu g=>u=v/\g=h')/\pe o.pre h' bD/\lW P os (j+1) (bJ++[(j,h)]) bD K (fW f o.op.dst v) h':=by
     generalize o.op.op=io at hs⊢
     cases io with
     | p po=>
      simp only [eY,iI] at hs⊢
      split at hs
      ·exact ⟨_,_,⟨rfl,rfl⟩,hs⟩
      ·exact hs.elim
     | l lo=>
      simp only [eY,iI] at hs⊢
      split at hs
      ·exact ⟨_,_,⟨rfl,rfl⟩,hs⟩
      ·exact hs.elim
     | e eo=>
      simp only [eY,pE] at hs⊢
      split at hs
      ·exact ⟨_,_,⟨rfl,rfl⟩,hs⟩
      ·exact hs.elim
     | call g args=>
      obtain ⟨v,h',hc,hk⟩:=hs
      exact ⟨v,h',⟨v,h',hc,rfl,rfl⟩,hk⟩
     | ou x args=>
      simp only [eY,uF] at hs⊢
      split at hs
      ·obtain ⟨pQ,v,h',hc,hk⟩:=hs
       exact ⟨v,h',⟨pQ,v,h',hc,rfl,rfl⟩,hk⟩
      ·obtain ⟨pQ,v,h',hc,hk⟩:=hs
       exact ⟨v,h',⟨pQ,v,h',hc,rfl,rfl⟩,hk⟩
      ·exact hs.elim
    obtain ⟨v,h',s1,s2,s3⟩:=ex
    exact key v h' _ _ lF s3 (λp hp=>by simp [hp]) (λp hp=>hp) (λ_=>by simp) (λlo e=>absurd e (yK lo)) (λ_=>s1) (λhf=>by rw [hw] at hf;cases hf) (λlo e=>absurd e (yK lo))
     (λ_ i lo ff u hm jh=>Ce s2 i lo ff u hm jh) (λa e=>absurd e (qX a))
   cases eO:o.op.op with
   | p po=>
    rw [eO] at hd
    simp only [ny,iI] at hd
    split at hd
    ·rename_i v hv
     exact key v h _ _ lF hd (λp hp=>hp) (λp hp=>hp) (λhE=>by rw [eO] at hE;cases hE) (λlo e=>by rw [eO] at e;cases e) (λ_=>by rw [eO];simp [eY,iI,hv]) (λhf=>by rw [hw] at hf;cases hf)
      (λlo e=>by rw [eO] at e;cases e) (λhE=>by rw [eO] at hE;cases hE) (λa e=>by rw [eO] at e;cases e)
    ·exact hd.elim
   | l lo=>
    rw [eO] at hd
    simp only [ny,iI] at hd
    split at hd
    ·rename_i v hv
     exact key v h _ _ lF hd.2 (λp hp=>hp) (λp hp=>by simp [hp]) (λhE=>by rw [eO] at hE;cases hE) (λpC e _=>by rw [eO] at e;cases e;simp) (λ_=>by rw [eO];simp [eY,iI,hv]) (λhf=>by rw [hw] at hf;cases hf)
      (λpC e _ e' Hh hm jh=>by rw [eO] at e;cases e;exact O0 hd.1 e' Hh hm jh) (λhE=>by rw [eO] at hE;cases hE) (λa e=>by rw [eO] at e;cases e)
    ·exact hd.elim
   | e eo=>
    cases eo with
    | fl a=>
     rw [eO] at hd
     simp only [ny,pE] at hd
     split at hd
     ·rename_i v h' hv
      simp only [iI] at hd
      split at hd
      ·rename_i u hu
       exact key v h' _ _ lF hd.2 (λp hp=>by simp [hp]) (λp hp=>by simp [hp]) (λ_=>by simp) (λlo e=>by rw [eO] at e;cases e) (λ_=>by rw [eO];simp [eY,pE,hv]) (λhf=>by rw [hw] at hf;cases hf)
        (λlo e=>by rw [eO] at e;cases e) (λ_ i lo ff u hm jh=>Ce hd.1 i lo ff u hm jh) (λa' _ _=>⟨u,hu,by simp⟩)
      ·exact hd.elim
     ·exact hd.elim
    | _=>exact Pn (by rw [eO];rfl) (λa e=>by rw [eO] at e;cases e) (by rw [eO] at hd⊢;exact hd)
   | call g args=>exact Pn (by rw [eO];rfl) (λa e=>by rw [eO] at e;cases e) (by rw [eO] at hd⊢;exact hd)
   | ou x args=>exact Pn (by rw [eO];rfl) (λa e=>by rw [eO] at e;cases e) (by rw [eO] at hd⊢;exact hd)
  have skip:rV o.op.guard f->jJ o.op.guard f=false->yc o.op.op o.pre j bJ bD h (λbJ bD v h'=>lW P os (j+1) bJ bD K (fW f o.op.dst v) h')->BS P (o::os) j bJ bD K f h:=λlF hw hd=>by
   unfold yc at hd
   split at hd
   ·rename_i hE
    exact key undef h _ _ lF hd (λp hp=>hp) (λp hp=>hp) (λgZ=>by rw [hE] at gZ;cases gZ) (λlo _ hf=>by rw [hw] at hf;cases hf) (λhf=>by rw [hw] at hf;cases hf) (λ_=>⟨rfl,rfl⟩)
     (λlo _ hf=>by rw [hw] at hf;cases hf) (λgZ=>by rw [hE] at gZ;cases gZ) (λa _ hf=>by rw [hw] at hf;cases hf)
   ·rename_i hE
    exact key undef h _ _ lF hd.2 (λp hp=>by simp [hp]) (λp hp=>hp) (λ_=>by simp) (λlo _ hf=>by rw [hw] at hf;cases hf) (λhf=>by rw [hw] at hf;cases hf) (λ_=>⟨rfl,rfl⟩)
     (λlo _ hf=>by rw [hw] at hf;cases hf) (λ_ i lo ff u hm jh=>Ce hd.1 i lo ff u hm jh) (λa _ hf=>by rw [hw] at hf;cases hf)
  simp only [lW] at hi
  split at hi
  ·rename_i lG
   exact go (by rw [lG];trivial) (by rw [lG];rfl) hi
  ·rename_i s b lG
   obtain ⟨e1,e2⟩:=HT hi
   rcases e2 with ⟨e2,e3⟩ | ⟨e2,e3⟩
   ·exact go (by rw [lG];exact e1) (by rw [lG];exact e2) e3
   ·exact skip (by rw [lG];exact e1) (by rw [lG];exact e2) e3
def sZ (g:Option (Nat×Bool)) (l:List nO):List dQ:=l.map λo=>⟨⟨o.dst,o.op,g⟩,o.pre⟩
def ta:List (Option (Nat×Bool)×List nO)->List dQ
 | []=>[]
 | (g,l)::gs=>sZ g l++ta gs
theorem Pe:∀os:List dQ,ta (wx os)=os
 | []=>rfl
 | o::os=>by
  have ih:=Pe os
  simp only [wx]
  cases hg:wx os with
  | nil=>
   rw [hg] at ih
   simp only [ta] at ih
   subst ih
   simp [ta,sZ]
  | cons a gs=>
   obtain ⟨g,l⟩:=a
   rw [hg] at ih
   simp only
   split
   ·rename_i he
    simp only [ta,sZ,map_cons,cons_append] at ih⊢
    rw [ih,<-he]
   ·simp only [ta,sZ,map_cons,List.map_nil,cons_append,List.nil_append] at ih⊢
    rw [ih]
theorem azw {l:List dQ} (h:l.all (λo=>leaves o.op.guard o.op.dst)=true):∀g m,(g,m)∈wx l->∀o∈m,leaves g o.dst=true:=by
 intro g m hm o ho
 have kl:(⟨⟨o.dst,o.op,g⟩,o.pre⟩:dQ)∈ta (wx l):=by
  generalize wx l=gs at hm
  induction gs with
  | nil=>simp at hm
  | cons a gs ih=>
   obtain ⟨g',m'⟩:=a
   simp only [ta,List.mem_append]
   rcases mem_cons.1 hm with he | hm
   ·cases he
    left
    simp only [sZ,List.mem_map]
    exact ⟨o,ho,rfl⟩
   ·exact .inr (ih hm)
 rw [Pe] at kl
 rw [all_eq_true] at h
 exact h _ kl
theorem adD {P:Program} {io:kB} {pre j:Nat} {bJ:List (Nat×ae)} {bD:iB} {f:Nat->Value} {h:ae} {K K':List (Nat×ae)->iB->Value->ae->Prop} (hm:∀a b v h,K a b v h->K' a b v h)
  (hs:ny P io pre j bJ bD f h K):ny P io pre j bJ bD f h K':=by
 cases io with
 | p po=>simp only [ny,iI] at hs⊢;split at hs <;> first | exact hm _ _ _ _ hs | exact hs.elim
 | l lo=>simp only [ny,iI] at hs⊢;split at hs <;> first | exact ⟨hs.1,hm _ _ _ _ hs.2⟩ | exact hs.elim
 | e eo=>
  cases eo with
  | fl a=>
   simp only [ny,pE,iI] at hs⊢
   split at hs
   ·split at hs <;> first | exact ⟨hs.1,hm _ _ _ _ hs.2⟩ | exact hs.elim
   ·exact hs.elim
  | _=>simp only [ny,pE] at hs⊢;split at hs <;> first | exact ⟨hs.1,hm _ _ _ _ hs.2⟩ | exact hs.elim
 | call g args=>exact rC.mono hs λv h hk=>⟨hk.1,hm _ _ _ _ hk.2⟩
 | ou x args=>simp only [ny,uF] at hs⊢;split at hs <;> first | exact ⟨hs.1,hs.2.mono λv h hk=>⟨hk.1,hm _ _ _ _ hk.2⟩⟩ | exact hs.elim
theorem adC {io:kB} {pre j:Nat} {bJ:List (Nat×ae)} {bD:iB} {h:ae} {K K':List (Nat×ae)->iB->Value->ae->Prop} (hm:∀a b v h,K a b v h->K' a b v h)
  (hs:yc io pre j bJ bD h K):yc io pre j bJ bD h K':=by
 unfold yc at hs⊢
 split at hs
 ·exact hm _ _ _ _ hs
 ·exact ⟨hs.1,hm _ _ _ _ hs.2⟩
theorem U7 {f:Nat->Value} {d:Option Nat} {s:Nat} (hd:d≠some s) (v:Value):fW f d v s=f s:=by
 cases ho:d with
 | none=>rfl
 | some x=>
  have:s≠x:=by rintro rfl;exact hd ho
  simp [fW,uf,this]
theorem adV {P:Program} {g:Option (Nat×Bool)} {r:List dQ} {K:(Nat->Value)->ae->Prop}:∀{l:List nO} {j:Nat} {bJ:List (Nat×ae)} {bD:iB} {f:Nat->Value} {h:ae},(∀o∈l,leaves g o.dst=true)->
  (∀s b,g=some (s,b)->vC (f s)=false/\qu (f s) b=true)->
  uP P l j bJ bD (λbJ bD f h=>lW P r (j+l.length) bJ bD K f h) f h->lW P (sZ g l++r) j bJ bD K f h:=by
 intro l
 induction l with
 | nil=>intro j bJ bD f h _ _ hk;exact hk
 | cons o l ih=>
  intro j bJ bD f h hl hg hk
  simp only [uP] at hk
  simp only [sZ,map_cons,cons_append,lW]
  have step:ny P o.op o.pre j bJ bD f h λbJ bD v h'=>lW P (sZ g l++r) (j+1) bJ bD K (fW f o.dst v) h':=by
   refine adD (λa b v h' fN=>?_) hk
   refine ih (λo' fU=>hl o' (by simp [fU])) ?_ ?_
   ·intro s bb hs
    have hd:o.dst≠some s:=by have:=hl o (by simp);rw [hs] at this;simpa [leaves] using this
    rw [U7 hd]
    exact hg s bb hs
   ·rw [length_cons] at fN
    rw [show j+1+l.length=j+(l.length+1) by omega]
    exact fN
  cases lG:g with
  | none=>rw [lG] at step;exact step
  | some sb=>
   obtain ⟨s,b⟩:=sb
   obtain ⟨e1,e2⟩:=hg s b lG
   rw [lG] at step
   exact PO e1 (λ_=>step) (λh=>by rw [e2] at h;cases h)
theorem aAv {P:Program} {s:Nat} {b:Bool} {r:List dQ} {K:(Nat->Value)->ae->Prop}:∀{l:List nO} {j:Nat} {bJ:List (Nat×ae)} {bD:iB} {f:Nat->Value} {h:ae},(∀o∈l,leaves (some (s,b)) o.dst=true)->
  vC (f s)=false->qu (f s) b=false->
  yj l j bJ bD (λbJ bD f h=>lW P r (j+l.length) bJ bD K f h) f h->lW P (sZ (some (s,b)) l++r) j bJ bD K f h:=by
 intro l
 induction l with
 | nil=>intro j bJ bD f h _ _ _ hk;exact hk
 | cons o l ih=>
  intro j bJ bD f h hl e1 e2 hk
  simp only [yj] at hk
  simp only [sZ,map_cons,cons_append,lW]
  refine PO e1 (λh=>by rw [e2] at h;cases h) (λ_=>?_)
  refine adC (λa c v h' fN=>?_) hk
  have hd:o.dst≠some s:=by have:=hl o (by simp);simpa [leaves] using this
  refine ih (λo' fU=>hl o' (by simp [fU])) (by rw [U7 hd];exact e1) (by rw [U7 hd];exact e2) ?_
  rw [length_cons] at fN
  rw [show j+1+l.length=j+(l.length+1) by omega]
  exact fN
theorem PI {P:Program} {K K':List (Nat×ae)->iB->(Nat->Value)->ae->Prop} (hm:∀a b f h,K a b f h->K' a b f h):∀{l:List nO} {j:Nat} {bJ:List (Nat×ae)} {bD:iB} {f:Nat->Value} {h:ae},
  uP P l j bJ bD K f h->uP P l j bJ bD K' f h
 | [],_,_,_,_,_,hk=>hm _ _ _ _ hk
 | _::_,_,_,_,_,_,hk=>adD (λ_ _ _ _ fN=>PI hm fN) hk
theorem adW {K K':List (Nat×ae)->iB->(Nat->Value)->ae->Prop} (hm:∀a b f h,K a b f h->K' a b f h):∀{l:List nO} {j:Nat} {bJ:List (Nat×ae)} {bD:iB} {f:Nat->Value} {h:ae},
  yj l j bJ bD K f h->yj l j bJ bD K' f h
 | [],_,_,_,_,_,hk=>hm _ _ _ _ hk
 | _::_,_,_,_,_,_,hk=>adC (λ_ _ _ _ fN=>adW hm fN) hk
theorem aAu {P:Program} {K:(Nat->Value)->ae->Prop}:∀{gs:List (Option (Nat×Bool)×List nO)} {j:Nat} {bJ:List (Nat×ae)} {bD:iB} {f:Nat->Value} {h:ae},(∀g l,(g,l)∈gs->∀o∈l,leaves g o.dst=true)->
  qR P gs j bJ bD K f h->lW P (ta gs) j bJ bD K f h:=by
 intro gs
 induction gs with
 | nil=>intro j bJ bD f h _ hk;exact hk
 | cons a gs ih=>
  obtain ⟨g,l⟩:=a
  intro j bJ bD f h hl hk
  have qW:∀g' l',(g',l')∈gs->∀o∈l',leaves g' o.dst=true:=λg' l' hm=>hl g' l' (by simp [hm])
  simp only [ta]
  cases g with
  | none=>
   simp only [qR] at hk
   exact adV (hl none l (by simp)) (λs b hs=>by cases hs) (PI (λa b f h fN=>ih qW fN) hk)
  | some sb=>
   obtain ⟨s,b⟩:=sb
   simp only [qR] at hk
   obtain ⟨e1,e2⟩:=HT hk
   rcases e2 with ⟨e2,e3⟩ | ⟨e2,e3⟩
   ·exact adV (hl _ l (by simp)) (λs' b' hs=>by cases hs;exact ⟨e1,e2⟩) (PI (λa b f h fN=>ih qW fN) e3)
   ·exact aAv (hl _ l (by simp)) e1 e2 (adW (λa b f h fN=>ih qW fN) e3)
end
section
def fF (V:Nat->Value) (S:List Nat):List dQ->Nat->(Nat->Value)->(Nat->Value)
 | [],_,f=>f
 | d::ds,i,f=>fF V S ds (i+1) (if S.contains i then fW f d.op.dst (V i) else f)
theorem wB {V:Nat->Value} {S S':List Nat} {t:Nat}:∀{l:List dQ} {i:Nat} {f f':Nat->Value},(∀k d,l[k]?=some d->d.op.dst=some t->(i+k∈S↔i+k∈S'))->f t=f' t->fF V S l i f t=fF V S' l i f' t
 | [],i,f,f',_,hf=>hf
 | d::ds,i,f,f',h,hf=>by
  simp only [fF]
  refine wB (λk d' hk hd=>?_) ?_
  ·have:=h (k+1) d' (by simpa using hk) hd
   rw [show i+(k+1)=i+1+k by omega] at this
   exact this
  ·by_cases hd:d.op.dst=some t
   ·have:=h 0 d rfl hd
    simp only [add_zero] at this
    by_cases hi:i∈S
    ·simp [hi,this.1 hi,hd,fW,uf]
    ·have iM:i∉S':=λh=>hi (this.2 h)
     simp [hi,iM,hf]
   ·have bY:∀v g,fW g d.op.dst v t=g t:=by
     intro v g
     cases wH:d.op.dst with
     | none=>rfl
     | some x=>
      have:t≠x:=by rintro rfl;exact hd wH
      simp [fW,uf,this]
    split <;> split <;> simp [bY,hf]
theorem PD {V:Nat->Value} {S:List Nat} {t:Nat}:∀{l:List dQ} {i:Nat} {f:Nat->Value} {k:Nat} {d:dQ},l[k]?=some d->d.op.dst=some t->i+k∈S->
  (∀k' d',l[k']?=some d'->d'.op.dst=some t->k<k'->i+k'∉S)->fF V S l i f t=V (i+k)
 | [],i,f,k,d,hk,_,_,_=>by simp at hk
 | d0::ds,i,f,k,d,hk,hd,hS,tK=>by
  simp only [fF]
  cases k with
  | zero=>
   simp at hk;subst hk
   simp only [add_zero] at hS⊢
   have:fF V S ds (i+1) (if S.contains i=true then fW f d0.op.dst (V i) else f) t=fF V [] ds (i+1) (if S.contains i=true then fW f d0.op.dst (V i) else f) t:=by
    refine wB (λk' d' fN nA=>?_) rfl
    have:=tK (k'+1) d' (by simpa using fN) nA (by omega)
    rw [show i+(k'+1)=i+1+k' by omega] at this
    simp [this]
   rw [this]
   have CS:∀(l:List dQ) (i:Nat) (f:Nat->Value),fF V [] l i f=f:=by
    intro l
    induction l with
    | nil=>intro i f;rfl
    | cons a l ih=>intro i f;simp [fF,ih]
   rw [CS]
   simp [hS,hd,fW,uf]
  | succ k=>
   have:=PD (V:=V) (S:=S) (l:=ds) (i:=i+1) (f:=if S.contains i=true then fW f d0.op.dst (V i) else f) (k:=k) (d:=d) (by simpa using hk) hd (by rw [show i+1+k=i+(k+1) by omega];exact hS) (by
    intro k' d' fN nA aw
    have:=tK (k'+1) d' (by simpa using fN) nA (by omega)
    rw [show i+(k'+1)=i+1+k' by omega] at this
    exact this)
   rw [this]
   congr 1
   omega
theorem Cv {P:Program} {l:List dQ} {F:Nat->Nat->Value} {H:Nat->ae} {V:Nat->Value} (T:Trace P l 0 F H V):∀(r:List dQ) (i:Nat) (S:List Nat) (j:Nat),(∀k,r[k]?=l[i+k]?)->(∀k,k∈S↔k<j)->i<=j->j<=i+r.length->
  fF V S r i (F i)=F j
 | [],i,S,j,_,_,h1,h2=>by
  simp at h2
  obtain rfl:i=j:=by omega
  rfl
 | d::r,i,S,j,hr,hS,h1,h2=>by
  simp only [fF]
  have h0:=hr 0
  simp only [List.getElem?_cons_zero,add_zero] at h0
  have hu:=T.zM i d h0.symm
  simp only [zero_add] at hu
  by_cases gC:i<j
  ·have:i∈S:=(hS i).2 gC
   simp only [List.contains_eq_mem,this,decide_true,if_true]
   rw [<-hu]
   exact Cv T r (i+1) S j (λk=>by have:=hr (k+1);rw [show i+(k+1)=i+1+k by omega] at this;simpa using this) hS (by omega) (by simp at h2;omega)
  ·obtain rfl:i=j:=by omega
   have hni:i∉S:=λh=>by have:=(hS i).1 h;omega
   simp only [List.contains_eq_mem,hni,decide_false,Bool.false_eq_true,if_false]
   have aBA:∀(r:List dQ) (k:Nat) (f:Nat->Value),i<=k->fF V S r k f=f:=by
    intro r
    induction r with
    | nil=>intro k f _;rfl
    | cons a r ih=>
     intro k f hk
     have:k∉S:=λh=>by have:=(hS k).1 h;omega
     simp [fF,this,ih (k+1) f (by omega)]
   exact aBA r (i+1) _ (by omega)
def BH (es:List (List Nat)) (S:List Nat):Prop:=∀j e,j∈S->e∈(es.getD j [])->e∈S
theorem amJ {pV:List Nat}:∀{es:List Nat} {i:Nat},(vJ pV es).testBit i=true->∃e∈es,i=e∨(pV.getD e 0).testBit i=true
 | [],i,h=>by simp [vJ] at h
 | e::es,i,h=>by
  simp only [vJ,Nat.testBit_or,or_eq_true] at h
  rcases h with (h | h) | h
  ·refine ⟨e,by simp,.inl ?_⟩
   rw [Nat.testBit_two_pow] at h
   exact (by simpa using h:e=i).symm
  ·exact ⟨e,by simp,.inr h⟩
  ·obtain ⟨e',h1,h2⟩:=amJ h
   exact ⟨e',by simp [h1],h2⟩
theorem ayX:∀{es:List (List Nat)} {acc:List Nat} {all:List (List Nat)},(∀k,es[k]?=all[acc.length+k]?)->(∀j i,j<acc.length->(acc.getD j 0).testBit i=true->∃e∈all.getD j [],i=e∨((kC es acc).getD e 0).testBit i=true)->
  (∀j i,((kC es acc).getD j 0).testBit i=true->∃e∈all.getD j [],i=e∨((kC es acc).getD e 0).testBit i=true):=by
 intro es
 induction es with
 | nil=>
  intro acc all _ CB j i h
  simp only [kC] at h⊢CB
  by_cases hj:j<acc.length
  ·exact CB j i hj h
  ·have:acc.getD j 0=0:=by simp [getD,le_of_not_lt hj]
   rw [this] at h
   simp at h
 | cons e0 es ih=>
  intro acc all gR CB j i h
  simp only [kC] at h⊢CB
  have iu:∀(es:List (List Nat)) (acc:List Nat) (k:Nat),k<acc.length->(kC es acc).getD k 0=acc.getD k 0:=by
   intro es
   induction es with
   | nil=>intro acc k _;rfl
   | cons a es ih'=>
    intro acc k hk
    simp only [kC]
    rw [ih' _ k (by simp;omega)]
    simp [getD,getElem?_append_left hk]
  refine ih (acc:=acc++[vJ acc e0]) (all:=all) ?_ ?_ j i h
  ·intro k
   have:=gR (k+1)
   simp only [List.getElem?_cons_succ] at this
   rw [this]
   congr 1
   simp
   omega
  ·intro j' i' Qf hb
   by_cases aw:j'<acc.length
   ·rw [show (acc++[vJ acc e0]).getD j' 0=acc.getD j' 0 by simp [getD,getElem?_append_left aw]] at hb
    exact CB j' i' aw hb
   ·obtain rfl:j'=acc.length:=by simp at Qf;omega
    rw [show (acc++[vJ acc e0]).getD acc.length 0=vJ acc e0 by simp [getD]] at hb
    obtain ⟨e,h1,h2⟩:=amJ hb
    have h0:=gR 0
    simp only [List.getElem?_cons_zero,add_zero] at h0
    refine ⟨e,by simp [getD,<-h0,h1],?_⟩
    rcases h2 with h2 | h2
    ·exact .inl h2
    ·right
     have aAR:e<acc.length:=by
      apply byContradiction
      intro cJ
      have:acc.getD e 0=0:=by simp [getD,le_of_not_lt cJ]
      rw [this] at h2
      simp at h2
     rw [iu _ _ _ (by simp;omega)]
     simpa [getD,getElem?_append_left aAR] using h2
theorem JK {es:List (List Nat)} {S:List Nat} (hS:BH es S) (yr:∀j e,e∈es.getD j []->e<j):∀(j i:Nat),(∀e∈es.getD j [],e∈S)->((kC es []).getD j 0).testBit i=true->i∈S:=by
 intro j
 induction j using Nat.strongRecOn with
 | _ j ih=>
  intro i he hb
  obtain ⟨e,h1,h2⟩:=ayX (es:=es) (acc:=[]) (all:=es) (λk=>by simp) (λj i hj=>by simp at hj) j i hb
  rcases h2 with rfl | h2
  ·exact he _ h1
  ·exact ih e (yr j e h1) i (λe' qg=>hS e e' (he e h1) qg) h2
end
section
section
variable {P : Program} {N : Nat}
theorem KD {l:List dQ} {F:Nat->Nat->Value} {H:Nat->ae} {V:Nat->Value} (T:Trace P l 0 F H V) {i:Nat}:∀(d:Nat),i+d<=l.length->(∀e oe,l[e]?=some oe->oe.op.op.eQ=true->¬(i<=e/\e<i+d))->H (i+d)=H i
 | 0,_,_=>rfl
 | d+1,hl,hE=>by
  have ih:=KD T d (by omega) (λe oe h1 h2 h3=>hE e oe h1 h2 ⟨h3.1,by omega⟩)
  have aw:i+d<l.length:=by omega
  have dE:l[i+d]?=some l[i+d]:=getElem?_eq_getElem aw
  have Im:l[i+d].op.op.eQ=false:=by
   cases hq:l[i+d].op.op.eQ with
   | false=>rfl
   | true=>exact absurd ⟨by omega,by omega⟩ (hE (i+d) _ dE hq)
  rw [show i+(d+1)=i+d+1 by omega]
  rw [<-ih]
  have hy:=T.yes (i+d) _ dE
  have hn:=T.no (i+d) _ dE
  simp only [zero_add] at hy hn
  cases hw:jJ l[i+d].op.guard (F (i+d)) with
  | false=>exact (hn hw).2
  | true=>
   have hs:=hy hw
   generalize l[i+d].op.op=io at hs Im
   cases io with
   | p po=>
    simp only [eY,iI] at hs
    split at hs
    ·exact hs.2.symm
    ·exact hs.elim
   | l lo=>
    simp only [eY,iI] at hs
    split at hs
    ·exact hs.2.symm
    ·exact hs.elim
   | e eo=>cases Im
   | call g args=>cases Im
   | ou x args=>cases Im
theorem qL {l:List dQ} {F:Nat->Nat->Value} {H:Nat->ae} {V:Nat->Value} (T:Trace P l 0 F H V) {i k:Nat} (AQ:i<=k) (hk:k<=l.length) (hE:∀e oe,l[e]?=some oe->oe.op.op.eQ=true->¬(i<=e/\e<k)):H k=H i:=by
 have:=KD T (i:=i) (k-i) (by omega) (λe oe h1 h2 h3=>hE e oe h1 h2 ⟨h3.1,by omega⟩)
 rw [show i+(k-i)=k by omega] at this
 exact this
def LF (l:List dQ) (S:List Nat) (m:Nat):Prop:=∀e oe,l[e]?=some oe->oe.op.op.eQ=true->(e∈S↔e<m)
theorem DK {l:List dQ} (h:JE l=true) {i j:Nat} {oi oj:dQ} (hi:l[i]?=some oi) (hj:l[j]?=some oj):Bq oj j oi i=true:=by
 unfold JE at h
 rw [all_eq_true] at h
 have h1:=h (oj,j) (List.mem_zipIdx_iff_getElem?.2 hj)
 simp only at h1
 rw [all_eq_true] at h1
 exact h1 (oi,i) (List.mem_zipIdx_iff_getElem?.2 hi)
theorem amF {oi oj:dQ} {i j t:Nat} (h:Bq oj j oi i=true) (bY:i≠j) (hd:oi.op.dst=some t) (ht:ue oj t=true):(if i<j then oj.pre.testBit i else oi.pre.testBit j)=true:=by
 unfold Bq at h
 rw [hd] at h
 simp only [and_eq_true,or_eq_true,beq_iff_eq,ht,Bool.not_true,Bool.false_eq_true,false_or] at h
 rcases h.1 with h | h
 ·exact absurd h bY
 ·exact h
theorem Uk {oi oj:dQ} {i j:Nat} (h:Bq oj j oi i=true) (aw:i<j) (hi:oi.op.op.eQ=true) (hj:oj.op.op.eQ=true):oj.pre.testBit i=true:=by
 unfold Bq at h
 simp only [and_eq_true,aw,decide_true,hi,hj,Bool.and_self,Bool.not_true,Bool.false_or] at h
 exact h.2
theorem azy {ops:Array Oper} {l:List dQ} {F:Nat->Nat->Value} {H:Nat->ae} {V:Nat->Value} (T:Trace P l 0 F H V) (hlen:l.length=ops.size)
  (aAO:∀(k:Nat) (o:Oper) (d:dQ),ops[k]?=some o->l[k]?=some d->ya P N ops o=some d.op)
  (jh:∀k d,l[k]?=some d->d.pre=(kC (ops.toList.map gq) []).getD k 0)
  (yr:∀j e,e∈(ops.toList.map gq).getD j []->e<j) (wO:JE l=true) {S r:List Nat} (hv:xP ops S r):
  BH (ops.toList.map gq) S->(∀i∈S,i<ops.size)->∀m,m<=l.length->LF l S m->∀S' B ρ a w,gL P N B ρ (fF V S l 0 (F 0)) (H m) a w->∀Q:Exit->Act->World->Prop,
   (∀aN a' w',gL P N B aN (F l.length) (H l.length) a' w'->Tr ρ (H m) w aN (H l.length) w'->Q .normal a' w')->wpOpsIn (FR S') 0 P ops Q r a w:=by
 induction hv with
 | nil gR=>
  rename_i S
  intro gM aw m hm ju S' B ρ a w R Q hq
  have hF:fF V S l 0 (F 0)=F l.length:=by
   have h1:=Cv T l 0 (List.range l.length) l.length (λk=>by simp) (λk=>by simp) (by omega) (by omega)
   rw [<-h1]
   funext t
   refine wB (λk d hk _=>?_) rfl
   have iN:=(cm hk).1
   simp only [zero_add,mem_range]
   exact ⟨λ_=>iN,λ_=>gR k (by omega)⟩
  have hH:H l.length=H m:=by
   refine qL T hm (le_refl _) ?_
   rintro e oe he hE ⟨h1,h2⟩
   have:=(ju e oe he hE).1 (gR e (by omega))
   omega
  rw [hF] at R
  simp only [wpOpsIn]
  refine hq ρ a w (by rw [hH];exact R) ?_
  rw [hH]
  exact Tr.refl R.heap
 | cons ve u7 yB qm ih=>
  rename_i S j o r
  intro gM aw m hm ju S' B ρ a w R Q hq
  have kQ:j<ops.size:=(Array.getElem?_eq_some_iff.1 ve).1
  have dE:l[j]?=some (l[j]'(by omega)):=getElem?_eq_getElem _
  generalize hd0:l[j]'(by omega)=d at dE
  have hc:=aAO j o d ve dE
  obtain ⟨q1,q2,q3,q4,q5⟩:=Ho hc
  have kP:(ops.toList.map gq).getD j []=gq o:=by
   simp [getD,ve]
  have tB:BH (ops.toList.map gq) (j::S):=by
   intro k e hk he
   rcases mem_cons.1 hk with rfl | hk
   ·rw [kP] at he
    exact mem_cons_of_mem _ (yB e he)
   ·exact mem_cons_of_mem _ (gM k e hk he)
  have before:∀i,d.pre.testBit i=true->i∈S:=by
   intro i hb
   rw [jh j d dE] at hb
   exact JK gM yr j i (by rw [kP];exact yB) hb
  have behind:∀k dk,l[k]?=some dk->dk.pre.testBit j=true->k∉S:=by
   intro k dk hk hb CL
   rw [jh k dk hk] at hb
   exact u7 (JK gM yr k j (λe he=>gM k e CL he) hb)
  have slot:∀t,ue d t=true->fF V S l 0 (F 0) t=F j t:=by
   intro t ht
   have h1:=Cv T l 0 (List.range j) j (λk=>by simp) (λk=>by simp) (by omega) (by omega)
   rw [<-h1]
   refine wB (λk dk hk yA=>?_) rfl
   simp only [zero_add,mem_range]
   by_cases lT:k=j
   ·subst lT
    exact ⟨λh=>absurd h u7,λh=>absurd h (Nat.lt_irrefl _)⟩
   ·have hp:=amF (DK wO hk dE) lT yA ht
    by_cases oA:k<j
    ·rw [if_pos oA] at hp
     exact ⟨λ_=>oA,λ_=>before k hp⟩
    ·rw [if_neg oA] at hp
     exact ⟨λh=>absurd h (behind k dk hk hp),λh=>absurd h oA⟩
  have yO:∀t∈d.op.reads,fF V S l 0 (F 0) t=F j t:=λt ht=>slot t (by simp [ue,ht])
  have AT:∀t∈tmpsOf d.op.op.jk,fF V S l 0 (F 0) t=F j t:=λt ht=>yO t (by simp [jK.reads,ht])
  have De:jJ d.op.guard (fF V S l 0 (F 0))=jJ d.op.guard (F j):=by
   cases hg:d.op.guard with
   | none=>rfl
   | some sb=>
    obtain ⟨s,b⟩:=sb
    simp only [jJ]
    rw [yO s (by simp [jK.reads,hg])]
  have P8:rV d.op.guard (fF V S l 0 (F 0)):=by
   have:=T.PL j d dE
   simp only [zero_add] at this
   cases hg:d.op.guard with
   | none=>trivial
   | some sb=>
    obtain ⟨s,b⟩:=sb
    rw [hg] at this
    simp only [rV] at this⊢
    rw [yO s (by simp [jK.reads,hg])]
    exact this
  have Df:=Kn q4 R P8
  have kL:fF V (j::S) l 0 (F 0)=fW (fF V S l 0 (F 0)) o.dst (V j):=by
   rw [<-q5]
   funext t
   by_cases rY:d.op.dst=some t
   ·have h1:=PD (V:=V) (S:=j::S) (l:=l) (i:=0) (f:=F 0) (k:=j) (d:=d) dE rY (by simp) (by
     intro k' d' fN nA oA
     have hp:=amF (DK wO fN dE) (by omega) nA (by simp [ue,rY])
     rw [if_neg (by omega)] at hp
     have:=behind k' d' fN hp
     simp only [zero_add,mem_cons,not_or]
     exact ⟨by omega,this⟩)
    rw [h1]
    simp [rY,fW,uf]
   ·have h1:fF V (j::S) l 0 (F 0) t=fF V S l 0 (F 0) t:=by
     refine wB (λk dk hk yA=>?_) rfl
     have lT:k≠j:=by
      rintro rfl
      rw [dE] at hk
      cases hk
      exact rY yA
     simp [lT]
    rw [h1]
    cases wH:d.op.dst with
    | none=>rfl
    | some x=>
     have:t≠x:=by rintro rfl;exact rY wH
     simp [fW,uf,this]
  have dR:∀i∈j::S,i<ops.size:=by
   intro i hi
   rcases mem_cons.1 hi with rfl | hi
   ·exact kQ
   ·exact aw i hi
  -- j6 D1,where j6 aDo writes memory
  have D2:d.op.op.eQ=true->H m=H j/\LF l (j::S) (j+1):=by
   intro hE
   have qi:m<=j:=by
    apply byContradiction
    intro h
    exact u7 ((ju j d dE hE).2 (by omega))
   refine ⟨?_,?_⟩
   ·refine (qL T qi (by omega) ?_).symm
    rintro e oe he mO ⟨h1,h2⟩
    have hb:=Uk (DK wO he dE) h2 mO hE
    have:=(ju e oe he mO).1 (before e hb)
    omega
   ·intro e oe he mO
    rcases Nat.lt_trichotomy e j with oA | rfl | wK
    ·have hb:=Uk (DK wO he dE) oA mO hE
     exact ⟨λ_=>by omega,λ_=>mem_cons_of_mem _ (before e hb)⟩
    ·exact ⟨λ_=>by omega,λ_=>by simp⟩
    ·have hb:=Uk (DK wO dE he) wK hE mO
     have:=behind e oe he hb
     constructor
     ·intro h
      rcases mem_cons.1 h with h | h
      ·omega
      ·exact absurd h this
     ·intro h;omega
  have By:d.op.op.eQ=false->LF l (j::S) m:=by
   intro hE e oe he mO
   have bY:e≠j:=by
    rintro rfl
    rw [dE] at he
    cases he
    rw [hE] at mO
    cases mO
   rw [<-ju e oe he mO]
   simp [bY]
  have Dh:=T.yes j d dE
  have jR:=T.no j d dE
  simp only [zero_add] at Dh jR
  simp only [wpOpsIn,ve]
  by_cases hw:jJ d.op.guard (F j)=true
  ·rw [if_pos (by rw [Df,De,hw])]
   have hs:=Dh hw
   by_cases hE:d.op.op.eQ=true
   ·obtain ⟨e1,e2⟩:=D2 hE
    rw [<-J6 AT,<-e1] at hs
    obtain ⟨v,h',st,hv,hh⟩:=Bl (N:=N) q3 q1 hs
    subst hv
    subst hh
    refine st S' B ρ a w R _ _ ?_
    intro aN v' w' vn HH TT
    have R':=R.vK q2 TT vn HH
    rw [<-kL] at R'
    exact ih tB dR (j+1) (by omega) e2 S' B aN _ w' R' Q λwe uA mI rP wj=>hq we uA mI rP (TT.trans wj)
   ·have gZ:d.op.op.eQ=false:=by simpa using hE
    -- BA is looked at has one value at this D1 and in j6 aM3 order
    have mS:eY P d.op.op (fF V S l 0 (F 0)) (H m) λv h'=>v=V j/\h'=H m:=by
     rw [J6 AT]
     cases eO:d.op.op with
     | p po=>
      rw [eO] at hs
      simp only [eY,iI] at hs⊢
      split at hs
      ·exact ⟨hs.1,trivial⟩
      ·exact hs.elim
     | l lo=>
      have dD:ie lo (ev (F j)) (H m)=some (V j):=by
       have AZ:ie lo (ev (F j)) (H j)=some (V j):=by
        rw [eO] at hs
        simp only [eY,iI] at hs
        split at hs
        ·rename_i v hv
         rw [hv,hs.1]
        ·exact hs.elim
       rcases Nat.le_total m j with qi | qi
       ·by_cases hex:∃e oe,l[e]?=some oe/\oe.op.op.eQ=true/\m<=e/\e<j
        ·-- j6 least of aM4
         have key:∀n,(∃e oe,l[e]?=some oe/\oe.op.op.eQ=true/\m<=e/\e<j/\e<n)->∃e oe,l[e]?=some oe/\oe.op.op.eQ=true/\m<=e/\e<j/\∀e' jY,l[e']?=some jY->jY.op.op.eQ=true->¬(m<=e'/\e'<e):=by
          intro n
          induction n with
          | zero=>rintro ⟨e,oe,_,_,_,_,h⟩;omega
          | succ n vB=>
           rintro ⟨e,oe,h1,h2,h3,h4,h5⟩
           by_cases fO:∃e oe,l[e]?=some oe/\oe.op.op.eQ=true/\m<=e/\e<j/\e<n
           ·exact vB fO
           ·refine ⟨e,oe,h1,h2,h3,h4,?_⟩
            rintro e' jY k1 k2 ⟨k3,k4⟩
            exact fO ⟨e',jY,k1,k2,k3,by omega,by omega⟩
         obtain ⟨e0,zu,g1,g2,g3,g4⟩:=hex
         obtain ⟨e,oe,h1,h2,h3,h4,h5⟩:=key j ⟨e0,zu,g1,g2,g3,g4,g4⟩
         have ym:H e=H m:=qL T h3 (by omega) (λe' jY k1 k2 k3=>h5 e' jY k1 k2 k3)
         rw [<-ym]
         have u4:d.pre.testBit e=false:=by
          cases hb:d.pre.testBit e with
          | false=>rfl
          | true=>
           have:=(ju e oe h1 h2).1 (before e hb)
           omega
         have:=T.Um e oe j d lo h1 h2 dE eO (by simpa using hw) h4 (by simpa using u4)
         simpa using this
        ·have yo:H j=H m:=qL T qi (by omega) (λe oe h1 h2 h3=>hex ⟨e,oe,h1,h2,h3⟩)
         rw [<-yo]
         exact AZ
       ·by_cases hex:∃e oe,l[e]?=some oe/\oe.op.op.eQ=true/\j<=e/\e<m
        ·have key:∀n,(∃e oe,l[e]?=some oe/\oe.op.op.eQ=true/\j<=e/\e<m/\m<=e+n)->∃e oe,l[e]?=some oe/\oe.op.op.eQ=true/\j<=e/\e<m/\∀e' jY,l[e']?=some jY->jY.op.op.eQ=true->¬(e+1<=e'/\e'<m):=by
          intro n
          induction n with
          | zero=>rintro ⟨e,oe,_,_,_,_,h⟩;omega
          | succ n vB=>
           rintro ⟨e,oe,h1,h2,h3,h4,h5⟩
           by_cases fO:∃e oe,l[e]?=some oe/\oe.op.op.eQ=true/\j<=e/\e<m/\m<=e+n
           ·exact vB fO
           ·refine ⟨e,oe,h1,h2,h3,h4,?_⟩
            rintro e' jY k1 k2 ⟨k3,k4⟩
            exact fO ⟨e',jY,k1,k2,by omega,by omega,by omega⟩
         obtain ⟨e0,zu,g1,g2,g3,g4⟩:=hex
         obtain ⟨e,oe,h1,h2,h3,h4,h5⟩:=key m ⟨e0,zu,g1,g2,g3,g4,by omega⟩
         have bY:e≠j:=by
          rintro rfl
          rw [dE] at h1
          cases h1
          rw [gZ] at h2
          cases h2
         have ym:H m=H (e+1):=qL T (by omega) hm (λe' jY k1 k2 k3=>h5 e' jY k1 k2 k3)
         rw [ym]
         have u4:oe.pre.testBit j=false:=by
          cases hb:oe.pre.testBit j with
          | false=>rfl
          | true=>exact absurd ((ju e oe h1 h2).2 h4) (behind e oe h1 hb)
         have:=T.PE j d lo e oe dE eO (by simpa using hw) h1 h2 (by omega) (by simpa using u4)
         simpa using this
        ·have yo:H m=H j:=qL T qi hm (λe oe h1 h2 h3=>hex ⟨e,oe,h1,h2,h3⟩)
         rw [yo]
         exact AZ
      simp [eY,iI,dD]
     | e eo=>rw [eO] at gZ;cases gZ
     | call g args=>rw [eO] at gZ;cases gZ
     | ou x args=>rw [eO] at gZ;cases gZ
    obtain ⟨v,h',st,hv,hh⟩:=Bl (N:=N) q3 q1 mS
    subst hv
    subst hh
    refine st S' B ρ a w R _ _ ?_
    intro aN v' w' vn HH TT
    have R':=R.vK q2 TT vn HH
    rw [<-kL] at R'
    exact ih tB dR m hm (By gZ) S' B aN _ w' R' Q λwe uA mI rP wj=>hq we uA mI rP (TT.trans wj)
  ·have rh:jJ d.op.guard (F j)=false:=by simpa using hw
   rw [if_neg (by rw [Df,De,rh];simp)]
   obtain ⟨n1,n2⟩:=jR rh
   have R':=R.vK q2 (Tr.refl R.heap) (aK.undef _) R.heap
   rw [n1] at kL
   rw [<-kL] at R'
   by_cases hE:d.op.op.eQ=true
   ·obtain ⟨e1,e2⟩:=D2 hE
    have e3:H (j+1)=H m:=by rw [n2,e1]
    exact ⟨λ_ _=>trivial,ih tB dR (j+1) (by omega) e2 S' B ρ _ w (by rw [e3];exact R') Q λwe uA mI rP wj=>hq we uA mI rP (by rw [e3] at wj;exact wj)⟩
   ·exact ⟨λ_ _=>trivial,ih tB dR m hm (By (by simpa using hE)) S' B ρ _ w R' Q hq⟩
theorem VF:∀{ios:List jK} {ps:List Nat},ios.length<=ps.length->(oW ios ps).length=ios.length/\∀(k:Nat) (d:dQ),(oW ios ps)[k]?=some d->ios[k]?=some d.op/\d.pre=ps.getD k 0
 | [],ps,_=>⟨by simp [oW],λk d h=>by simp [oW] at h⟩
 | o::ios,[],h=>by simp at h
 | o::ios,p::ps,h=>by
  obtain ⟨h1,h2⟩:=VF (ios:=ios) (ps:=ps) (by simpa using h)
  refine ⟨by simp [oW,h1],?_⟩
  intro k d hk
  cases k with
  | zero=>simp [oW] at hk;subst hk;simp
  | succ k=>
   simp only [oW,List.getElem?_cons_succ] at hk
   obtain ⟨a,b⟩:=h2 k d hk
   exact ⟨by simpa using a,by simpa [getD] using b⟩
theorem Hd:∀(es:List (List Nat)) (acc:List Nat),(kC es acc).length=acc.length+es.length
 | [],acc=>by simp [kC]
 | e::es,acc=>by simp only [kC];rw [Hd];simp;omega
theorem O5 {ops:Array Oper}:∀{os:List Oper} {l:List jK},nR P N ops os=some l->l.length=os.length/\∀(k:Nat) (o:Oper) (x:jK),os[k]?=some o->l[k]?=some x->ya P N ops o=some x
 | [],l,h=>by
  simp [nR] at h
  subst h
  exact ⟨rfl,λk o x hk=>by simp at hk⟩
 | o::os,l,h=>by
  obtain ⟨x,xs,h1,h2,rfl⟩:=Cg h
  obtain ⟨e1,e2⟩:=O5 h2
  refine ⟨by simp [e1],?_⟩
  intro k o' x' hk hx
  cases k with
  | zero=>simp at hk hx;subst hk;subst hx;exact h1
  | succ k=>exact e2 k o' x' (by simpa using hk) (by simpa using hx)
theorem aBS {out:Bool} {id:Nat} {ops:Array Oper} {l:List dQ} {K:(Nat->Value)->ae->Prop} {f:Nat->Value} {h:ae} (hc:O3 P N ops=some l) (hi:lW P l 0 [] [] K f h):
  ∃f' h',jr P N out (.region id ops true) f h .normal f' h'/\K f' h':=by
 unfold O3 at hc
 split at hc
 ·rename_i ios Qc
  split at hc
  ·rename_i yx
   simp at hc
   simp only [and_eq_true] at yx
   obtain ⟨⟨CR,rW⟩,wO⟩:=yx
   rw [hc] at wO
   obtain ⟨g1,g2⟩:=O5 Qc
   have Qj:ios.length<=(kC (ops.toList.map gq) []).length:=by rw [Hd];simp [g1]
   obtain ⟨z1,z2⟩:=VF Qj
   rw [hc] at z1 z2
   have hlen:l.length=ops.size:=by rw [z1,g1];simp
   obtain ⟨F,H,V,f1,f2,f3,T,_,_⟩:=Q4 hi
   simp only [zero_add] at f3
   refine ⟨F l.length,H l.length,?_,f3⟩
   ·intro S hS B ρ a w R
    refine wpIn_region_draw ?_
    intro t
    have QH:Region.schedule (P.follows .mixedOrders) ops t=Region.linearise .any ops t:=by
     unfold Region.schedule
     rw [CR]
     simp
    rw [QH]
    have dD:=af6 rW t
    have yr:∀j e,e∈(ops.toList.map gq).getD j []->e<j:=by
     intro j e he
     by_cases hj:j<ops.size
     ·have hg:ops.toList[j]?=some ops[j]:=by simp [hj]
      have:(ops.toList.map gq).getD j []=gq ops[j]:=by simp [getD,hj]
      rw [this] at he
      have:=FD rW j ops[j] hg e he
      omega
     ·have:(ops.toList.map gq).getD j []=[]:=by simp [getD,le_of_not_lt hj]
      rw [this] at he
      simp at he
    have CS:∀(l:List dQ) (i:Nat) (f:Nat->Value),fF V [] l i f=f:=by
     intro l
     induction l with
     | nil=>intro i f;rfl
     | cons a l ih=>intro i f;simp [fF,ih]
    have R1:gL P N B ρ (fF V [] l 0 (F 0)) (H 0) a { w with drawn:=w.drawn+1 }:=by
     rw [CS,f1,f2]
     exact R.mono (Tr.drew R.heap _ (Nat.le_succ _)) (R.heap.drew _)
    refine azy T hlen ?_ ?_ yr wO dD (λj e hj=>by simp at hj) (λi hi=>by simp at hi) 0 (by omega) (λe oe _ _=>by simp) S B ρ a _ R1 _ ?_
    ·intro k o d hk hd
     exact g2 k o d.op (by simpa using hk) (z2 k d hd).1
    ·intro k d hd
     exact (z2 k d hd).2
    ·intro aN a' w' R' T'
     refine ⟨rfl,aN,R',?_⟩
     have T0:=Tr.drew R.heap (w.drawn+1) (Nat.le_succ _)
     rw [f2] at T'
     exact T0.trans T'
  ·cases hc
 ·cases hc
end
end
section
section
variable {P : Program} {w : World} {ρ : bk} {h : ae}
theorem bN.alloc (H:bN P ρ h w) (b:Obj):bN P ρ h (w.alloc b)/\Tr ρ h w ρ h (w.alloc b):=by
 have nb:=kJ.alloc w b
 refine ⟨⟨?_,H.inj,H.esz⟩,?_⟩
 ·intro i r hi
  obtain ⟨o,ho,hr⟩:=H.obj i r hi
  refine ⟨o,ho,?_⟩
  by_cases hd:o=.dead
  ·subst hd;trivial
  ·exact hr.mono (.refl _) (nb.old (Ja H hi ⟨o,ho,hd⟩))
 ·exact {
   ext:=.refl _
   len:=le_refl _
   mo:=λi r hi=>H.lt hi
   kinds:=λi _ hm=>hm
   fresh:=λi s h1 h2=>by rw [h1] at h2;cases h2
   kN:=by rw [nb.size];omega
   kY:=λk hk _=>nb.old hk
   os:=nb.os
   tape:=nb.tape
   output:=nb.output
   drawn:=nb.drawn }
theorem DM {l k:Nat} {o:Obj} (hk:k≠l):(w.putObj l o).heap[k]?=w.heap[k]?:=World.putObj_heap_other hk
theorem bN.put (H:bN P ρ h w) {l:Nat} (jR:∀j s,ρ j=some s->s.cZ=l->¬jH h j) (o:Obj):bN P ρ h (w.putObj l o):=by
 refine ⟨?_,H.inj,H.esz⟩
 intro i r hi
 obtain ⟨o',ho,hr⟩:=H.obj i r hi
 refine ⟨o',ho,?_⟩
 by_cases hd:o'=.dead
 ·subst hd;trivial
 ·refine hr.mono (.refl _) (DM ?_)
  intro e
  exact jR i r hi e ⟨o',ho,hd⟩
theorem bN.aB7 (H:bN P ρ h w) {l:Nat} {rec:Loop} (hl:w.heap[l]?=some (.loop rec)) {j:Nat} {s:RI} (hj:ρ j=some s) (hs:s.cZ=l) (hv:jH h j):∃c ls vs,h[j]?=some (.loop c ls vs):=by
 obtain ⟨o,ho,bY⟩:=hv
 obtain ⟨o',fU,hr⟩:=H.obj j s hj
 rw [ho] at fU
 cases fU
 subst hs
 cases o with
 | ro e xs=>obtain ⟨_,c,_,fr,h2,_⟩:=hr;rw [hl] at h2;cases h2
 | arr e xs=>obtain ⟨_,_,c,h2,_⟩:=hr;rw [hl] at h2;cases h2
 | smap es=>obtain ⟨bn,clock,h1,_⟩:=hr;rw [hl] at h1;cases h1
 | mT kd es=>obtain ⟨bn,clock,h1,_⟩:=hr;rw [hl] at h1;cases h1
 | jQ g c es=>obtain ⟨_,bn,h1,_⟩:=hr;rw [hl] at h1;cases h1
 | iter m s n l=>obtain ⟨_,rm,_,h1⟩:=hr;rw [hl] at h1;cases h1
 | loop c ls vs=>exact ⟨c,ls,vs,ho⟩
 | dead=>exact absurd rfl bY
theorem Tr.late {aN:bk} {h':ae} {w':World} (T:Tr ρ h w aN h' w') {l:Nat} (hl:w.heap.size<=l) (o:Obj) (i:Nat):Tr ρ h w aN (h'.set i .dead) (w'.putObj l o) where
 ext:=T.ext
 len:=by simpa using T.len
 mo:=T.mo
 kinds:=by
  intro j hj hm
  refine T.kinds j hj ?_
  by_cases e:j=i
  ·subst e
   have aw:j<h'.length:=Nat.lt_of_lt_of_le hj T.len
   unfold fB at hm
   rw [getElem?_set_self aw] at hm
   rcases hm with ⟨_,_,h1⟩ | ⟨_,h1⟩ | ⟨_,_,_,h1⟩ | ⟨_,_,h1⟩ | ⟨_,_,_,h1⟩ | ⟨_,_,_,_,h1⟩ <;> cases h1
  ·unfold fB at hm⊢
   rw [getElem?_set_ne (Ne.symm e)] at hm
   exact hm
 fresh:=T.fresh
 kN:=by rw [World.putObj_size];exact T.kN
 kY:=λk hk jR=>by rw [DM (by omega)];exact T.kY k hk jR
 os:=T.os
 tape:=T.tape
 output:=T.output
 drawn:=T.drawn
theorem bN.kill (H:bN P ρ h w) (i:Nat):bN P ρ (h.set i .dead) w:=by
 have hm:∀j,fB (h.set i .dead) j->fB h j:=by
  intro j hj
  by_cases e:j=i
  ·subst e
   unfold fB at hj
   by_cases aw:j<h.length
   ·rw [getElem?_set_self aw] at hj
    rcases hj with ⟨_,_,h1⟩ | ⟨_,h1⟩ | ⟨_,_,_,h1⟩ | ⟨_,_,h1⟩ | ⟨_,_,_,h1⟩ | ⟨_,_,_,_,h1⟩ <;> cases h1
   ·rw [List.getElem?_eq_none (by simpa using le_of_not_lt aw)] at hj
    rcases hj with ⟨_,_,h1⟩ | ⟨_,h1⟩ | ⟨_,_,_,h1⟩ | ⟨_,_,h1⟩ | ⟨_,_,_,h1⟩ | ⟨_,_,_,_,h1⟩ <;> cases h1
  ·unfold fB at hj⊢
   rw [getElem?_set_ne (Ne.symm e)] at hj
   exact hj
 have hl:∀j,jH (h.set i .dead) j->jH h j:=by
  intro j hj
  by_cases e:j=i
  ·subst e
   obtain ⟨o,ho,bY⟩:=hj
   by_cases aw:j<h.length
   ·rw [getElem?_set_self aw] at ho
    cases ho
    exact absurd rfl bY
   ·rw [List.getElem?_eq_none (by simpa using le_of_not_lt aw)] at ho
    cases ho
  ·unfold jH at hj⊢
   rw [getElem?_set_ne (Ne.symm e)] at hj
   exact hj
 refine ⟨?_,λa b r s ha hb yQ h1 h2=>H.inj a b r s ha hb yQ (hm a h1) (hl b h2),H.esz⟩
 intro j r hj
 by_cases e:j=i
 ·subst e
  exact ⟨.dead,by rw [getElem?_set_self (H.lt hj)],trivial⟩
 ·obtain ⟨o,ho,hr⟩:=H.obj j r hj
  exact ⟨o,by rw [getElem?_set_ne (Ne.symm e)];exact ho,hr⟩
theorem aKb {g:FuncId} {first cap:Array Value} (pQ:rS P g=true) (a:Act) (gx:Operand) (hy:a.eval gx=.func (.func g) first cap) (l:Nat) (w:World):
  ∃d,(resolve a.eval (rangeCall gx l) 0).run P w=.ok d w/\(invoke d.target d.args).run P w=.ok (.enter g (first++#[.func (.yield l) #[] #[]]++cap)) w:=by
 refine ⟨_,by simp [resolve,hy,Deferred.ofValue];rfl,?_⟩
 simp [invoke,OU pQ,Act.eval]
theorem aJj {N:Nat} {g:Operand} {ps:Array Tmp} {nt body:Code} {ls:List Nat} {K:ae->Prop} {f:Nat->Value} (bc:kF g=true)
  (hi:Bu P (ev f g) ls (ls.map f) ⟨N,ps,nt,body⟩ h K):∃h',jr P N true (.rangeFunc g ps nt body) f h .normal f h'/\K h':=by
 unfold Bu at hi
 split at hi
 ·rename_i F first cap hx
  obtain ⟨pQ,v,h',tz,⟨c',ls',kX,dE⟩,hk⟩:=hi
  refine ⟨_,?_,hk⟩
  intro S hS B ρ a w R
  obtain rfl:=hS rfl
  refine wpIn_rangeFunc λfn _=>?_
  obtain ⟨H0,T0⟩:=R.heap.alloc (.deferred (some []))
  have nG:(w.alloc (.deferred (some []))).heap.size=w.heap.size+1:=World.size_alloc _ _
  have nb:=kJ.alloc (w.alloc (.deferred (some []))) (.loop { state:=.ready,pending:=none,fn,tmps:=a.tmps,params:=ps,assign:=nt,body,defers:=w.heap.size })
  obtain ⟨H1,T1⟩:=H0.new (h₀:=h) (o:=.loop ⟨N,ps,nt,body⟩ ls (ls.map f)) (r:=⟨w.heap.size+1,0,0,P.cellsOf 0,0⟩) nb nG.symm rfl rfl (λ_=>.inl rfl)
   ⟨_,by rw [<-nG];exact nb.new,rfl,rfl,rfl,rfl,rfl,R.size,λt=>by
    rcases Jc f ls t with e | e
    ·rw [e];exact (R.tmp t).mono (bk.vE R.heap.none)
    ·rw [e];exact .any _⟩
  have hr:=R.ev bc
  rw [hx] at hr
  generalize hy:a.eval g=y at hr
  cases hr with
  | func _ s1 s2 r1 r2=>
   rename_i Pw OV
   obtain ⟨d,aBt,aA4⟩:=aKb (w:=((w.alloc (.deferred (some []))).alloc (.loop { state:=.ready,pending:=none,fn,tmps:=a.tmps,params:=ps,assign:=nt,body,defers:=w.heap.size }))) pQ a g hy (w.heap.size+1)
   refine ⟨_,_,_,d,_,F,_,_,run_enterLoop_outer fn a.tmps ps nt body,aBt,λ_ _=>trivial,aA4,λh=>(by cases h),?_⟩
   have hle:=bk.vE (r:=⟨w.heap.size+1,0,0,P.cellsOf 0,0⟩) R.heap.none
   have tu:dw (ρ.add h.length ⟨w.heap.size+1,0,0,P.cellsOf 0,0⟩) (first.toList++[.func (.yield h.length) #[] #[]]++cap.toList) (Pw++#[Value.func (.yield (w.heap.size+1)) #[] #[]]++OV).toList:=by
    have q1:=(dw.zK s1 r1).mono hle
    have q3:=(dw.zK s2 r2).mono hle
    have q2:dw (ρ.add h.length ⟨w.heap.size+1,0,0,P.cellsOf 0,0⟩) [.func (.yield h.length) #[] #[]] [.func (.yield (w.heap.size+1)) #[] #[]]:=
     .cons (aK.yield (i:=h.length) (r:=⟨w.heap.size+1,0,0,P.cellsOf 0,0⟩) (by simp [bk.add])) .nil
    simpa using (q1.append q2).append q3
   refine (acZ (tz _ _ _ tu H1) none _).mono ?_
   rintro e w3 ⟨v',aN,rfl,hv,H3,T3⟩
   have QV:aN h.length=some ⟨w.heap.size+1,0,0,P.cellsOf 0,0⟩:=T3.ext _ _ (by simp [bk.add])
   obtain ⟨o,ho,tM⟩:=H3.obj _ _ QV
   rw [dE] at ho
   cases ho
   obtain ⟨rec,g1,g2,g3,g4,g5,g6,g7,g8⟩:=tM
   have gN:=run_endLoop (P:=P) g1 (by rw [g2];decide)
   refine ⟨_,_,gN,?_⟩
   split
   rotate_left
   ·rename_i c hc;rw [g3] at hc;cases hc
   have TT:=(T0.trans (T1.trans T3))
   have Hk:=H3.kill h.length
   have aBo:bN P aN (h'.set h.length .dead) (w3.putObj (w.heap.size+1) (.loop { rec with state:=.exhausted })):=by
    refine Hk.put ?_ _
    intro j s hj hs CP
    obtain ⟨c,_,_,hc⟩:=Hk.aB7 g1 hj hs CP
    have bY:j≠h.length:=by
     rintro rfl
     rw [getElem?_set_self (H3.lt QV)] at hc
     cases hc
    rw [getElem?_set_ne (Ne.symm bY)] at hc
    exact bY (H3.inj _ _ _ _ hj QV hs (.inr (.inr (.inl ⟨_,_,_,hc⟩))) ⟨_,dE,by simp⟩)
   have TL:=TT.late (l:=w.heap.size+1) (by omega) (.loop { rec with state:=.exhausted }) h.length
   refine ⟨rfl,aN,⟨R.size,?_,λt=>(R.tmp t).mono TL.ext,aBo⟩,TL⟩
   have hD:(w3.putObj (w.heap.size+1) (.loop { rec with state:=.exhausted })).heap[w.heap.size]?=some (.deferred (some [])):=by
    rw [DM (by omega)]
    have e1:(w.alloc (.deferred (some []))).heap[w.heap.size]?=some (.deferred (some [])):=World.alloc_heap_new _ _
    have e2:=nb.old (k:=w.heap.size) (by omega)
    rw [T3.kY _ (by rw [nb.size];omega) ?_,e2,e1]
    intro j s hj hs hm
    exact H1.RP (e2.trans e1) hj hs hm.live
   refine ⟨⟨w.heap.size,rfl,marks.base R.defers,hD,?_⟩,marks.tr R.heap TL R.defers⟩
   intro d' nA he
   obtain ⟨D,e1,e2⟩:=marks.lt R.defers d' nA
   rw [e1] at he
   have:=aC3 he
   omega
 ·exact hi.elim
end
end
section
section
variable {P : Program} {N : Nat}
theorem aud {a:nj} {g g':Operand->Value} (h:∀x∈a.jk,g x=g' x):mj a g=mj a g':=by
 cases a with
 | alloc e zs=>rfl
 | oa e n zs ps=>
  simp only [mj]
  rw [JF (ps:=ps) h]
 | make e b zs l c=>
  simp only [nj.jk,mem_cons,List.not_mem_nil,or_false,forall_eq_or_imp,forall_eq] at h
  simp only [mj,h.1,h.2]
 | pD g=>rfl
theorem aue {a:nj} {g:Operand->Value} {V:Nat->Value} {o:az} (h:mj a g=some (V,o)) {ρ aN:bk} {i j:Nat} {v':Value} (e:aN j=ρ i) (hv:aK ρ (V i) v'):aK aN (V j) v':=by
 have ptr:V=(λi=>.pointer (some ⟨i,0,none⟩))->aK aN (V j) v':=by
  rintro rfl
  cases hv with
  | ptr hr=>exact .ptr (by rw [e];exact hr)
 have jx:∀t n,V=(λi=>sl t i 0 n)->aK aN (V j) v':=by
  rintro t n rfl
  cases hv with
  | slice hr a b c d ek=>exact .slice (by rw [e];exact hr) a b c d ek
 have mp:V=(λi=>.map (some i))->aK aN (V j) v':=by
  rintro rfl
  cases hv with
  | map hr=>exact .map (by rw [e];exact hr)
 cases a with
 | pD g=>simp [mj] at h;exact mp h.1.symm
 | alloc t zs=>simp [mj] at h;exact ptr h.1.symm
 | oa t n zs ps=>simp only [mj,Option.map_eq_some_iff,Prod.mk.injEq] at h;obtain ⟨_,_,h1,_⟩:=h;exact jx t n h1.symm
 | make t b zs l c=>
  simp only [mj] at h
  split at h
  ·split at h
   ·simp at h;exact jx t _ h.1.symm
   ·cases h
  ·cases h
theorem Pp {i:Nat} {o:az} {u:Value} (h:mN i o=some u):(∃e xs,o=.arr e xs/\(∀x∈xs,qz i x=true)/\u=.agg (.int .i64 e::xs).toArray)∨∃g,o=.jQ g 0 []/\u=.tuple #[Cw g]:=by
 unfold mN at h
 split at h
 ·rename_i e xs
  split at h
  ·rename_i hx
   rw [all_eq_true] at hx
   injection h with h
   exact .inl ⟨e,xs,rfl,hx,h.symm⟩
  ·cases h
 ·rename_i g c es
  split at h
  ·rename_i hc
   obtain ⟨rfl,hc⟩:=hc
   rw [List.isEmpty_iff] at hc
   subst hc
   injection h with h
   exact .inr ⟨g,rfl,h.symm⟩
  ·cases h
 ·cases h
theorem aAt {g g':jc} (h:Cw g=Cw g'):g=g':=by
 cases g <;> cases g' <;> simp [Cw] at h <;> first | rfl | (subst h;rfl) | (obtain ⟨rfl,h⟩:=h;rw [Int.ofNat.inj h]) | (have:=Int.ofNat.inj h.2;rw [h.1,this])
theorem az8 {i:Nat} {o o':az} {u:Value} (h:mN i o=some u) (h':mN i o'=some u):o=o':=by
 rcases Pp h with ⟨e,xs,rfl,_,h1⟩ | ⟨g,rfl,h1⟩ <;> rcases Pp h' with ⟨e',iA,rfl,_,h2⟩ | ⟨g',rfl,h2⟩
 ·rw [h1] at h2
  simp at h2
  obtain ⟨h3,h4⟩:=h2
  have PQ:e=e':=Int.ofNat.inj h3
  rw [PQ,h4]
 ·rw [h1] at h2;cases h2
 ·rw [h1] at h2;cases h2
 ·rw [h1] at h2
  simp at h2
  rw [aAt h2]
theorem qz.rel {ρ aN:bk} {i:Nat} {v v':Value} (h:qz i v=true) (hle:∀k,k<i->∀r,ρ k=some r->aN k=some r) (hv:aK ρ v v'):aK aN v v':=by
 unfold qz at h
 rw [or_eq_true] at h
 rcases h with h | h
 ·exact Du.rel h hv
 ·split at h
  ·have hk:=of_decide_eq_true h
   cases hv with
   | slice hr a b c d ek=>exact .slice (hle _ hk _ hr) a b c d ek
  ·cases h
theorem oO.qz {ρ aN:bk} {w:World} {r:RI} {o:az} {i:Nat} (hx:(mN i o).isSome=true) (hle:∀k,k<i->∀r,ρ k=some r->aN k=some r) (h:oO ρ w r o):oO aN w r o:=by
 obtain ⟨u,hu⟩:=Option.isSome_iff_exists.1 hx
 rcases Pp hu with ⟨e,xs,rfl,hx,_⟩ | ⟨g,rfl,_⟩
 ·obtain ⟨h1,h0,c,h2,h3,h4⟩:=h
  refine ⟨h1,h0,c,h2,h3,λj x hj=>?_⟩
  obtain ⟨c1,y,hy,hr⟩:=h4 j x hj
  exact ⟨c1,y,hy,Go.Sim.qz.rel (hx x (List.mem_of_getElem? hj)) hle hr⟩
 ·obtain ⟨h0,bn,h1,h2,h3⟩:=h
  exact ⟨h0,bn,h1,h2,λj b k v hj=>by simp at hj⟩
theorem bN.take {ρ aN:bk} {h:ae} {w w':World} {o:az} {p:Nat} (R:bN P ρ h w) (hp:h[p]?=some o) (hx:(mN p o).isSome=true) (hn:ρ p=Option.none)
  (H':bN P aN (h++[o]) w') (T:Tr ρ h w aN (h++[o]) w'):bN P (λk=>if k=p then aN h.length else ρ k) h w':=by
 have oD:=(cm hp).1
 have new:(h++[o])[h.length]?=some o:=by simp
 have old:∀k,k<h.length->(h++[o])[k]?=h[k]?:=λk hk=>getElem?_append_left hk
 have hle:ρ.le λk=>if k=p then aN h.length else ρ k:=by
  intro k r hr
  have:k≠p:=by rintro rfl;rw [hn] at hr;cases hr
  simp [this,hr]
 have mt:∀k,k<h.length->(fB h k↔fB (h++[o]) k):=λk hk=>by unfold fB;rw [old k hk]
 have IM:∀k,k<h.length->(jH h k↔jH (h++[o]) k):=λk hk=>by unfold jH;rw [old k hk]
 have back:∀k,k<p->∀r,aN k=some r->(λk=>if k=p then aN h.length else ρ k) k=some r:=by
  intro k hk r hr
  have bY:k≠p:=by omega
  simp only [if_neg bY]
  cases hq:ρ k with
  | none=>
   have:=(T.fresh k r hr hq).1
   omega
  | some r'=>
   have:=T.ext k r' hq
   rw [hr] at this
   exact this.symm
 have aDe:fB h p↔fB (h++[o]) h.length:=by unfold fB;rw [new,hp]
 have aCU:jH h p↔jH (h++[o]) h.length:=by unfold jH;rw [new,hp]
 refine ⟨?_,?_,?_⟩
 ·intro k r hr
  by_cases hk:k=p
  ·subst hk
   simp only [if_true] at hr
   obtain ⟨o',fU,yP⟩:=H'.obj _ r hr
   rw [new] at fU
   cases fU
   exact ⟨_,hp,oO.qz hx back yP⟩
  ·simp only [if_neg hk] at hr
   obtain ⟨o',fU,yP⟩:=R.obj k r hr
   obtain ⟨o2,u9,QC⟩:=H'.obj k r (T.ext k r hr)
   rw [old k (R.lt hr),fU] at u9
   cases u9
   exact ⟨o',fU,(yP.down T.ext QC).mono hle rfl⟩
 ·intro a b r s ha hb yQ hm hl
  by_cases ea:a=p <;> by_cases eb:b=p
  ·omega
  ·subst ea
   simp only [if_true] at ha
   simp only [if_neg eb] at hb
   have CD:=R.lt hb
   have:=H'.inj h.length b r s ha (T.ext b s hb) yQ (aDe.1 hm) ((IM b CD).1 hl)
   omega
  ·subst eb
   simp only [if_true] at hb
   simp only [if_neg ea] at ha
   have yq:=R.lt ha
   have:=H'.inj a h.length r s (T.ext a r ha) hb yQ ((mt a yq).1 hm) (aCU.1 hl)
   omega
  ·simp only [if_neg ea] at ha
   simp only [if_neg eb] at hb
   exact H'.inj a b r s (T.ext a r ha) (T.ext b s hb) yQ ((mt a (R.lt ha)).1 hm) ((IM b (R.lt hb)).1 hl)
 ·intro k r hr
  by_cases hk:k=p
  ·subst hk;simp only [if_true] at hr;exact H'.esz _ r hr
  ·simp only [if_neg hk] at hr;exact R.esz k r hr
theorem Tr.take {zZ ρ aN:bk} {hb h:ae} {wb w w':World} {o:az} {p:Nat} (TB:Tr zZ hb wb ρ h w) (hpb:hb.length<=p) (hn:ρ p=Option.none) (T:Tr ρ h w aN (h++[o]) w'):
  Tr zZ hb wb (λk=>if k=p then aN h.length else ρ k) h w':=by
 have TT:=TB.trans T
 exact {
  ext:=by
   intro k r hr
   have:=TB.ext k r hr
   have hk:k≠p:=by rintro rfl;rw [hn] at this;cases this
   simp [hk,this]
  len:=TB.len
  mo:=TB.mo
  kinds:=TB.kinds
  fresh:=by
   intro k r hr rZ
   by_cases hk:k=p
   ·subst hk
    simp only [if_true] at hr
    have hbn:zZ h.length=none:=by
     cases hq:zZ h.length with
     | none=>rfl
     | some q=>have:=TB.mo _ _ hq;have:=TB.len;omega
    exact ⟨hpb,(TT.fresh _ r hr hbn).2⟩
   ·simp only [if_neg hk] at hr
    exact TB.fresh k r hr rZ
  kN:=TT.kN
  kY:=TT.kY
  os:=TT.os
  tape:=TT.tape
  output:=TT.output
  drawn:=TT.drawn }
theorem AH {l:List dQ} {F:Nat->Nat->Value} {H:Nat->ae} {V:Nat->Value} (T:Trace P l 0 F H V) {q:Nat} {d:dQ} {a:nj} (hq:l[q]?=some d) (ho:d.op.op=.e (.fl a)) (hg:d.op.guard=none):
  ∃Vf o,mj a (ev (F q))=some (Vf,o)/\V q=Vf (H q).length/\H (q+1)=H q++[o]/\(mN (H q).length o).isSome=true/\eA (H (q+1)) (V q)=mN (H q).length o/\
   ∀e' oe,l[e']?=some oe->oe.op.op.eQ=true->q<e'->oe.pre.testBit q=false->eA (H (e'+1)) (V q)=mN (H q).length o:=by
 have hw:jJ d.op.guard (F (0+q))=true:=by rw [hg];rfl
 have hy:=T.yes q d hq hw
 obtain ⟨u,u1,u2⟩:=T.flo q d a hq ho hw
 simp only [zero_add] at hy u1 u2
 rw [ho] at hy
 simp only [eY,pE,afy] at hy
 cases yq:mj a (ev (F q)) with
 | none=>rw [yq] at hy;exact hy.elim
 | some p=>
  obtain ⟨Vf,o⟩:=p
  rw [yq] at hy
  simp only [map_some] at hy
  obtain ⟨h1,h2⟩:=hy
  have iG:=NI yq (H q).length
  rw [h1] at iG
  have CH:eA (H (q+1)) (V q)=mN (H q).length o:=by
   unfold eA
   rw [iG,<-h2]
   simp
  rw [CH] at u1
  exact ⟨Vf,o,rfl,h1.symm,h2.symm,by rw [u1];rfl,CH,λe' oe he hE aw hp=>(u2 e' oe he hE aw hp).trans u1.symm⟩
def LG (l:List dQ) (S:List Nat) (m:Nat):Prop:=∀e oe,l[e]?=some oe->oe.op.op.eQ=true->jG oe=false->(e∈S↔e<m)
theorem yZ {o:dQ}:jG o=true↔∃a,o.op.op=.e (.fl a):=by
 unfold jG
 constructor
 ·intro h
  split at h
  ·rename_i a ha;exact ⟨a,ha⟩
  ·cases h
 ·rintro ⟨a,ha⟩;rw [ha]
structure Laid (P:Program) (N:Nat) (ops:Array Oper) (l:List dQ) (perm:Nat->Nat) (mF:Nat):Prop where
 len:l.length=ops.size
 lt:∀q,q<ops.size->perm q<ops.size
 inj:∀q k,q<ops.size->k<ops.size->perm q=perm k->q=k
 sur:∀j,j<ops.size->∃q,q<ops.size/\perm q=j
 comp:∀q o d,ops[perm q]?=some o->l[q]?=some d->∃x,ya P N ops o=some x/\x.dst=d.op.dst/\x.guard=d.op.guard/\tmpsOf x.op.jk=tmpsOf d.op.op.jk/\((jG d=false/\x.op=d.op.op)∨∃a,x.op=.e a.iz/\d.op.op=.e (.fl a)/\d.op.guard=none)
 pre:∀q d,l[q]?=some d->∀k,k<ops.size->d.pre.testBit k=((kC (ops.toList.map gq) []).getD (perm q) 0).testBit (perm k)
 back:∀j e,e∈(ops.toList.map gq).getD j []->e<j
 DJ:∀i j oi oj,l[i]?=some oi->l[j]?=some oj->Br oj j oi i=true
 head:mF<=l.length
 low:∀q d,l[q]?=some d->q<mF->d.op.op.eQ=true->jG d=true
 high:∀q d,l[q]?=some d->mF<=q->jG d=false
theorem amE {oi oj:dQ} {i j t:Nat} (h:Br oj j oi i=true) (bY:i≠j) (hd:oi.op.dst=some t) (ht:ue oj t=true):(if i<j then oj.pre.testBit i else oi.pre.testBit j)=true:=by
 unfold Br at h
 rw [hd] at h
 simp only [and_eq_true,or_eq_true,beq_iff_eq,ht,Bool.not_true,Bool.false_eq_true,false_or] at h
 rcases h.1 with h | h
 ·exact absurd h bY
 ·exact h
theorem Uj {oi oj:dQ} {i j:Nat} (h:Br oj j oi i=true) (aw:i<j) (hi:oi.op.op.eQ=true) (hj:oj.op.op.eQ=true) (fi:jG oi=false) (fj:jG oj=false):oj.pre.testBit i=true:=by
 unfold Br at h
 simp only [and_eq_true,aw,decide_true,hi,hj,fi,fj,Bool.and_self,Bool.not_true,Bool.not_false,Bool.false_or] at h
 exact h.2
theorem wJ {ops:Array Oper} {l:List dQ} {perm:Nat->Nat} {mF:Nat} (L:Laid P N ops l perm mF) (nV:∀(q:Nat) (d:dQ),l[q]?=some d->jG d=true->d.op.guard=none) {F:Nat->Nat->Value} {H:Nat->ae} {V:Nat->Value} (T:Trace P l 0 F H V) {k:Nat}:∀(d:Nat),k+d<=mF->∃os,H (k+d)=H k++os
 | 0,_=>⟨[],by simp⟩
 | d+1,hd=>by
  obtain ⟨os,nD⟩:=wJ L nV T (k:=k) d (by omega)
  have aw:k+d<l.length:=by have:=L.head;omega
  have dE:l[k+d]?=some l[k+d]:=getElem?_eq_getElem aw
  rw [show k+(d+1)=k+d+1 by omega]
  cases hE:l[k+d].op.op.eQ with
  | true=>
   have hf:=L.low (k+d) _ dE (by omega) hE
   obtain ⟨a,ha⟩:=yZ.1 hf
   obtain ⟨_,oo,_,_,h3,_⟩:=AH T dE ha (nV _ _ dE hf)
   exact ⟨os++[oo],by rw [h3,nD];simp⟩
  | false=>
   have:=KD T (i:=k+d) 1 (by omega) (λe oe h1 h2 h3=>by
    have:e=k+d:=by omega
    subst this
    rw [dE] at h1
    cases h1
    rw [hE] at h2
    cases h2)
   exact ⟨os,by rw [this,nD]⟩
theorem azz {ops:Array Oper} {l:List dQ} {perm:Nat->Nat} {mF:Nat} (L:Laid P N ops l perm mF) (nV:∀(q:Nat) (d:dQ),l[q]?=some d->jG d=true->d.op.guard=none) {F:Nat->Nat->Value} {H:Nat->ae} {V:Nat->Value} (T:Trace P l 0 F H V)
  {zZ:bk} {wb:World} {S r:List Nat} (hv:xP ops S r):
  BH (ops.toList.map gq) S->(∀i∈S,i<ops.size)->∀Sp,(∀q,q∈Sp↔q<ops.size/\perm q∈S)->∀m,mF<=m->m<=l.length->LG l Sp m->∀S' B ρ a w,gL P N B ρ (fF V Sp l 0 (F 0)) (H m) a w->(H mF).length<=(H m).length->
   (∀(q:Nat) (d:dQ),l[q]?=some d->jG d=true->q∉Sp->ρ (H q).length=none/\eA (H m) (V q)=eA (H (q+1)) (V q))->Tr zZ (H 0) wb ρ (H m) w->∀Q:Exit->Act->World->Prop,
   (∀aN a' w',gL P N B aN (F l.length) (H l.length) a' w'->Tr zZ (H 0) wb aN (H l.length) w'->Q .normal a' w')->wpOpsIn (FR S') 0 P ops Q r a w:=by
 induction hv with
 | nil gR=>
  rename_i S
  intro gM aw Sp AI m CQ hm ju S' B ρ a w R _ _ TB Q hq
  have fG:∀q,q<l.length->q∈Sp:=λq hq=>(AI q).2 ⟨by rw [<-L.len];exact hq,gR _ (L.lt q (by rw [<-L.len];exact hq))⟩
  have hF:fF V Sp l 0 (F 0)=F l.length:=by
   have h1:=Cv T l 0 (List.range l.length) l.length (λk=>by simp) (λk=>by simp) (by omega) (by omega)
   rw [<-h1]
   funext t
   refine wB (λk d hk _=>?_) rfl
   have iN:=(cm hk).1
   simp only [zero_add,mem_range]
   exact ⟨λ_=>iN,λ_=>fG k iN⟩
  have hH:H l.length=H m:=by
   refine qL T hm (le_refl _) ?_
   rintro e oe he hE ⟨h1,h2⟩
   have:=(ju e oe he hE (L.high e oe he (by omega))).1 (fG e h2)
   omega
  rw [hF] at R
  simp only [wpOpsIn]
  exact hq ρ a w (by rw [hH];exact R) (by rw [hH];exact TB)
 | cons ve u7 yB qm ih=>
  rename_i S j0 o r
  intro gM aw Sp AI m CQ hm ju S' B ρ a w R hlen kD TB Q hq
  have aeO:j0<ops.size:=(Array.getElem?_eq_some_iff.1 ve).1
  obtain ⟨j,kQ,tI⟩:=L.sur j0 aeO
  have mC:j<l.length:=by rw [L.len];exact kQ
  have dE:l[j]?=some (l[j]'mC):=getElem?_eq_getElem _
  generalize hd0:l[j]'mC=d at dE
  obtain ⟨x,hc,x1,x2,x3,x4⟩:=L.comp j o d (by rw [tI];exact ve) dE
  obtain ⟨q1,q2,q3,q4,q5⟩:=Ho hc
  rw [x2] at q4
  rw [x1] at q5
  have Qq:j∉Sp:=λh=>u7 (by rw [<-tI];exact ((AI j).1 h).2)
  have kP:(ops.toList.map gq).getD j0 []=gq o:=by
   simp [getD,ve]
  have tB:BH (ops.toList.map gq) (j0::S):=by
   intro k e hk he
   rcases mem_cons.1 hk with rfl | hk
   ·rw [kP] at he
    exact mem_cons_of_mem _ (yB e he)
   ·exact mem_cons_of_mem _ (gM k e hk he)
  have CA:∀q,q∈j::Sp↔q<ops.size/\perm q∈j0::S:=by
   intro q
   rw [mem_cons,mem_cons,AI]
   constructor
   ·rintro (rfl | ⟨h1,h2⟩)
    ·exact ⟨kQ,.inl tI⟩
    ·exact ⟨h1,.inr h2⟩
   ·rintro ⟨h1,h2 | h2⟩
    ·exact .inl (L.inj q j h1 kQ (h2.trans tI.symm))
    ·exact .inr ⟨h1,h2⟩
  have before:∀i,i<ops.size->d.pre.testBit i=true->i∈Sp:=by
   intro i hi hb
   rw [L.pre j d dE i hi,tI] at hb
   exact (AI i).2 ⟨hi,JK gM L.back j0 (perm i) (by rw [kP];exact yB) hb⟩
  have behind:∀k dk,l[k]?=some dk->dk.pre.testBit j=true->k∉Sp:=by
   intro k dk hk hb CL
   have eW:k<ops.size:=by rw [<-L.len];exact (cm hk).1
   rw [L.pre k dk hk j kQ,tI] at hb
   have aA9:=((AI k).1 CL).2
   exact u7 (JK gM L.back (perm k) j0 (λe he=>gM (perm k) e aA9 he) hb)
  have oH:∀{k dk},l[k]?=some dk->k<ops.size:=λhk=>by rw [<-L.len];exact (cm hk).1
  have slot:∀t,ue d t=true->fF V Sp l 0 (F 0) t=F j t:=by
   intro t ht
   have h1:=Cv T l 0 (List.range j) j (λk=>by simp) (λk=>by simp) (by omega) (by omega)
   rw [<-h1]
   refine wB (λk dk hk yA=>?_) rfl
   simp only [zero_add,mem_range]
   by_cases lT:k=j
   ·subst lT
    exact ⟨λh=>absurd h Qq,λh=>absurd h (Nat.lt_irrefl _)⟩
   ·have hp:=amE (L.DJ k j dk d hk dE) lT yA ht
    by_cases oA:k<j
    ·rw [if_pos oA] at hp
     exact ⟨λ_=>oA,λ_=>before k (oH hk) hp⟩
    ·rw [if_neg oA] at hp
     exact ⟨λh=>absurd h (behind k dk hk hp),λh=>absurd h oA⟩
  have yO:∀t∈d.op.reads,fF V Sp l 0 (F 0) t=F j t:=λt ht=>slot t (by simp [ue,ht])
  have AT:∀t∈tmpsOf d.op.op.jk,fF V Sp l 0 (F 0) t=F j t:=λt ht=>yO t (by simp [jK.reads,ht])
  have De:jJ d.op.guard (fF V Sp l 0 (F 0))=jJ d.op.guard (F j):=by
   cases hg:d.op.guard with
   | none=>rfl
   | some sb=>
    obtain ⟨s,b⟩:=sb
    simp only [jJ]
    rw [yO s (by simp [jK.reads,hg])]
  have P8:rV d.op.guard (fF V Sp l 0 (F 0)):=by
   have:=T.PL j d dE
   simp only [zero_add] at this
   cases hg:d.op.guard with
   | none=>trivial
   | some sb=>
    obtain ⟨s,b⟩:=sb
    rw [hg] at this
    simp only [rV] at this⊢
    rw [yO s (by simp [jK.reads,hg])]
    exact this
  have Df:=Kn q4 R P8
  have kL:fF V (j::Sp) l 0 (F 0)=fW (fF V Sp l 0 (F 0)) o.dst (V j):=by
   rw [<-q5]
   funext t
   by_cases rY:d.op.dst=some t
   ·have h1:=PD (V:=V) (S:=j::Sp) (l:=l) (i:=0) (f:=F 0) (k:=j) (d:=d) dE rY (by simp) (by
     intro k' d' fN nA oA
     have hp:=amE (L.DJ k' j d' d fN dE) (by omega) nA (by simp [ue,rY])
     rw [if_neg (by omega)] at hp
     have:=behind k' d' fN hp
     simp only [zero_add,mem_cons,not_or]
     exact ⟨by omega,this⟩)
    rw [h1]
    simp [rY,fW,uf]
   ·have h1:fF V (j::Sp) l 0 (F 0) t=fF V Sp l 0 (F 0) t:=by
     refine wB (λk dk hk yA=>?_) rfl
     have lT:k≠j:=by
      rintro rfl
      rw [dE] at hk
      cases hk
      exact rY yA
     simp [lT]
    rw [h1]
    cases wH:d.op.dst with
    | none=>rfl
    | some y=>
     have:t≠y:=by rintro rfl;exact rY wH
     simp [fW,uf,this]
  have dR:∀i∈j0::S,i<ops.size:=by
   intro i hi
   rcases mem_cons.1 hi with rfl | hi
   ·exact aeO
   ·exact aw i hi
  -- aMt still to aMo stay wk aM5 are
  have DO:∀q dq,l[q]?=some dq->jG dq=true->q<mF:=by
   intro q dq hq hf
   apply byContradiction
   intro h
   rw [L.high q dq hq (by omega)] at hf
   cases hf
  have aJh:∀q dq,l[q]?=some dq->jG dq=true->(H q).length<(H mF).length:=by
   intro q dq hq hf
   have hqm:=DO q dq hq hf
   obtain ⟨a,ha⟩:=yZ.1 hf
   obtain ⟨_,oo,_,_,h3,_⟩:=AH T hq ha (nV _ _ hq hf)
   obtain ⟨os,nD⟩:=wJ L nV T (k:=q+1) (mF-(q+1)) (by omega)
   rw [show q+1+(mF-(q+1))=mF by omega,h3] at nD
   rw [nD]
   simp
  have afU:∀{aN:bk} {h':ae} {w':World},Tr ρ (H m) w aN h' w'->∀q dq,l[q]?=some dq->jG dq=true->ρ (H q).length=none->aN (H q).length=none:=by
   intro aN h' w' TT q dq hq hf hn
   cases hr:aN (H q).length with
   | none=>rfl
   | some s=>
    have:=(TT.fresh _ s hr hn).1
    have:=aJh q dq hq hf
    omega
  -- j6 D1,where j6 aDo writes memory
  have D2:d.op.op.eQ=true->jG d=false->mF<=j/\H m=H j/\LG l (j::Sp) (j+1):=by
   intro hE qX
   have CK:mF<=j:=by
    apply byContradiction
    intro h
    rw [L.low j d dE (by omega) hE] at qX
    cases qX
   have qi:m<=j:=by
    apply byContradiction
    intro h
    exact Qq ((ju j d dE hE qX).2 (by omega))
   refine ⟨CK,?_,?_⟩
   ·refine (qL T qi (by omega) ?_).symm
    rintro e oe he mO ⟨h1,h2⟩
    have uV:=L.high e oe he (by omega)
    have hb:=Uj (L.DJ e j oe d he dE) h2 mO hE uV qX
    have:=(ju e oe he mO uV).1 (before e (oH he) hb)
    omega
   ·intro e oe he mO uV
    rcases Nat.lt_trichotomy e j with oA | rfl | wK
    ·have hb:=Uj (L.DJ e j oe d he dE) oA mO hE uV qX
     exact ⟨λ_=>by omega,λ_=>mem_cons_of_mem _ (before e (oH he) hb)⟩
    ·exact ⟨λ_=>by omega,λ_=>by simp⟩
    ·have hb:=Uj (L.DJ j e d oe dE he) wK hE mO qX uV
     have:=behind e oe he hb
     constructor
     ·intro h
      rcases mem_cons.1 h with h | h
      ·omega
      ·exact absurd h this
     ·intro h;omega
  have By:(d.op.op.eQ=false∨jG d=true)->LG l (j::Sp) m:=by
   intro hE e oe he mO uV
   have bY:e≠j:=by
    rintro rfl
    rw [dE] at he
    cases he
    rcases hE with hE | hE
    ·rw [hE] at mO;cases mO
    ·rw [hE] at uV;cases uV
   rw [<-ju e oe he mO uV]
   simp [bY]
  have Dh:=T.yes j d dE
  have jR:=T.no j d dE
  simp only [zero_add] at Dh jR
  simp only [wpOpsIn,ve]
  by_cases hw:jJ d.op.guard (F j)=true
  ·rw [if_pos (by rw [Df,De,hw])]
   have hs:=Dh hw
   rcases x4 with ⟨qX,VA⟩ | ⟨aa,VA,Pf,dg⟩
   ·rw [VA] at q3
    by_cases hE:d.op.op.eQ=true
    ·obtain ⟨e0,e1,e2⟩:=D2 hE qX
     rw [<-J6 AT,<-e1] at hs
     obtain ⟨v,h',st,hv,hh⟩:=Bl (N:=N) q3 q1 hs
     subst hv
     subst hh
     refine st S' B ρ a w R _ _ ?_
     intro aN v' w' vn HH TT
     have R':=R.vK q2 TT vn HH
     rw [<-kL] at R'
     refine ih tB dR (j::Sp) CA (j+1) (by omega) (by omega) e2 S' B aN _ w' R' (Nat.le_trans hlen TT.len) ?_ (TB.trans TT) Q hq
     intro q dq jX hf qk
     have hqS:q∉Sp:=λh=>qk (mem_cons_of_mem _ h)
     obtain ⟨i1,i2⟩:=kD q dq jX hf hqS
     refine ⟨afU TT q dq jX hf i1,?_⟩
     obtain ⟨a',yp⟩:=yZ.1 hf
     obtain ⟨_,oo,_,_,_,_,h5,h6⟩:=AH T jX yp (nV _ _ jX hf)
     rw [h5]
     refine h6 j d dE hE (by have:=DO q dq jX hf;omega) ?_
     cases hb:d.pre.testBit q with
     | false=>rfl
     | true=>exact absurd (before q (oH jX) hb) hqS
    ·have gZ:d.op.op.eQ=false:=by simpa using hE
     -- BA is looked at has one value at this D1 and in j6 aMP order
     have mS:eY P d.op.op (fF V Sp l 0 (F 0)) (H m) λv h'=>v=V j/\h'=H m:=by
      rw [J6 AT]
      cases eO:d.op.op with
      | p po=>
       rw [eO] at hs
       simp only [eY,iI] at hs⊢
       split at hs
       ·exact ⟨hs.1,trivial⟩
       ·exact hs.elim
      | l lo=>
       have AZ:ie lo (ev (F j)) (H j)=some (V j):=by
        rw [eO] at hs
        simp only [eY,iI] at hs
        split at hs
        ·rename_i v hv
         rw [hv,hs.1]
        ·exact hs.elim
       -- from a place at or behind j6 head,to a D1 before it
       have down:mF<=j->m<=j->ie lo (ev (F j)) (H m)=some (V j):=by
        intro CK qi
        by_cases hex:∃e oe,l[e]?=some oe/\oe.op.op.eQ=true/\m<=e/\e<j
        ·have key:∀n,(∃e oe,l[e]?=some oe/\oe.op.op.eQ=true/\m<=e/\e<j/\e<n)->∃e oe,l[e]?=some oe/\oe.op.op.eQ=true/\m<=e/\e<j/\∀e' jY,l[e']?=some jY->jY.op.op.eQ=true->¬(m<=e'/\e'<e):=by
          intro n
          induction n with
          | zero=>rintro ⟨e,oe,_,_,_,_,h⟩;omega
          | succ n vB=>
           rintro ⟨e,oe,h1,h2,h3,h4,h5⟩
           by_cases fO:∃e oe,l[e]?=some oe/\oe.op.op.eQ=true/\m<=e/\e<j/\e<n
           ·exact vB fO
           ·refine ⟨e,oe,h1,h2,h3,h4,?_⟩
            rintro e' jY k1 k2 ⟨k3,k4⟩
            exact fO ⟨e',jY,k1,k2,k3,by omega,by omega⟩
         obtain ⟨e0,zu,g1,g2,g3,g4⟩:=hex
         obtain ⟨e,oe,h1,h2,h3,h4,h5⟩:=key j ⟨e0,zu,g1,g2,g3,g4,g4⟩
         have ym:H e=H m:=qL T h3 (by omega) (λe' jY k1 k2 k3=>h5 e' jY k1 k2 k3)
         rw [<-ym]
         have u4:d.pre.testBit e=false:=by
          cases hb:d.pre.testBit e with
          | false=>rfl
          | true=>
           have:=(ju e oe h1 h2 (L.high e oe h1 (by omega))).1 (before e (oH h1) hb)
           omega
         have:=T.Um e oe j d lo h1 h2 dE eO (by simpa using hw) h4 (by simpa using u4)
         simpa using this
        ·have yo:H j=H m:=qL T qi (by omega) (λe oe h1 h2 h3=>hex ⟨e,oe,h1,h2,h3⟩)
         rw [<-yo]
         exact AZ
       -- to a D1 behind it,from where j6 value is known
       have up:∀b,j<=b->mF<=b->b<=m->ie lo (ev (F j)) (H b)=some (V j)->ie lo (ev (F j)) (H m)=some (V j):=by
        intro b hjb hbF PU hbv
        by_cases hex:∃e oe,l[e]?=some oe/\oe.op.op.eQ=true/\b<=e/\e<m
        ·have key:∀n,(∃e oe,l[e]?=some oe/\oe.op.op.eQ=true/\b<=e/\e<m/\m<=e+n)->∃e oe,l[e]?=some oe/\oe.op.op.eQ=true/\b<=e/\e<m/\∀e' jY,l[e']?=some jY->jY.op.op.eQ=true->¬(e+1<=e'/\e'<m):=by
          intro n
          induction n with
          | zero=>rintro ⟨e,oe,_,_,_,_,h⟩;omega
          | succ n vB=>
           rintro ⟨e,oe,h1,h2,h3,h4,h5⟩
           by_cases fO:∃e oe,l[e]?=some oe/\oe.op.op.eQ=true/\b<=e/\e<m/\m<=e+n
           ·exact vB fO
           ·refine ⟨e,oe,h1,h2,h3,h4,?_⟩
            rintro e' jY k1 k2 ⟨k3,k4⟩
            exact fO ⟨e',jY,k1,k2,by omega,by omega,by omega⟩
         obtain ⟨e0,zu,g1,g2,g3,g4⟩:=hex
         obtain ⟨e,oe,h1,h2,h3,h4,h5⟩:=key m ⟨e0,zu,g1,g2,g3,g4,by omega⟩
         have bY:e≠j:=by
          rintro rfl
          rw [dE] at h1
          cases h1
          rw [gZ] at h2
          cases h2
         have ym:H m=H (e+1):=qL T (by omega) hm (λe' jY k1 k2 k3=>h5 e' jY k1 k2 k3)
         rw [ym]
         have u4:oe.pre.testBit j=false:=by
          cases hb:oe.pre.testBit j with
          | false=>rfl
          | true=>exact absurd ((ju e oe h1 h2 (L.high e oe h1 (by omega))).2 h4) (behind e oe h1 hb)
         have:=T.PE j d lo e oe dE eO (by simpa using hw) h1 h2 (by omega) (by simpa using u4)
         simpa using this
        ·have yo:H m=H b:=qL T PU hm (λe oe h1 h2 h3=>hex ⟨e,oe,h1,h2,h3⟩)
         rw [yo]
         exact hbv
       have dD:ie lo (ev (F j)) (H m)=some (V j):=by
        by_cases CK:mF<=j
        ·rcases Nat.le_total m j with qi | qi
         ·exact down CK qi
         ·exact up j (le_refl _) CK qi AZ
        ·obtain ⟨os,nD⟩:=wJ L nV T (k:=j) (mF-j) (by omega)
         rw [show j+(mF-j)=mF by omega] at nD
         refine up mF (by omega) (le_refl _) CQ ?_
         rw [nD]
         exact aBX os AZ
       simp [eY,iI,dD]
      | e eo=>rw [eO] at gZ;cases gZ
      | call g args=>rw [eO] at gZ;cases gZ
      | ou x args=>rw [eO] at gZ;cases gZ
     obtain ⟨v,h',st,hv,hh⟩:=Bl (N:=N) q3 q1 mS
     subst hv
     subst hh
     refine st S' B ρ a w R _ _ ?_
     intro aN v' w' vn HH TT
     have R':=R.vK q2 TT vn HH
     rw [<-kL] at R'
     refine ih tB dR (j::Sp) CA m CQ hm (By (.inl gZ)) S' B aN _ w' R' hlen ?_ (TB.trans TT) Q hq
     intro q dq jX hf qk
     obtain ⟨i1,i2⟩:=kD q dq jX hf (λh=>qk (mem_cons_of_mem _ h))
     exact ⟨afU TT q dq jX hf i1,i2⟩
   ·-- a new aMW
    have hf:jG d=true:=yZ.2 ⟨aa,Pf⟩
    obtain ⟨Vf,oo,h1,h2,h3,h4,h5,h6⟩:=AH T dE Pf dg
    obtain ⟨i1,i2⟩:=kD j d dE hf Qq
    have yq:mj aa (ev (fF V Sp l 0 (F 0)))=some (Vf,oo):=by
     rw [<-h1]
     refine aud (Pq λt ht=>AT t ?_)
     rw [Pf]
     exact ht
    have iG:=NI h1 (H j).length
    rw [<-h2] at iG
    have aBf:(H m)[(H j).length]?=some oo:=by
     rw [h5] at i2
     unfold eA at i2
     rw [iG] at i2
     simp only [bind_some] at i2
     cases ho:(H m)[(H j).length]? with
     | none=>
      rw [ho] at i2
      obtain ⟨u,hu⟩:=Option.isSome_iff_exists.1 h4
      rw [hu] at i2
      cases i2
     | some o'=>
      rw [ho] at i2
      obtain ⟨u,CH⟩:=Option.isSome_iff_exists.1 h4
      simp only [bind_some] at i2
      rw [az8 (i2.trans CH) CH]
    have aBE:eY P x.op (fF V Sp l 0 (F 0)) (H m) λv h'=>v=Vf (H m).length/\h'=H m++[oo]:=by
     rw [VA]
     simp only [eY,pE,aBW,afy,yq,map_some]
     exact ⟨trivial,trivial⟩
    obtain ⟨v,h',st,hv,hh⟩:=Bl (N:=N) q3 q1 aBE
    subst hv
    subst hh
    refine st S' B ρ a w R _ _ ?_
    intro aN v' w' vn HH TT
    have HR:=R.heap.take aBf h4 i1 HH TT
    have hle:ρ.le λk=>if k=(H j).length then aN (H m).length else ρ k:=by
     intro k s hk
     have:k≠(H j).length:=by rintro rfl;rw [i1] at hk;cases hk
     simp [this,hk]
    have R1:gL P N B (λk=>if k=(H j).length then aN (H m).length else ρ k) (fF V Sp l 0 (F 0)) (H m) a w':=⟨R.size,marks.tr R.heap TT R.defers,λt=>(R.tmp t).mono hle,HR⟩
    have yR:aK (λk=>if k=(H j).length then aN (H m).length else ρ k) (V j) v':=by
     rw [h2]
     exact aue h1 (by simp) vn
    have R':=R1.vK q2 (Tr.refl HR) yR HR
    rw [<-kL] at R'
    have hjb:(H 0).length<=(H j).length:=by
     obtain ⟨os,nD⟩:=wJ L nV T (k:=0) j (by have:=DO j d dE hf;omega)
     rw [zero_add] at nD
     rw [nD];simp
    refine ih tB dR (j::Sp) CA m CQ hm (By (.inr hf)) S' B _ _ w' R' hlen ?_ (TB.take hjb i1 TT) Q hq
    intro q dq jX P4 qk
    have hqj:q≠j:=λh=>qk (by simp [h])
    obtain ⟨k1,k2⟩:=kD q dq jX P4 (λh=>qk (mem_cons_of_mem _ h))
    refine ⟨?_,k2⟩
    have bY:(H q).length≠(H j).length:=by
     have grow:∀{a b:Nat} {da:dQ},l[a]?=some da->jG da=true->a<b->b<mF->(H a).length<(H b).length:=by
      intro a b da ha hfa gQ hb
      obtain ⟨a',yp⟩:=yZ.1 hfa
      obtain ⟨_,oo',_,_,g3,_⟩:=AH T ha yp (nV _ _ ha hfa)
      obtain ⟨os,nD⟩:=wJ L nV T (k:=a+1) (b-(a+1)) (by omega)
      rw [show a+1+(b-(a+1))=b by omega,g3] at nD
      rw [nD]
      simp
     rcases Nat.lt_or_gt_of_ne hqj with h | h
     ·have:=grow jX P4 h (DO j d dE hf);omega
     ·have:=grow dE hf h (DO q dq jX P4);omega
    simp [bY,k1]
  ·have rh:jJ d.op.guard (F j)=false:=by simpa using hw
   rw [if_neg (by rw [Df,De,rh];simp)]
   obtain ⟨n1,n2⟩:=jR rh
   have R':=R.vK q2 (Tr.refl R.heap) (aK.undef _) R.heap
   rw [n1] at kL
   rw [<-kL] at R'
   have qX:jG d=false:=by
    cases hf:jG d with
    | false=>rfl
    | true=>rw [nV j d dE hf] at rh;cases rh
   by_cases hE:d.op.op.eQ=true
   ·obtain ⟨e0,e1,e2⟩:=D2 hE qX
    have e3:H (j+1)=H m:=by rw [n2,e1]
    refine ⟨λ_ _=>trivial,ih tB dR (j::Sp) CA (j+1) (by omega) (by omega) e2 S' B ρ _ w (by rw [e3];exact R') (by rw [e3];exact hlen) ?_ (by rw [e3];exact TB) Q hq⟩
    intro q dq jX hf qk
    rw [e3]
    exact kD q dq jX hf (λh=>qk (mem_cons_of_mem _ h))
   ·exact ⟨λ_ _=>trivial,ih tB dR (j::Sp) CA m CQ hm (By (.inl (by simpa using hE))) S' B ρ _ w R' hlen (λq dq jX hf qk=>kD q dq jX hf (λh=>qk (mem_cons_of_mem _ h))) TB Q hq⟩
end
end
section
section
variable {P : Program} {N : Nat}
theorem azc {op:Op} {a:nj} (h:jW P op=some (.fl a)):False:=by
 unfold jW at h
 split at h
 all_goals repeat' (split at h)
 all_goals first | (cases h;done) | (simp at h;done) | (simp only [Option.map_eq_some_iff] at h;obtain ⟨_,_,h⟩:=h;cases h;done)
theorem azf {op:Op} {a:nj} (h:wu P op=some (.e (.fl a))):False:=by
 rcases adi h with ⟨po,e,_⟩ | ⟨lo,e,_⟩ | ⟨eo,e,he⟩ | ⟨g,args,at_,_,_,e⟩ | ⟨x,args,at_,_,e⟩
 ·cases e
 ·cases e
 ·cases e;exact azc he
 ·cases e
 ·cases e
theorem adz:∀{l:List Nat},Hw l=true->l.Nodup
 | [],_=>.nil
 | x::xs,h=>by
  simp only [Hw,and_eq_true] at h
  rw [nodup_cons]
  exact ⟨by simpa using h.1,adz h.2⟩
theorem afX {l:List dQ} {fl:List Nat} {p0:List Nat}:∀{perm:List Nat},(∀i∈perm,i<l.length)->∀q:Nat,
  (perm.filterMap λi=>(l[i]?).map λo=>(⟨if fl.contains i then Cr o.op else o.op,IV o.pre p0 0⟩:dQ))[q]?=(perm[q]?).bind λi=>(l[i]?).map λo=>⟨if fl.contains i then Cr o.op else o.op,IV o.pre p0 0⟩
 | [],_,q=>by simp
 | i::perm,h,q=>by
  have gS:i<l.length:=h i (by simp)
  have hi:l[i]?=some l[i]:=getElem?_eq_getElem gS
  rw [List.filterMap_cons,hi]
  simp only [map_some]
  cases q with
  | zero=>simp [hi]
  | succ q=>
   rw [List.getElem?_cons_succ,List.getElem?_cons_succ]
   exact afX (λi hi=>h i (by simp [hi])) q
theorem azd {ops:Array Oper} {l:List dQ} {perm:List Nat} (hc:Hm P N ops=some (l,perm)):P.follows .mixedOrders=true/\xS ops.toList 0=true/\Laid P N ops l (λq=>perm.getD q 0) (tG l)/\∀(q:Nat) (d:dQ),l[q]?=some d->jG d=true->d.op.guard=none:=by
 unfold Hm at hc
 split at hc
 ·rename_i ios Qc
  simp only at hc
  split at hc
  ·rename_i yx
   simp only [Option.some.injEq,Prod.mk.injEq] at hc
   obtain ⟨hl,hp⟩:=hc
   rw [hp] at hl yx
   rw [hl] at yx
   simp only [and_eq_true] at yx
   obtain ⟨⟨CR,rW⟩,bc⟩:=yx
   obtain ⟨g1,g2⟩:=O5 Qc
   have oD:(kC (ops.toList.map gq) []).length=ops.size:=by rw [Hd];simp
   have Qj:ios.length<=(kC (ops.toList.map gq) []).length:=by rw [Hd];simp [g1]
   obtain ⟨z1,z2⟩:=VF Qj
   have hz:(oW ios (kC (ops.toList.map gq) [])).length=ops.size:=by rw [z1,g1];simp
   unfold okF at bc
   simp only [and_eq_true,beq_iff_eq] at bc
   obtain ⟨⟨⟨⟨⟨⟨⟨o1,o2⟩,o3⟩,o4⟩,o5⟩,o6⟩,o7⟩,o8⟩:=bc
   rw [oD] at o1 o2 o4 o7
   rw [all_eq_true] at o4 o5 o6 o7 o8
   have aw:∀i∈perm,i<ops.size:=λi hi=>by simpa using o4 i hi
   have dE:∀q,q<ops.size->perm.getD q 0∈perm:=by
    intro q hq
    have:q<perm.length:=by omega
    rw [List.getD_eq_getElem?_getD,getElem?_eq_getElem this]
    exact List.getElem_mem this
   have oC:=adz o3
   have inj:∀q k,q<ops.size->k<ops.size->perm.getD q 0=perm.getD k 0->q=k:=by
    intro q k hq hk he
    have jX:q<perm.length:=by omega
    have fN:k<perm.length:=by omega
    rw [List.getD_eq_getElem?_getD,List.getD_eq_getElem?_getD,getElem?_eq_getElem jX,getElem?_eq_getElem fN] at he
    simp only [getD_some] at he
    have hp:=List.pairwise_iff_getElem.1 oC
    rcases Nat.lt_trichotomy q k with h | h | h
    ·exact absurd he (hp q k jX fN h)
    ·exact h
    ·exact absurd he.symm (hp k q fN jX h)
   have mem:∀{q d},l[q]?=some d->(d,q)∈l.zipIdx:=λh=>List.mem_zipIdx_iff_getElem?.2 h
   refine ⟨CR,rW,⟨o1,λq hq=>aw _ (dE q hq),inj,?_,?_,?_,?_,?_,Nat.sub_le _ _,?_,?_⟩,?_⟩
   ·intro j hj
    have kl:j∈perm:=by
     apply byContradiction
     intro jR
     have C2:perm ⊆ (List.range ops.size).erase j:=by
      intro x hx
      have QR:x≠j:=by rintro rfl;exact jR hx
      rw [List.mem_erase_of_ne QR]
      exact mem_range.2 (aw x hx)
     have:=I5 oC C2
     rw [List.length_erase_of_mem (mem_range.2 hj),List.length_range] at this
     omega
    obtain ⟨q,hq,e⟩:=List.mem_iff_getElem.1 kl
    exact ⟨q,by omega,by rw [List.getD_eq_getElem?_getD,getElem?_eq_getElem hq,getD_some,e]⟩
   ·intro q o d ho hd
    have qk:q<ops.size:=by rw [<-o1];exact (cm hd).1
    have jX:q<perm.length:=by omega
    have se:=afX (l:=oW ios (kC (ops.toList.map gq) [])) (fl:=PB (oW ios (kC (ops.toList.map gq) []))) (p0:=perm) (perm:=perm) (λi hi=>by rw [hz];exact aw i hi) q
    have qW:=hl
    unfold afW at qW
    rw [qW,hd] at se
    rw [getElem?_eq_getElem jX] at se
    simp only [bind_some] at se
    have hpq:perm.getD q 0=perm[q]:=by rw [List.getD_eq_getElem?_getD,getElem?_eq_getElem jX];rfl
    rw [hpq] at ho
    cases QT:(oW ios (kC (ops.toList.map gq) []))[perm[q]]? with
    | none=>rw [QT] at se;cases se
    | some dz=>
     rw [QT] at se
     simp only [map_some,Option.some.injEq] at se
     have hx:=(z2 _ _ QT).1
     have pQ:=g2 _ o dz.op (by simpa using ho) hx
     obtain ⟨c1,c2,c3,c4,c5⟩:=Ho pQ
     have aDh:∀a,dz.op.op≠ .e (.fl a):=by
      intro a e
      rw [e] at c3
      exact azf c3
     refine ⟨dz.op,pQ,?_⟩
     have plain:d.op=dz.op->dz.op.dst=d.op.dst/\dz.op.guard=d.op.guard/\tmpsOf dz.op.op.jk=tmpsOf d.op.op.jk/\((jG d=false/\dz.op.op=d.op.op)∨∃a,dz.op.op=.e a.iz/\d.op.op=.e (.fl a)/\d.op.guard=none):=by
      intro e
      refine ⟨by rw [e],by rw [e],by rw [e],.inl ⟨?_,by rw [e]⟩⟩
      cases hf:jG d with
      | false=>rfl
      | true=>
       obtain ⟨a,ha⟩:=yZ.1 hf
       rw [e] at ha
       exact absurd ha (aDh a)
     by_cases kD:(PB (oW ios (kC (ops.toList.map gq) []))).contains perm[q]=true
     ·rw [if_pos kD] at se
      have tE:d.op=Cr dz.op:=by rw [se]
      unfold Cr at tE
      split at tE
      ·rename_i eo he hg
       split at tE
       ·rename_i a ha
        refine ⟨by rw [tE],by rw [tE,hg],?_,.inr ⟨a,by rw [he,anU ha],by rw [tE],by rw [tE]⟩⟩
        rw [tE,he,<-anU ha]
        cases a <;> rfl
       ·exact plain tE
      ·exact plain tE
     ·rw [if_neg kD] at se
      exact plain (by rw [se])
   ·intro q d hd k hk
    have h1:=o7 (d,q) (mem hd)
    rw [all_eq_true] at h1
    have:=h1 k (mem_range.2 hk)
    simpa using this
   ·intro j e he
    by_cases hj:j<ops.size
    ·have hg:ops.toList[j]?=some ops[j]:=by simp [hj]
     have:(ops.toList.map gq).getD j []=gq ops[j]:=by simp [getD,hj]
     rw [this] at he
     have:=FD rW j ops[j] hg e he
     omega
    ·have:(ops.toList.map gq).getD j []=[]:=by simp [getD,le_of_not_lt hj]
     rw [this] at he
     simp at he
   ·intro i j oi oj hi hj
    have h1:=o5 (oj,j) (mem hj)
    rw [all_eq_true] at h1
    exact h1 (oi,i) (mem hi)
   ·intro q d hd hq hE
    have h1:=o6 (d,q) (mem hd)
    simp only at h1
    rw [if_pos hq,hE] at h1
    simpa using h1
   ·intro q d hd hq
    have h1:=o6 (d,q) (mem hd)
    simp only at h1
    rw [if_neg (by omega)] at h1
    simpa using h1
   ·intro q d hd hf
    have h1:=o8 (d,q) (mem hd)
    simp only [hf,Bool.not_true,Bool.false_or,Option.isNone_iff_eq_none] at h1
    exact h1
  ·cases hc
 ·cases hc
theorem aBR {out:Bool} {id:Nat} {ops:Array Oper} {l:List dQ} {perm:List Nat} {K:(Nat->Value)->ae->Prop} {f:Nat->Value} {h:ae} (hc:Hm P N ops=some (l,perm)) (hi:lW P l 0 [] [] K f h):
  ∃f' h',jr P N out (.region id ops true) f h .normal f' h'/\K f' h':=by
 obtain ⟨CR,rW,L,nV⟩:=azd hc
 obtain ⟨F,H,V,f1,f2,f3,T,_,_⟩:=Q4 hi
 simp only [zero_add] at f3
 refine ⟨F l.length,H l.length,?_,f3⟩
 intro S hS B ρ a w R
 refine wpIn_region_draw ?_
 intro t
 have QH:Region.schedule (P.follows .mixedOrders) ops t=Region.linearise .any ops t:=by
  unfold Region.schedule
  rw [CR]
  simp
 rw [QH]
 have dD:=af6 rW t
 have CS:∀(l:List dQ) (i:Nat) (f:Nat->Value),fF V [] l i f=f:=by
  intro l
  induction l with
  | nil=>intro i f;rfl
  | cons a l ih=>intro i f;simp [fF,ih]
 obtain ⟨os,nD⟩:=wJ L nV T (k:=0) (tG l) (by omega)
 rw [zero_add] at nD
 have R0:gL P N B ρ f h a { w with drawn:=w.drawn+1 }:=R.mono (Tr.drew R.heap _ (Nat.le_succ _)) (R.heap.drew _)
 have HV:H 0=h:=f2
 have TG:Tr ρ (H 0) w ρ (H (tG l)) { w with drawn:=w.drawn+1 }:=by
  rw [nD,HV]
  exact (Tr.drew R.heap _ (Nat.le_succ _)).trans (Tr.HP R0.heap os)
 have R1:gL P N B ρ (fF V [] l 0 (F 0)) (H (tG l)) a { w with drawn:=w.drawn+1 }:=by
  rw [CS,f1,nD,HV]
  exact R0.mono (Tr.HP R0.heap os) (R0.heap.HP os)
 refine azz L nV T dD (λj e hj=>by simp at hj) (λi hi=>by simp at hi) [] (λq=>by simp) (tG l) (le_refl _) L.head (λe oe he _ hf=>?_) S B ρ a _ R1 (le_refl _) ?_ TG _ ?_
 ·constructor
  ·intro h;simp at h
  ·intro aw
   -- an effect at j6 head is a float
   rename_i hE
   rw [L.low e oe he aw hE] at hf
   cases hf
 ·intro q d hq hf _
  obtain ⟨a',yp⟩:=yZ.1 hf
  obtain ⟨_,oo,g1,g2,g3,_,g5,_⟩:=AH T hq yp (nV q d hq hf)
  have hqm:q<tG l:=by
   apply byContradiction
   intro h'
   rw [L.high q d hq (by omega)] at hf
   cases hf
  constructor
  ·obtain ⟨os',CT⟩:=wJ L nV T (k:=0) q (by omega)
   rw [zero_add,HV] at CT
   cases hr:ρ (H q).length with
   | none=>rfl
   | some r=>
    have:=R.heap.lt hr
    rw [CT] at this
    simp at this
    omega
  ·obtain ⟨os',CT⟩:=wJ L nV T (k:=q+1) (tG l-(q+1)) (by omega)
   rw [show q+1+(tG l-(q+1))=tG l by omega] at CT
   rw [CT]
   have iG:=NI g1 (H q).length
   rw [<-g2] at iG
   unfold eA
   rw [iG]
   simp only [bind_some]
   rw [getElem?_append_left (by rw [g3];simp)]
 ·intro aN a' w' R' T'
  refine ⟨rfl,aN,R',?_⟩
  rw [HV] at T'
  exact T'
theorem aBQ {out:Bool} {id:Nat} {ops:Array Oper} {l:List dQ} {K:(Nat->Value)->ae->Prop} {f:Nat->Value} {h:ae} (hc:O4 P N ops=some l) (hi:lW P l 0 [] [] K f h):
  ∃f' h',jr P N out (.region id ops true) f h .normal f' h'/\K f' h':=by
 unfold O4 at hc
 split at hc
 ·rename_i l' hl
  simp at hc;subst hc
  exact aBS hl hi
 ·rw [Option.map_eq_some_iff] at hc
  obtain ⟨⟨l',perm⟩,hl,rfl⟩:=hc
  exact aBR hl hi
end
end
section
section
variable {P : Program} {N : Nat}
theorem aiC (f:Nat->Value) (ks ls:List Nat) (xs:List Value) (h:xs=ls.map f):zN (qy (ks++ls) (ks.map f++xs)) f:=by
 subst h
 rw [<-List.map_append]
 exact Jc f (ks++ls)
theorem aCb {out:Bool}:∀{c:Code} {hs mS:Hints} {ic:jz},lC P N c hs=some (ic,mS)->(out=true∨oM c=true)->∀{K:Exit->(Nat->Value)->ae->Prop} {f:Nat->Value} {h:ae},lZ P ic K f h->
  ∃e f' h',jr P N out c f h e f' h'/\K e f' h':=by
 intro c
 induction c with
 | skip=>
  intro hs mS ic hc ho K f h hi
  simp [lC] at hc
  obtain ⟨rfl,_⟩:=hc
  exact ⟨.normal,f,h,λS hS B ρ a w R=>wpIn_skip ⟨rfl,ρ,R,Tr.refl R.heap⟩,hi⟩
 | region id ops draw=>
  intro hs mS ic hc ho K f h hi
  cases draw with
  | true=>
   simp only [lC] at hc
   split at hc
   ·rename_i l hl
    split at hc
    ·rename_i CP
     simp at hc
     obtain ⟨rfl,_⟩:=hc
     have iM:=aAu (azw CP) hi
     rw [Pe] at iM
     obtain ⟨f',h',r1,r2⟩:=aBQ (id:=id) hl iM
     exact ⟨.normal,f',h',r1,r2⟩
    ·cases hc
   ·cases hc
  | false=>
   simp only [lC] at hc
   split at hc
   ·rename_i l hl
    split at hc
    ·rename_i CP
     simp only [Option.some.injEq] at hc
     have he:ic=(xb (uQ l) hs).1:=by rw [hc]
     subst he
     obtain ⟨f',h',r1,r2⟩:=aJk (i:=0) (os:=ops.toList) (ops:=ops) (λk o hk=>by simpa using hk) (by rw [Py];exact hl) (aCO CP) hi
     refine ⟨.normal,f',h',jr.region ?_,r2⟩
     rw [List.range_eq_range']
     simpa using r1
    ·cases hc
   ·simp at hc
    obtain ⟨rfl,_⟩:=hc
    exact (show False from hi).elim
 | seq x y Rf Rg=>
  intro hs mS ic hc ho K f h hi
  have Qt:out=true∨oM x=true:=ho.imp id λh=>by simp only [oM,and_eq_true] at h;exact h.1
  have Qu:out=true∨oM y=true:=ho.imp id λh=>by simp only [oM,and_eq_true] at h;exact h.2
  have both:∀{a b:jz} {h0 pA qZ:Hints} {ls:List Nat},lC P N x hs=some (a,h0)->lC P N y pA=some (b,qZ)->lZ P (.seq a (Ci ls b)) K f h->∃e f' h',jr P N out (.seq x y) f h e f' h'/\K e f' h':=by
   intro a b h0 pA qZ ls ha hb hi
   obtain ⟨e,gB,gO,r1,r2⟩:=Rf ha Qt hi
   by_cases he:e=.normal
   ·subst he
    obtain ⟨aAq,hw,r3⟩:=adp r2
    obtain ⟨e',aAr,Ix,s1,s2⟩:=Rg hb Qu r3
    exact ⟨e',aAr,Ix,r1.seq (s1.weaken hw),s2⟩
   ·refine ⟨e,gB,gO,r1.aKe he,?_⟩
    cases e <;> first | exact absurd rfl he | exact r2
  simp only [lC] at hc
  split at hc
  ·rename_i a h0 pA ha
   split at hc
   ·rename_i b qZ hb
    simp at hc
    obtain ⟨rfl,_⟩:=hc
    exact both ha hb hi
   ·cases hc
  ·rename_i a ha
   split at hc
   ·rename_i b qZ hb
    simp at hc
    obtain ⟨rfl,_⟩:=hc
    exact both (ls:=[]) ha hb hi
   ·cases hc
  ·cases hc
 | cond c x y Rf Rg=>
  intro hs mS ic hc ho K f h hi
  have Qt:out=true∨oM x=true:=ho.imp id λh=>by simp only [oM,and_eq_true] at h;exact h.1
  have Qu:out=true∨oM y=true:=ho.imp id λh=>by simp only [oM,and_eq_true] at h;exact h.2
  simp only [lC] at hc
  split at hc
  ·rename_i bc
   split at hc
   ·rename_i a pA ha
    split at hc
    ·rename_i b qZ hb
     simp at hc
     obtain ⟨rfl,_⟩:=hc
     rw [aCa] at hi
     simp only [sX] at hi
     split at hi
     ·rename_i t ht
      cases t
      ·simp at hi
       obtain ⟨e,gB,gO,r1,r2⟩:=Rg hb Qu hi
       exact ⟨e,gB,gO,jr.cond bc ht (by simpa using r1),r2⟩
      ·simp at hi
       obtain ⟨e,gB,gO,r1,r2⟩:=Rf ha Qt hi
       exact ⟨e,gB,gO,jr.cond bc ht (by simpa using r1),r2⟩
     ·exact hi.elim
    ·cases hc
   ·cases hc
  ·cases hc
 | block id c ih=>
  intro hs mS ic hc ho K f h hi
  simp only [lC] at hc
  split at hc
  ·rename_i a pA ha
   simp at hc
   obtain ⟨rfl,_⟩:=hc
   obtain ⟨e,gB,gO,r1,r2⟩:=ih ha (ho.imp (λh=>h) λh=>h) hi
   refine ⟨_,gB,gO,r1.block,?_⟩
   cases e with
   | exit i=>
    simp only [bC] at r2⊢
    split <;> rename_i h
    ·rw [if_pos h] at r2;exact r2
    ·rw [if_neg h] at r2;exact r2
   | _=>exact r2
  ·cases hc
 | loop c ih=>
  intro hs mS ic hc ho K f h hi
  simp only [lC] at hc
  split at hc
  ·rename_i ks ls pA
   split at hc
   ·rename_i a qZ ha
    simp at hc
    obtain ⟨rfl,_⟩:=hc
    obtain ⟨J,μ,h0,aBv⟩:=hi
    have key:∀(n:Nat) (xs:List Value) (hh:ae),μ xs hh=n->J xs hh->∃e f' h',p6 P N out c (qy (ks++ls) (ks.map f++xs)) hh e f' h'/\K e f' h':=by
     intro n
     induction n using Nat.strongRecOn with
     | _ n vB=>
      intro xs hh hn hJ
      obtain ⟨e,gB,gO,r1,r2⟩:=ih ha (ho.imp (λh=>h) λh=>h) (aBv xs hh hJ)
      by_cases he:e=.normal
      ·subst he
       obtain ⟨hk,hJ1,aw⟩:=r2
       obtain ⟨e',f',h',s1,s2⟩:=vB (μ (ls.map gB) gO) (by omega) (ls.map gB) gO rfl hJ1
       refine ⟨e',f',h',p6.next r1 (s1.weaken ?_),s2⟩
       rw [<-hk]
       exact aiC gB ks ls _ rfl
      ·refine ⟨e,gB,gO,p6.leave he r1,?_⟩
       cases e <;> first | exact absurd rfl he | exact r2
    obtain ⟨e,f',h',s1,s2⟩:=key _ (ls.map f) h rfl h0
    exact ⟨e,f',h',(s1.weaken (aiC f ks ls _ rfl)).run,s2⟩
   ·cases hc
  ·cases hc
 | exit id=>
  intro hs mS ic hc ho K f h hi
  simp [lC] at hc
  obtain ⟨rfl,_⟩:=hc
  exact ⟨.exit id,f,h,λS hS B ρ a w R=>wpIn_exit ⟨rfl,ρ,R,Tr.refl R.heap⟩,hi⟩
 | ret=>
  intro hs mS ic hc ho K f h hi
  simp [lC] at hc
  obtain ⟨rfl,_⟩:=hc
  exact ⟨.ret,f,h,λS hS B ρ a w R=>wpIn_ret ⟨rfl,ρ,R,Tr.refl R.heap⟩,hi⟩
 | rangeFunc g ps nt body=>
  intro hs mS ic hc ho K f h hi
  have ho:out=true:=ho.resolve_right (by simp [oM])
  subst ho
  simp only [lC] at hc
  split at hc
  ·rename_i ls pA
   split at hc
   ·rename_i hk
    simp at hc
    obtain ⟨rfl,_⟩:=hc
    simp only [and_eq_true] at hk
    obtain ⟨h',r1,r2⟩:=aJj hk.1 hi
    exact ⟨.normal,f,h',r1,r2⟩
   ·cases hc
  ·cases hc
 | _=>intro hs mS ic hc;simp [lC] at hc
end
end
section
section
variable {P : Program} {ρ : bk} {h : ae} {w : World}
theorem marks.put {B:Nat} {l:Nat} {o:Obj}:∀{ds:List Deferred},(∀d∈ds,d≠mark l)->marks B ds w->marks B ds (w.putObj l o)
 | [],_,h=>by simpa [marks] using h
 | d::ds,bY,⟨⟨D,h1,h2,h3,h4⟩,h5⟩=>by
  refine ⟨⟨D,h1,h2,?_,h4⟩,marks.put (λd hd=>bY d (by simp [hd])) h5⟩
  rw [DM]
  ·exact h3
  ·rintro rfl
   exact bY d (by simp) h1
end
end
section
inductive mK where
 | tmp (t:Nat)
 | cell (agg:Bool) (n:Nat) (a:Nat)
def A9 (r:mK) (f:Nat->Value) (h:ae):Option Value:=
 match r with
 | .tmp t=>some (f t)
 | .cell agg n a=>af agg n h (f a)
def wX:List mK->(Nat->Value)->ae->Option (List Value)
 | [],_,_=>some []
 | r::rs,f,h=>match A9 r f h,wX rs f h with
  | some v,some vs=>some (v::vs)
  | _,_=>none
def pack:List Value->Value
 | [v]=>v
 | vs=>.tuple vs.toArray
def zD:List mK->(Nat->Value)->ae->(List Value->Prop)->Prop
 | [],_,_,k=>k []
 | .tmp t::rs,f,h,k=>zD rs f h λvs=>k (f t::vs)
 | .cell agg n a::rs,f,h,k=>iI (af agg n h (f a)) λv=>zD rs f h λvs=>k (v::vs)
def UG (rs:List mK) (K:Value->ae->Prop) (f:Nat->Value) (h:ae):Prop:=zD rs f h λvs=>K (pack vs) h
theorem UH:∀{rs:List mK} {f:Nat->Value} {h:ae} {k:List Value->Prop},zD rs f h k->∃vs,wX rs f h=some vs/\k vs
 | [],f,h,k,hr=>⟨[],rfl,hr⟩
 | .tmp t::rs,f,h,k,hr=>by
  obtain ⟨vs,h1,h2⟩:=UH (rs:=rs) hr
  exact ⟨f t::vs,by simp [wX,A9,h1],h2⟩
 | .cell agg n a::rs,f,h,k,hr=>by
  simp only [zD,iI] at hr
  split at hr
  ·rename_i v hv
   obtain ⟨vs,h1,h2⟩:=UH (rs:=rs) hr
   exact ⟨v::vs,by simp [wX,A9,h1,hv],h2⟩
  ·exact hr.elim
def Ym (rs:List mK) (K:Value->ae->Prop):Exit->(Nat->Value)->ae->Prop
 | .normal,f,h=>UG rs K f h
 | .ret,f,h=>UG rs K f h
 | _,_,_=>False
def cd (args:List Value):Nat->Value:=λj=>args.getD j undef
def Hp (P:Program):ResultVar->Option mK
 | .tmp t=>some (.tmp t)
 | .cell a t=>
  match P.underlying t with
  | some d=>if jF P t&&(oJ d||P.cellsOf t==1) then some (.cell (oJ d) (P.cellsOf t) a) else none
  | none=>none
def Ax (P:Program):List ResultVar->Option (List mK)
 | []=>some []
 | r::rs=>match Hp P r,Ax P rs with
  | some x,some xs=>some (x::xs)
  | _,_=>none
def cg (P:Program) (F:FuncId) (hs:Hints):Option (Nat×jz×List mK):=
 match P.funcs[F]? with
 | some fn=>match fn.body with
  | some c=>match lC P fn.ntmps c hs,Ax P fn.results.toList with
   | some (ic,_),some rs=>some (fn.ntmps,ic,rs)
   | _,_=>none
  | none=>none
 | none=>none
def cD:Option (Nat×jz×List mK)->jz
 | some (_,c,_)=>c
 | none=>.skip
def jz.l:jz->jz
 | .seq a _=>a
 | .cut _ c=>c
 | .cond _ a _=>a
 | .block _ c=>c
 | .loop _ _ c=>c
 | c=>c
def jz.r:jz->jz
 | .seq _ b=>b
 | .cond _ _ b=>b
 | c=>c
section
variable {P : Program} {w : World} {ρ : bk} {h : ae}
def zC (tmps:Array Value):ResultVar->Sem Value
 | .tmp t=>pure (tmps.getD t Go.undef)
 | .cell b t=>do loadVar t (<-asAddr (tmps.getD b Go.undef))
theorem aJp (fn:Func) (tmps:Array Value):results fn tmps=(do let vs <-fn.results.mapM (zC tmps);pure (if h:vs.size=1 then vs[0] else .tuple vs)):=by
 have e:(λr:ResultVar=>(match r with
   | .tmp t=>(pure (tmps.getD t Go.undef):Sem Value)
   | .cell a t=>do loadVar t (<-asAddr (tmps.getD a Go.undef))))=zC tmps:=by
  funext r
  cases r <;> rfl
 rw [<-e]
 rfl
theorem aKc {N B:Nat} {f:Nat->Value} {a:Act} (R:gL P N B ρ f h a w) {r:ResultVar} {x:mK} (hc:Hp P r=some x) {v:Value} (hv:A9 x f h=some v):
  ∃v',(zC a.tmps r).run P w=.ok v' w/\aK ρ v v':=by
 cases r with
 | tmp t=>
  simp [Hp] at hc;subst hc
  simp [A9] at hv;subst hv
  exact ⟨_,rfl,R.tmp t⟩
 | cell b t=>
  simp only [Hp] at hc
  split at hc
  ·rename_i d ht
   split at hc
   ·rename_i hk
    simp at hc;subst hc
    simp only [and_eq_true] at hk
    simp only [A9] at hv
    obtain ⟨v',q1,q2⟩:=anx R.heap ht hk.1 hv (R.tmp b)
    refine ⟨v',?_,q2⟩
    have oE:=hv
    unfold af at oE
    split at oE
    ·rename_i i o hfb
     have:=R.tmp b
     rw [hfb] at this
     obtain ⟨r',_,e⟩:=this.DL
     simp only [zC]
     rw [e] at q1⊢
     simpa [Instr.loadAt,Instr.sureAddr,asAddr] using q1
    ·cases oE
   ·cases hc
  ·cases hc
theorem anE {α β:Type} (g:α->Sem β) (w:World):∀{xs:List α} {ys:List β},(∀(k:Nat) (x:α),xs[k]?=some x->∃y,ys[k]?=some y/\(g x).run P w=.ok y w)->xs.length=ys.length->(xs.mapM g).run P w=.ok ys w
 | [],[],_,_=>rfl
 | x::xs,y::ys,h,hl=>by
  obtain ⟨y',h1,h2⟩:=h 0 x rfl
  simp at h1;subst h1
  have ih:=anE g w (xs:=xs) (ys:=ys) (λk a hk=>by simpa using h (k+1) a (by simpa using hk)) (by simpa using hl)
  simp only [List.mapM_cons,Sem.run_bind,h2,Result.andThen_ok,ih,Sem.run_pure]
theorem anG {N B:Nat} {f:Nat->Value} {a:Act} (R:gL P N B ρ f h a w):∀{l:List ResultVar} {rs:List mK} {vs:List Value},Ax P l=some rs->wX rs f h=some vs->
  ∃kX:List Value,dw ρ vs kX/\l.length=kX.length/\∀(k:Nat) (r:ResultVar),l[k]?=some r->∃y,kX[k]?=some y/\(zC a.tmps r).run P w=.ok y w
 | [],rs,vs,hc,hv=>by
  simp [Ax] at hc;subst hc
  simp [wX] at hv;subst hv
  exact ⟨[],.nil,rfl,λk r hk=>by simp at hk⟩
 | r::l,rs,vs,hc,hv=>by
  simp only [Ax] at hc
  split at hc
  ·rename_i x xs h1 h2
   simp at hc;subst hc
   simp only [wX] at hv
   split at hv
   ·rename_i v vs h3 h4
    simp at hv;subst hv
    obtain ⟨v',q1,q2⟩:=aKc R h1 h3
    obtain ⟨kX,s1,s2,s3⟩:=anG R h2 h4
    refine ⟨v'::kX,.cons q2 s1,by simp [s2],?_⟩
    intro k r' hk
    cases k with
    | zero=>simp at hk;subst hk;exact ⟨v',rfl,q1⟩
    | succ k=>simpa using s3 k r' (by simpa using hk)
   ·cases hv
  ·cases hc
theorem aKd {N B:Nat} {f:Nat->Value} {a:Act} (R:gL P N B ρ f h a w) {fn:Func} {rs:List mK} {vs:List Value} (hc:Ax P fn.results.toList=some rs) (hv:wX rs f h=some vs):
  ∃v',(results fn a.tmps).run P w=.ok v' w/\aK ρ (pack vs) v':=by
 obtain ⟨kX,h1,h2,h3⟩:=anG R hc hv
 have hm:=anE (P:=P) (zC a.tmps) w h3 h2
 have kk:(fn.results.mapM (zC a.tmps)).run P w=.ok kX.toArray w:=by
  rw [Array.mapM_eq_mapM_toList]
  simp only [Sem.run_map,hm,Result.andThen_ok]
 refine ⟨if h:kX.toArray.size=1 then kX.toArray[0] else .tuple kX.toArray,?_,?_⟩
 ·rw [aJp]
  simp only [Sem.run_bind,kk,Result.andThen_ok,Sem.run_pure]
 ·cases h1 with
  | nil=>simpa [pack] using aK.vP (ρ:=ρ) .nil
  | cons a1 a2=>
   cases a2 with
   | nil=>simpa [pack] using a1
   | cons b1 b2=>simpa [pack] using aK.vP (.cons a1 (.cons b1 b2))
theorem aAp {args:List Value} {args':Array Value} (hv:dw ρ args args'.toList) (N:Nat) (t:Nat):aK ρ (cd args t) ((args'++replicate (N-args'.size) Go.undef).getD t Go.undef):=by
 unfold cd
 have hl:=hv.length
 by_cases ht:t<args.length
 ·obtain ⟨y,hy,hr⟩:=hv.get (k:=t) (x:=args[t]) (getElem?_eq_getElem ht)
  have hs:t<args'.size:=by simpa using (by omega:t<args'.toList.length)
  have e1:args.getD t undef=args[t]:=by simp [getD,ht]
  rw [e1,Array.getD_eq_getD_getElem?,Array.getElem?_append_left hs]
  simp only [Array.getElem?_toList] at hy
  rw [hy]
  exact hr
 ·have e1:args.getD t undef=undef:=by simp [getD,le_of_not_lt ht]
  have e2:(args'++replicate (N-args'.size) Go.undef).getD t Go.undef=undef:=by
   have hs:¬t<args'.size:=by simp at hl;omega
   rw [Array.getD_eq_getD_getElem?,Array.getElem?_append_right (by omega)]
   by_cases h2:t-args'.size<N-args'.size
   ·simp [h2]
   ·simp [h2]
  rw [e1,e2]
  exact aK.undef _
theorem Tr.aCL {aN:bk} {h':ae} {w':World} (T:Tr ρ h w aN h' w') {l:Nat} (hl:w.heap.size<=l) (o:Obj):Tr ρ h w aN h' (w'.putObj l o) where
 ext:=T.ext
 len:=T.len
 mo:=T.mo
 kinds:=T.kinds
 fresh:=T.fresh
 kN:=by rw [World.putObj_size];exact T.kN
 kY:=λk hk jR=>by rw [DM (by omega)];exact T.kY k hk jR
 os:=T.os
 tape:=T.tape
 output:=T.output
 drawn:=T.drawn
theorem af2 {aN:bk} {h':ae} {fn:Func} {tmps:Array Value} {Q:Ending->World->Prop}:∀{ds:List Deferred} {w':World},marks w.heap.size ds w'->bN P aN h' w'->Tr ρ h w aN h' w'->
  (∀mI,bN P aN h' mI->Tr ρ h w aN h' mI->∃v,(results fn tmps).run P mI=.ok v mI/\Q (.returned v) mI)->LeavesInM Fence.wide 0 P fn tmps Q ds .returning w'
 | [],w',_,H,T,hq=>hq w' H T
 | d::ds,w',⟨⟨D,h1,h2,h3,h4⟩,h5⟩,H,T,hq=>by
  refine ⟨by simp,.inl ⟨D,_,by rw [h1];rfl,run_takeDeferred h3,?_⟩⟩
  exact af2 (marks.put (λd hd=>h4 d hd) h5) (H.put (λj s hj hs=>H.RP h3 hj hs) _) (T.aCL h2 _) hq
theorem aBP {F:FuncId} {N:Nat} {ic:jz} {rs:List mK} {hs:Hints} (hc:cg P F hs=some (N,ic,rs)) {args:List Value} (ha:args.length<=N) {K:Value->ae->Prop}
  (hi:lZ P ic (Ym rs K) (cd args) h):rC P F args h K:=by
 unfold cg at hc
 split at hc
 ·rename_i fn hf
  split at hc
  ·rename_i c hb
   split at hc
   ·rename_i ic' _ rs' h1 h2
    simp at hc
    obtain ⟨hN,rfl,rfl⟩:=hc
    obtain ⟨e,f',h',r1,r2⟩:=aCb (out:=true) h1 (.inl rfl) hi
    have CY:(e=.normal∨e=.ret)/\UG rs' K f' h':=by
     cases e <;> first | exact ⟨.inl rfl,r2⟩ | exact ⟨.inr rfl,r2⟩ | exact r2.elim
    obtain ⟨he,CY⟩:=CY
    obtain ⟨vs,A3,CY⟩:=UH CY
    ·refine ⟨pack vs,h',?_,CY⟩
     intro ρ args' w hv H
     refine callsIn_wide.1 (callsIn_of_wp_marks (F:=Fence.wide) (n:=0) hf hb trivial ?_ rfl)
     have nG:args'.size=args.length:=by have:=hv.length;simpa using this.symm
     have R:gL P fn.ntmps w.heap.size ρ (cd args) h { tmps:=args'++replicate (fn.ntmps-args'.size) Go.undef,defers:=[] } w:=⟨by simp;omega,le_refl _,aAp hv fn.ntmps,H⟩
     refine wpIn_mono (r1 none (λ_=>rfl) _ ρ _ w R) ?_
     rintro e' a' w' ⟨rfl,aN,R',T⟩
     have key:LeavesInM Fence.wide 0 P fn a'.tmps (λe w'=>∃v' aN,e=.returned v'/\aK aN (pack vs) v'/\bN P aN h' w'/\Tr ρ h w aN h' w') a'.defers .returning w':=by
      refine af2 R'.defers R'.heap T ?_
      intro mI Wu wj
      have rP:gL P fn.ntmps 0 aN f' h' { a' with defers:=[] } mI:=⟨R'.size,Nat.zero_le _,R'.tmp,Wu⟩
      obtain ⟨v',q1,q2⟩:=aKd rP h2 A3
      exact ⟨v',q1,v',aN,rfl,q2,Wu,wj⟩
     rcases he with rfl | rfl
     ·exact key
     ·exact key
   ·cases hc
  ·cases hc
 ·cases hc
theorem aBO {F:FuncId} {args:List Value} {h:ae} {v:Value} (hi:rC P F args h λu _=>u=v) {ρ:bk} {args':Array Value} {w:World} (hv:dw ρ args args'.toList) (H:bN P ρ h w)
  (lU:∀i,¬fB h i):Calls P F args' w λe w'=>(∃v' aN,e=.returned v'/\aK aN v v')/\RowKit.Below w.heap.size w w':=by
 obtain ⟨u,h',hc,rfl⟩:=hi
 refine (hc ρ args' w hv H).mono ?_
 rintro e w' ⟨v',aN,rfl,h1,_,T⟩
 exact ⟨⟨v',aN,rfl,h1⟩,⟨T.os,T.tape,T.output,T.kN,λk hk=>T.kY k hk λj s _ _ hm=>lU j hm⟩⟩
end
end
section
abbrev VK:=Value->ae->Prop
abbrev LQ:=List Value->ae->Prop
abbrev gm (a n:Nat):oZ:=⟨some a,.p (.mv (.tmp n))⟩
abbrev gd (a n m:Nat):nO:=⟨some a,.p (.mv (.tmp n)),m⟩
abbrev ci (n:Int):Operand:=.const (.int .i64 n)
inductive OP (o:Option Value) (K:Value->Prop):Prop | mk:iI o K->OP o K
inductive OH (o:Option (Value×ae)) (K:Value->ae->Prop):Prop | mk:pE o K->OH o K
inductive aJ (c:Value) (a b:Prop):Prop | mk:sX c a b->aJ c a b
inductive bO (v:Value) (b:Bool) (A B:Prop):Prop | mk:mu v b A B->bO v b A B
inductive aA (Q:(Nat->Value)->ae->Prop) (ls:List Nat) (vs:List Value) (h:ae):Prop | mk:Hr Q ls vs h->aA Q ls vs h
inductive bT (init:List Value) (h:ae) (Q:(List Value->ae->Prop)->List Value->ae->Prop):Prop | mk:IT init h Q->bT init h Q
inductive ay (P:Program) (F:FuncId) (args:List Value) (h:ae) (K:Value->ae->Prop):Prop | mk:rC P F args h K->ay P F args h K
inductive sR (P:Program) (x:Value) (args:List Value) (h:ae) (K:Value->ae->Prop):Prop | mk:uF P x args h K->sR P x args h K
inductive Fw (P:Program) (g:Value) (ls:List Nat) (vs:List Value) (c:Ft) (h:ae) (K:ae->Prop):Prop | mk:Bu P g ls vs c h K->Fw P g ls vs c h K
theorem aua:Fw=Bu:=funext λ_=>funext λ_=>funext λ_=>funext λ_=>funext λ_=>funext λ_=>funext λ_=>propext ⟨λ⟨h⟩=>h,.mk⟩
theorem BR:OP=iI:=funext λ_=>funext λ_=>propext ⟨λ⟨h⟩=>h,.mk⟩
theorem X0:OH=pE:=funext λ_=>funext λ_=>propext ⟨λ⟨h⟩=>h,.mk⟩
theorem aoZ:aJ=sX:=funext λ_=>funext λ_=>funext λ_=>propext ⟨λ⟨h⟩=>h,.mk⟩
theorem Ws:bO=mu:=funext λ_=>funext λ_=>funext λ_=>funext λ_=>propext ⟨λ⟨h⟩=>h,.mk⟩
theorem KC:aA=Hr:=funext λ_=>funext λ_=>funext λ_=>funext λ_=>propext ⟨λ⟨h⟩=>h,.mk⟩
theorem at9:bT=IT:=funext λ_=>funext λ_=>funext λ_=>propext ⟨λ⟨h⟩=>h,.mk⟩
theorem xI:ay=rC:=funext λ_=>funext λ_=>funext λ_=>funext λ_=>funext λ_=>propext ⟨λ⟨h⟩=>h,.mk⟩
theorem Wp:sR=uF:=funext λ_=>funext λ_=>funext λ_=>funext λ_=>funext λ_=>propext ⟨λ⟨h⟩=>h,.mk⟩
theorem aoY (Q:(Nat->Value)->ae->Prop) (ls:List Nat) (vs:List Value) (h:ae):aA Q ls vs h=Q (qy ls vs) h:=by
 rw [KC]
 rfl
theorem aB {Q:(Nat->Value)->ae->Prop} {ls:List Nat} {vs:List Value} {h:ae} {A:Prop} (e:Q (qy ls vs) h=A):aA Q ls vs h=A:=(aoY _ _ _ _).trans e
def JL (o:p7) (g:Operand->Value) (k:Value->Prop):Prop:=
 match o with
 | .mv x=>k (g x)
 | .IK n=>k (.int .i64 n)
 | .fn f a b=>k (.func (.func f) (a.map g).toArray (b.map g).toArray)
 | o=>OP (kn o g) k
theorem amK (o:p7) (g:Operand->Value) (k:Value->Prop):JL o g k=iI (kn o g) k:=by
 unfold JL
 split
 ·rfl
 ·rfl
 ·rfl
 ·rw [BR]
def J7 (P:Program) (o:kB) (f:Nat->Value) (h:ae) (K:Value->ae->Prop):Prop:=
 match o with
 | .p o=>JL o (ev f) λv=>K v h
 | .l o=>OP (ie o (ev f) h) λv=>K v h
 | .e o=>OH (iR o (ev f) h) K
 | .call g args=>ay P g (args.map (ev f)) h K
 | .ou x args=>sR P (ev f x) (args.map (ev f)) h K
theorem aKC (P:Program) (o:kB) (f:Nat->Value) (h:ae) (K:Value->ae->Prop):J7 P o f h K=eY P o f h K:=by
 cases o <;> simp only [J7,eY,amK,BR,X0,xI,Wp]
def HS (P:Program) (l:List oZ) (K:(Nat->Value)->ae->Prop):(Nat->Value)->ae->Prop:=
 List.rec (motive:=λ_=>(Nat->Value)->ae->Prop) (λf h=>K f h) (λo _ ih f h=>J7 P o.op f h λv h'=>ih (fW f o.dst v) h') l
theorem aAA (P:Program) (l:List oZ) (K:(Nat->Value)->ae->Prop):∀(f:Nat->Value) (h:ae),HS P l K f h=yk P l K f h:=by
 induction l with
 | nil=>intro f h;rfl
 | cons o os ih=>
  intro f h
  show J7 P o.op f h (λv h'=>HS P os K (fW f o.dst v) h')=_
  rw [aKC,yk]
  congr 1
  funext v h'
  exact ih _ _
def RT (P:Program) (g:Option (Nat×Bool)) (l:List oZ) (K:(Nat->Value)->ae->Prop) (f:Nat->Value) (h:ae):Prop:=
 match g with
 | none=>HS P l K f h
 | some (s,b)=>bO (f s) b (HS P l K f h) (K (U6 l f) h)
theorem aDq (P:Program) (g:Option (Nat×Bool)) (l:List oZ) (K:(Nat->Value)->ae->Prop) (f:Nat->Value) (h:ae):RT P g l K f h=zx P g l K f h:=by
 unfold RT zx
 split <;> simp only [aAA,Ws]
abbrev Wr:=List (Nat×ae)->iB->Value->ae->Prop
def Hx (P:Program) (io:kB) (pre j:Nat) (bJ:List (Nat×ae)) (bD:iB) (f:Nat->Value) (h:ae) (next:Wr):Prop:=
 match io with
 | .p po=>JL po (ev f) λv=>next bJ bD v h
 | .l lo=>OP (ie lo (ev f) h) λv=>Aw pre lo f v bJ/\next bJ (bD++[(j,lo,f,v)]) v h
 | .e (.fl a)=>OH (iR (.fl a) (ev f) h) λv h'=>OP (eA h' v) λu=>pe pre h' bD/\next (bJ++[(j,h)]) (bD++[(j,.obj (.const v),f,u)]) v h'
 | .e eo=>OH (iR eo (ev f) h) λv h'=>pe pre h' bD/\next (bJ++[(j,h)]) bD v h'
 | .call g args=>ay P g (args.map (ev f)) h λv h'=>pe pre h' bD/\next (bJ++[(j,h)]) bD v h'
 | .ou x args=>sR P (ev f x) (args.map (ev f)) h λv h'=>pe pre h' bD/\next (bJ++[(j,h)]) bD v h'
theorem azA (P:Program) (io:kB) (pre j:Nat) (bJ:List (Nat×ae)) (bD:iB) (f:Nat->Value) (h:ae) (next:Wr):
  Hx P io pre j bJ bD f h next=ny P io pre j bJ bD f h next:=by
 cases io with
 | e eo=>cases eo <;> simp only [Hx,ny,BR,X0]
 | _=>simp only [Hx,ny,amK,BR,xI,Wp]
abbrev Wq:=List (Nat×ae)->iB->(Nat->Value)->ae->Prop
def Cx (P:Program):List nO->Nat->List (Nat×ae)->iB->Wq->(Nat->Value)->ae->Prop
 | [],_,bJ,bD,K,f,h=>K bJ bD f h
 | o::os,j,bJ,bD,K,f,h=>Hx P o.op o.pre j bJ bD f h λbJ bD v h'=>Cx P os (j+1) bJ bD K (fW f o.dst v) h'
theorem PH (P:Program):∀(l:List nO) (j:Nat) (bJ:List (Nat×ae)) (bD:iB) (K:Wq) (f:Nat->Value) (h:ae),Cx P l j bJ bD K f h=uP P l j bJ bD K f h
 | [],_,_,_,_,_,_=>rfl
 | o::os,j,bJ,bD,K,f,h=>by
  rw [Cx,uP,azA]
  congr 1
  funext bJ bD v h'
  exact PH P os _ _ _ _ _ _
def uO (P:Program):List (Option (Nat×Bool)×List nO)->Nat->List (Nat×ae)->iB->((Nat->Value)->ae->Prop)->(Nat->Value)->ae->Prop
 | [],_,_,_,K,f,h=>K f h
 | (none,l)::gs,j,bJ,bD,K,f,h=>Cx P l j bJ bD (λbJ bD f h=>uO P gs (j+l.length) bJ bD K f h) f h
 | (some (s,b),l)::gs,j,bJ,bD,K,f,h=>
  bO (f s) b (Cx P l j bJ bD (λbJ bD f h=>uO P gs (j+l.length) bJ bD K f h) f h)
   (yj l j bJ bD (λbJ bD f h=>uO P gs (j+l.length) bJ bD K f h) f h)
theorem PG (P:Program):∀(gs:List (Option (Nat×Bool)×List nO)) (j:Nat) (bJ:List (Nat×ae)) (bD:iB) (K:(Nat->Value)->ae->Prop) (f:Nat->Value) (h:ae),
  uO P gs j bJ bD K f h=qR P gs j bJ bD K f h
 | [],_,_,_,_,_,_=>rfl
 | (none,l)::gs,j,bJ,bD,K,f,h=>by
  have e:(λbJ bD f h=>uO P gs (j+l.length) bJ bD K f h)=λbJ bD f h=>qR P gs (j+l.length) bJ bD K f h:=by
   funext a b c d;exact PG P gs _ _ _ _ _ _
  rw [uO,qR,PH,e]
 | (some (s,b),l)::gs,j,bJ,bD,K,f,h=>by
  have e:(λbJ bD f h=>uO P gs (j+l.length) bJ bD K f h)=λbJ bD f h=>qR P gs (j+l.length) bJ bD K f h:=by
   funext a b c d;exact PG P gs _ _ _ _ _ _
  rw [uO,qR,PH,e,Ws]
noncomputable def au (P:Program) (c:jz):ax->(Nat->Value)->ae->Prop:=
 jz.rec (motive:=λ_=>ax->(Nat->Value)->ae->Prop)
  (λK f h=>K .normal f h)
  (λl K f h=>uO P l 0 [] [] (K .normal) f h)
  (λg l K f h=>RT P g l (K .normal) f h)
  (λ_ _ ia ib K f h=>ia (aH (ib K) K) f h)
  (λls _ ic K f h=>aA (ic K) ls (ls.map f) h)
  (λc _ _ ia ib K f h=>aJ (ev f c) (ia K f h) (ib K f h))
  (λid _ ic K f h=>ic (bC id K) f h)
  (λks ls _ ic K f h=>bT (ls.map f) h λL xs hx=>aA (ic (aH (λf' aQ=>ks.map f'=ks.map f/\L (ls.map f') aQ) K)) (ks++ls) (ks.map f++xs) hx)
  (λid K f h=>K (.exit id) f h)
  (λK f h=>K .ret f h)
  (λg ls c K f h=>Fw P (ev f g) ls (ls.map f) c h (K .normal f)) c
theorem aB9 (P:Program) (c:jz):au P c=lZ P c:=by
 induction c with
 | skip=>rfl
 | adA l=>funext K f h;exact PG P l 0 [] [] (K .normal) f h
 | ops g l=>funext K f h;exact aDq P g l (K .normal) f h
 | seq a b Rc Re=>
  funext K f h
  show au P a (aH (au P b K) K) f h=lZ P a (aH (lZ P b K) K) f h
  rw [Rc,Re]
 | cut ls c ih=>
  funext K f h
  show aA (au P c K) ls (ls.map f) h=Hr (lZ P c K) ls (ls.map f) h
  rw [ih,KC]
 | cond c a b Rc Re=>
  funext K f h
  show aJ (ev f c) (au P a K f h) (au P b K f h)=sX (ev f c) (lZ P a K f h) (lZ P b K f h)
  rw [Rc,Re,aoZ]
 | block id c ih=>
  funext K f h
  show au P c (bC id K) f h=lZ P c (bC id K) f h
  rw [ih]
 | loop ks ls c ih=>
  funext K f h
  show bT (ls.map f) h (λL xs hx=>aA (au P c (aH (λf' aQ=>ks.map f'=ks.map f/\L (ls.map f') aQ) K)) (ks++ls) (ks.map f++xs) hx)=
   IT (ls.map f) h (λL xs hx=>lZ P c (aH (λf' aQ=>ks.map f'=ks.map f/\L (ls.map f') aQ) K) (qy (ks++ls) (ks.map f++xs)) hx)
  rw [ih,at9,KC]
  rfl
 | exit id=>rfl
 | ret=>rfl
 | range g ls c=>
  funext K f h
  show Fw P (ev f g) ls (ls.map f) c h (K .normal f)=Bu P (ev f g) ls (ls.map f) c h (K .normal f)
  rw [aua]
def Bv:List mK->(Nat->Value)->ae->(List Value->Prop)->Prop
 | [],_,_,k=>k []
 | .tmp t::rs,f,h,k=>Bv rs f h λvs=>k (f t::vs)
 | .cell agg n a::rs,f,h,k=>OP (af agg n h (f a)) λv=>Bv rs f h λvs=>k (v::vs)
theorem UI:∀(rs:List mK) (f:Nat->Value) (h:ae) (k:List Value->Prop),Bv rs f h k=zD rs f h k
 | [],_,_,_=>rfl
 | .tmp _::rs,f,h,k=>UI rs f h _
 | .cell agg n a::rs,f,h,k=>by
  rw [Bv,zD,BR]
  congr 1
  funext v
  exact UI rs f h _
def aW (rs:List mK) (K:Value->ae->Prop):ax
 | .normal,f,h=>Bv rs f h λvs=>K (pack vs) h
 | .ret,f,h=>Bv rs f h λvs=>K (pack vs) h
 | _,_,_=>False
theorem auA (rs:List mK) (K:Value->ae->Prop):aW rs K=Ym rs K:=by
 funext e f h
 cases e <;> first | rfl | exact UI rs f h _
theorem cC {P:Program} {F:FuncId} {N:Nat} {ic:jz} {rs:List mK} {hs:Hints} {h:ae} (hc:cg P F hs=some (N,ic,rs)) {args:List Value} (ha:args.length<=N)
  {K:Value->ae->Prop} (hi:au P ic (aW rs K) (cd args) h):ay P F args h K:=
 .mk (aBP hc ha (by rw [<-aB9,<-auA];exact hi))
end
section
section aK3
variable {A B : Prop} {K : Value -> Prop} {K2 : Value -> ae -> Prop} {v : Value} {h : ae}
@[simp] theorem ah : OP (some v) K ↔ K v := ⟨λ⟨h⟩ => h, λh => .mk h⟩
@[simp] theorem aL : OH (some (v, h)) K2 ↔ K2 v h := ⟨λ⟨h⟩ => h, λh => .mk h⟩
theorem nP {o:Option Value} (ho:o=some v) (hk:K v):OP o K:=by rw [ho];exact ah.2 hk
theorem X1 {o:Option (Value×ae)} (ho:o=some (v,h)) (hk:K2 v h):OH o K2:=by rw [ho];exact aL.2 hk
@[simp] theorem gf : aJ (.bool true) A B ↔ A := ⟨λ⟨h⟩ => by simpa [sX] using h, λh => .mk (by simpa [sX] using h)⟩
@[simp] theorem dm : aJ (.bool false) A B ↔ B := ⟨λ⟨h⟩ => by simpa [sX] using h, λh => .mk (by simpa [sX] using h)⟩
theorem um {b:Bool} (h1:b=true->A) (h2:b=false->B):aJ (.bool b) A B:=by cases b <;> simp [h1,h2]
@[simp] theorem ca {p : Prop} [Decidable p] : aJ (.bool (decide p)) A B ↔ (p -> A) /\ (¬ p -> B) := by by_cases hp : p <;> simp [hp]
@[simp] theorem BJ {p : Prop} [Decidable p] : aJ (.bool (!decide p)) A B ↔ (¬ p -> A) /\ (p -> B) := by by_cases hp : p <;> simp [hp]
@[simp] theorem gK : bO (.bool true) true A B ↔ A := ⟨λ⟨h⟩ => by simpa [mu] using h, λh => .mk (by simpa [mu] using h)⟩
@[simp] theorem o0 : bO (.bool true) false A B ↔ B := ⟨λ⟨h⟩ => by simpa [mu] using h, λh => .mk (by simpa [mu] using h)⟩
@[simp] theorem jd : bO (.bool false) true A B ↔ B := ⟨λ⟨h⟩ => by simpa [mu] using h, λh => .mk (by simpa [mu] using h)⟩
@[simp] theorem fc : bO (.bool false) false A B ↔ A := ⟨λ⟨h⟩ => by simpa [mu] using h, λh => .mk (by simpa [mu] using h)⟩
@[simp] theorem BI {b : Bool} : bO undef b A B ↔ B := ⟨λ⟨h⟩ => by simpa [mu, undef] using h, λh => .mk (by simpa [mu, undef] using h)⟩
@[simp] theorem fy (a b : Value) : bu (.bool true) a b = some a := rfl
@[simp] theorem dA (a b : Value) : bu (.bool false) a b = some b := rfl
end aK3
abbrev I (n:Int):Value:=.int .i64 n
abbrev B (b:Bool):Value:=.bool b
abbrev cv (c:UInt8):Value:=.int .u8 (c.toNat:Int)
abbrev pt (i o:Nat):Value:=.pointer (some ⟨i,o,none⟩)
theorem wrap64 {n:Int} (h1: -9223372036854775808<=n) (h2:n<9223372036854775808):IntKind.wrap .i64 n=n:=by
 have e:IntKind.wrap .i64 n=if n%18446744073709551616>=9223372036854775808 then n%18446744073709551616-18446744073709551616 else n%18446744073709551616:=by
  simp [IntKind.wrap,IntKind.bits,IntKind.signed]
 rw [e]
 split <;> omega
theorem an2 {n:Int} (h1:0<=n) (h2:n<256):IntKind.wrap .u8 n=n:=by
 have e:IntKind.wrap .u8 n=n%256:=by
  simp [IntKind.wrap,IntKind.bits,IntKind.signed]
 rw [e]
 omega
section ints
variable (k : IntKind) (a b : Int)
@[simp] theorem bW : aj .lss (.int k a) (.int k b) = some (.bool (decide (a < b))) := by simp [aj, jE]
@[simp] theorem rR : aj .leq (.int k a) (.int k b) = some (.bool (decide (a <= b))) := by simp [aj, jE]
@[simp] theorem gY : aj .gtr (.int k a) (.int k b) = some (.bool (decide (b < a))) := by simp [aj, jE]
@[simp] theorem om : aj .geq (.int k a) (.int k b) = some (.bool (decide (b <= a))) := by simp [aj, jE]
@[simp] theorem jB : aj .eql (.int k a) (.int k b) = some (.bool (decide (a = b))) := by simp [aj, jE]
@[simp] theorem iC : aj .neq (.int k a) (.int k b) = some (.bool (!decide (a = b))) := by simp [aj, jE]
@[simp] theorem b7 : aj .add (.int k a) (.int k b) = some (.int k (k.wrap (a + b))) := by simp [aj, jE]
@[simp] theorem iD : aj .sub (.int k a) (.int k b) = some (.int k (k.wrap (a - b))) := by simp [aj, jE]
@[simp] theorem xT : aj .mul (.int k a) (.int k b) = some (.int k (k.wrap (a * b))) := by simp [aj, jE]
@[simp] theorem kW (b : Bool) : gE .not (.bool b) = some (.bool !b) := rfl
@[simp] theorem aM8 : gE .neg (.int k a) = some (.int k (k.wrap (0 - a))) := rfl
@[simp] theorem nU (k' : IntKind) : dI k' (.int k a) = some (.int k' (k'.wrap a)) := rfl
@[simp] theorem Cq (n x y : Bool) : tP n (.bool x) (.bool y) = some (.bool (if n then !(x == y) else x == y)) := rfl
@[simp] theorem fM (i : Nat) (vs : Array Value) : cW i (.tuple vs) = vs[i]? := rfl
end ints
section strings
variable (a b : List UInt8)
@[simp] theorem auC (l : List UInt8) : bytes ⟨l.toArray⟩ = l := auD l
@[simp] theorem af3 : wU (S a) = some (I a.length) := by simp [wU, S]
@[simp] theorem auv : aj .eql (S a) (S b) = some (.bool (decide (a = b))) := by simp [aj, yY, S]
@[simp] theorem Yj : aj .neq (S a) (S b) = some (.bool (!decide (a = b))) := by simp [aj, yY, S]
theorem NM (h:a.length+b.length<=maxLen):aj .add (S a) (S b)=some (S (a++b)):=by
 simp only [aj,yY,S,auC,if_pos h]
theorem aBT {i:Nat} (h:i<a.length) (k:IntKind):tQ (S a) (.int k (i:Int))=some (cv a[i]):=by simp [tQ,S,h]
theorem aKr {n:Nat} (h:n<=a.length) (k:IntKind):yX (S a) (some (.int k (n:Int))) none=some (S (a.drop n)):=by simp [yX,S,mE,od,h]
end strings
theorem aCZ {σ:Type} {init:List Value} {h:ae} {Q:(List Value->ae->Prop)->List Value->ae->Prop} (enc:σ->List Value) (hp:σ->ae) (J:σ->Prop) (μ:σ->Nat) (s0:σ)
  (e0:enc s0=init) (eh:hp s0=h) (j0:J s0) (hr:∀s,J s->Q (λys hy=>∃s',enc s'=ys/\hp s'=hy/\J s'/\μ s'<μ s) (enc s) (hp s)):bT init h Q:=by
 refine .mk ?_
 have least:∀ys hy,(∃s,enc s=ys/\hp s=hy/\J s)->∃m,(∃s,enc s=ys/\hp s=hy/\J s/\μ s=m)/\∀s,enc s=ys->hp s=hy->J s->m<=μ s:=by
  rintro ys hy ⟨s,h1,h2,h3⟩
  have key:∀n,(∃s,enc s=ys/\hp s=hy/\J s/\μ s=n)->∃m,(∃s,enc s=ys/\hp s=hy/\J s/\μ s=m)/\∀s,enc s=ys->hp s=hy->J s->m<=μ s:=by
   intro n
   induction n using Nat.strongRecOn with
   | _ n ih=>
    intro hn
    by_cases aw:∃s,enc s=ys/\hp s=hy/\J s/\μ s<n
    ·obtain ⟨s',a,b,c,d⟩:=aw
     exact ih (μ s') d ⟨s',a,b,c,rfl⟩
    ·exact ⟨n,hn,λs' a b c=>le_of_not_lt λd=>aw ⟨s',a,b,c,d⟩⟩
  exact key _ ⟨s,h1,h2,h3,rfl⟩
 classical
 refine ⟨λys hy=>∃s,enc s=ys/\hp s=hy/\J s,λys hy=>if hJ:∃s,enc s=ys/\hp s=hy/\J s then Classical.choose (least ys hy hJ) else 0,⟨s0,e0,eh,j0⟩,?_⟩
 rintro xs hx hJ
 have aff:=choose_spec (least xs hx hJ)
 simp only [dif_pos hJ]
 generalize Classical.choose (least xs hx hJ)=m at aff
 obtain ⟨⟨s,a,b,c,d⟩,_⟩:=aff
 have:=hr s c
 rw [a,b] at this
 have he:(λ(ys:List Value) (hy:ae)=>(∃s,enc s=ys/\hp s=hy/\J s)/\(if hJ:∃s,enc s=ys/\hp s=hy/\J s then Classical.choose (least ys hy hJ) else 0)<m)=
   λys hy=>∃s',enc s'=ys/\hp s'=hy/\J s'/\μ s'<μ s:=by
  funext ys hy
  apply propext
  constructor
  ·rintro ⟨hJ',aw⟩
   rw [dif_pos hJ'] at aw
   obtain ⟨⟨s',a',b',c',d'⟩,_⟩:=choose_spec (least ys hy hJ')
   exact ⟨s',a',b',c',by rw [d',d];exact aw⟩
  ·rintro ⟨s',a',b',c',d'⟩
   refine ⟨⟨s',a',b',c'⟩,?_⟩
   rw [dif_pos ⟨s',a',b',c'⟩]
   have:=(choose_spec (least ys hy ⟨s',a',b',c'⟩)).2 s' a' b' c'
   omega
 rw [he]
 exact this
theorem cN {σ:Type} {init:List Value} {h:ae} {Q:(List Value->ae->Prop)->List Value->ae->Prop} (enc:σ->List Value) (hp:σ->ae) (J:σ->Prop) (μ:σ->Nat) (s0:σ)
  (e0:enc s0=init) (eh:hp s0=h) (j0:J s0) (hr:∀s,J s->∀L:List Value->ae->Prop,(∀s',J s'->μ s'<μ s->L (enc s') (hp s'))->Q L (enc s) (hp s)):bT init h Q:=
 aCZ enc hp J μ s0 e0 eh j0 λs hs=>hr s hs _ λs' h1 h2=>⟨s',rfl,rfl,h1,h2⟩
def EX (h h':ae):Prop:=h.length<=h'.length/\∀i,i<h.length->h'[i]?=h[i]?
theorem EX.refl (h:ae):EX h h:=⟨le_refl _,λ_ _=>rfl⟩
theorem EX.trans {a b c:ae} (h:EX a b) (k:EX b c):EX a c:=⟨Nat.le_trans h.1 k.1,λi hi=>(k.2 i (Nat.lt_of_lt_of_le hi h.1)).trans (h.2 i hi)⟩
theorem EX.append (h g:ae):EX h (h++g):=⟨by simp,λi hi=>getElem?_append_left hi⟩
theorem EX.push {a h:ae} (k:EX a h) (g:ae):EX a (h++g):=k.trans (.append h g)
theorem EX.set {a h:ae} (k:EX a h) {i:Nat} (hi:a.length<=i) (o:az):EX a (h.set i o):=⟨by simpa using k.1,λj hj=>by rw [getElem?_set_ne (by omega)];exact k.2 j hj⟩
theorem EX.get {a h:ae} (k:EX a h) {i:Nat} {o:az} (hi:a[i]?=some o):h[i]?=some o:=by rw [k.2 i (cm hi).1];exact hi
theorem EX.cells {a h:ae} (k:EX a h) {i:Nat} {xs:List Value} (hi:bw a i=some xs):bw h i=some xs:=by
 unfold bw at hi⊢
 have aw:i<a.length:=by
  apply byContradiction
  intro hc
  rw [List.getElem?_eq_none (le_of_not_lt hc)] at hi
  simp at hi
 rw [k.2 i aw]
 exact hi
def kU:Value->Bool
 | .bool _ | .int .. | .string _ | .nilFunc | .nilIface=>true
 | .pointer none | .map none=>true
 | .slice none 0 0=>true
 | _=>false
theorem kU.rel {ρ aN:bk} {v v':Value} (h:kU v=true) (hv:aK ρ v v'):aK aN v v':=by
 unfold kU at h
 split at h
 ·cases hv;exact .bool _
 ·cases hv;exact .int _ _
 ·cases hv;exact .string _
 ·cases hv;exact .nilFunc
 ·cases hv;exact .nilIface
 ·cases hv;exact .tW
 ·cases hv;exact .tV
 ·cases hv;exact .qw
 ·cases h
def Ren (V:Nat->Value):Prop:=∀(ρ aN:bk) (i j:Nat) (v':Value),aN j=ρ i->aK ρ (V i) v'->aK aN (V j) v'
theorem Ren.kU {v:Value} (h:kU v=true):Ren λ_=>v:=λ_ _ _ _ _ _ hv=>kU.rel h hv
section gc
variable {P : Program} {F : FuncId} {args : List Value} {h : ae}
theorem ayY {K:Value->ae->Prop} {v:Value} (hV:Ren λ_=>v) (hc:ay P F args h λu h'=>u=v/\EX h h') (hk:K v h):ay P F args h K:=by
 rw [xI] at hc⊢
 obtain ⟨u,h',hc,rfl,hex⟩:=hc
 refine ⟨_,_,?_,hk⟩
 intro ρ args' w hv H
 refine (hc ρ args' w hv H).mono ?_
 rintro e w' ⟨v',aN,rfl,oE,H',T⟩
 have r3:∀k r,ρ k=some r->aN k=some r/\k<h.length/\h'[k]?=h[k]?:=λk r hr=>⟨T.ext k r hr,H.lt hr,hex.2 k (H.lt hr)⟩
 have mt:∀k,k<h.length->(fB h k↔fB h' k):=λk hk=>by unfold fB;rw [hex.2 k hk]
 have IM:∀k,k<h.length->(jH h k↔jH h' k):=λk hk=>by unfold jH;rw [hex.2 k hk]
 have kL:ρ h.length=none:=H.none
 have hn':∃i,ρ i=aN h'.length:=⟨h.length,by rw [kL,H'.none]⟩
 refine ⟨v',ρ,rfl,hV aN ρ h'.length h.length v' (by rw [kL,H'.none]) oE,⟨?_,?_,H.esz⟩,?_⟩
 ·intro k r hr
  obtain ⟨q1,q2,q3⟩:=r3 k r hr
  obtain ⟨o',fU,yP⟩:=H.obj k r hr
  obtain ⟨o2,u9,QC⟩:=H'.obj k r q1
  rw [q3,fU] at u9
  cases u9
  exact ⟨o',fU,yP.down T.ext QC⟩
 ·intro a b r s ha hb yQ hm hl
  obtain ⟨q1,q2,_⟩:=r3 a r ha
  obtain ⟨p1,p2,_⟩:=r3 b s hb
  exact H'.inj a b r s q1 p1 yQ ((mt a q2).1 hm) ((IM b p2).1 hl)
 ·exact {
   ext:=.refl _
   len:=le_refl _
   mo:=λk r hr=>H.lt hr
   kinds:=λ_ _ h=>h
   fresh:=λk r h1 h2=>by rw [h1] at h2;cases h2
   kN:=T.kN
   kY:=T.kY
   os:=T.os
   tape:=T.tape
   output:=T.output
   drawn:=T.drawn }
end gc
end
section
open Go.ChangeShapes Go.WideShapes Go.ChangeAt Go.RowKit
def pW (h:ae):Prop:=∀i,¬fB h i
section
variable {P : Program} {W : World} {ρ : bk} {h : ae}
theorem bN.start (P:Program) (W:World):bN P (λ_=>Option.none) [] W:=⟨λi r hi=>(by cases hi),λi j r s hi=>(by cases hi),λi r hi=>(by cases hi)⟩
theorem pW.start:pW []:=λi hm=>by unfold fB at hm;simp at hm
theorem bN.Ya (H:bN P ρ h W) (hr:pW h) {r:RI} (he:r.esz=P.cellsOf r.elem) {o:az} (jR:o=.dead∨∃e xs,o=.ro e xs) (ho:oO (ρ.add h.length r) W r o):
  bN P (ρ.add h.length r) (h++[o]) W/\pW (h++[o])/\ρ.le (ρ.add h.length r):=by
 have lU:pW (h++[o]):=by
  intro i hm
  unfold fB at hm
  by_cases hi:i<h.length
  ·rw [getElem?_append_left hi] at hm
   exact hr i hm
  ·by_cases he:i=h.length
   ·subst he
    have e:(h++[o])[h.length]?=some o:=by simp
    rw [e] at hm
    rcases jR with rfl | ⟨_,_,rfl⟩ <;> rcases hm with ⟨_,_,h1⟩ | ⟨_,h1⟩ | ⟨_,_,_,h1⟩ | ⟨_,_,h1⟩ | ⟨_,_,_,h1⟩ | ⟨_,_,_,_,h1⟩ <;> cases h1
   ·rw [List.getElem?_eq_none (by simp;omega)] at hm
    rcases hm with ⟨_,_,h1⟩ | ⟨_,h1⟩ | ⟨_,_,_,h1⟩ | ⟨_,_,h1⟩ | ⟨_,_,_,h1⟩ | ⟨_,_,_,_,h1⟩ <;> cases h1
 refine ⟨⟨?_,λi j r s _ _ _ hm=>absurd hm (lU i),?_⟩,lU,bk.vE H.none⟩
 ·intro i s hi
  unfold bk.add at hi
  split at hi
  ·rename_i e
   subst e
   cases hi
   exact ⟨o,by simp,ho⟩
  ·obtain ⟨o',h1,h2⟩:=H.obj i s hi
   exact ⟨o',by rw [getElem?_append_left (H.lt hi)];exact h1,h2.mono (bk.vE H.none) rfl⟩
 ·intro i s hi
  unfold bk.add at hi
  split at hi
  ·cases hi;exact he
  ·exact H.esz i s hi
theorem kU.self {v:Value} (hs:kU v=true) (ρ:bk):aK ρ v v:=by
 unfold kU at hs
 split at hs
 ·exact .bool _
 ·exact .int _ _
 ·exact .string _
 ·exact .nilFunc
 ·exact .nilIface
 ·exact .tW
 ·exact .tV
 ·exact .qw
 ·cases hs
theorem kU.cell {v:Value} (hs:kU v=true):jv v=true:=by
 unfold kU at hs
 split at hs <;> first | rfl | cases hs
variable {H : Type} {enc : TypeId × Value -> H}
theorem addr_eq {a:Addr} (hs:a.spot=none) (n:Nat):a.add n=⟨a.block,a.off+n,none⟩:=by
 obtain ⟨b,o,s⟩:=a
 simp only at hs
 subst hs
 unfold Addr.add
 split
 ·rename_i h;subst h;rfl
 ·rfl
theorem az6 {t e:TypeId} (ht:P.underlying t=some (.slice e)) (iO:P.cellsOf e≠0)
  (flat:∀n cs y,DataW.trod enc P W 0 (λ_=>true) true n e cs=some y->cs.length=P.cellsOf e/\∀x∈cs,kU x=true)
  {fuel:Nat} {v:Value} {x:DataW H×List MemPlace} (hd:DataW.trod enc P W 0 (λ_=>true) true fuel t [v]=some x) (bc:∀(a:Addr) (len cap:Nat),v=.slice (some a) len cap->a.spot=none) (HR:bN P ρ h W) (lU:pW h):
  ∃(aN:bk) (g:ae) (v':Value) (n:Nat) (xs:List Value),ρ.le aN/\bN P aN (h++g) W/\pW (h++g)/\aK aN v' v/\jv v'=true/\
   ((v'=.slice none 0 0/\n=0)∨∃i,v'=sl e i 0 n/\(n=0∨bw (h++g) i=some xs))/\xs.length=n*P.cellsOf e/\(∀y∈xs,kU y=true)/\
   ∀i,i<n->∃m y,DataW.trod enc P W 0 (λ_=>true) true m e ((xs.drop (i*P.cellsOf e)).take (P.cellsOf e))=some y:=by
 rcases DataW.trod_slice ht hd with ⟨h1,_⟩ | ⟨a,len,cap,aMs,rest,n,_,h1,_,hb,hl,hm,hlen,hel,hsp,_⟩
 ·obtain rfl:v=.slice none 0 0:=by simpa using h1
  exact ⟨ρ,[],.slice none 0 0,0,[],.refl _,by simpa using HR,by simpa using lU,.qw,rfl,.inl ⟨rfl,rfl⟩,by simp,by simp,λi hi=>by omega⟩
 ·obtain rfl:v=.slice (some a) len cap:=by simpa using h1
  have A0:a.spot=none:=bc a len cap rfl
  obtain ⟨hrl,hr⟩:=hsp rfl
  -- every aMr cells lie there
  have each:∀i,i<cap->∃cs y,W.cells? 0 (a.add (i*P.cellsOf e)) (P.cellsOf e)=some cs/\DataW.trod enc P W 0 (λ_=>true) true n e cs=some y:=by
   intro i hi
   have qT:∃y,(W.cells? 0 (a.add (i*P.cellsOf e)) (P.cellsOf e)).bind (DataW.trod enc P W 0 (λ_=>true) true n e)=some y:=by
    by_cases gS:i<len
    ·rw [hel i gS,getElem?_eq_getElem (by omega)]
     exact ⟨_,rfl⟩
    ·have:=hr (i-len) (by omega)
     rw [show len+(i-len)=i by omega] at this
     rw [this,getElem?_eq_getElem (by omega)]
     exact ⟨_,rfl⟩
   obtain ⟨y,hy⟩:=qT
   rw [Option.bind_eq_some_iff] at hy
   obtain ⟨cs,h1,h2⟩:=hy
   exact ⟨cs,y,h1,h2⟩
  by_cases yu:cap=0
  ·subst yu
   obtain rfl:len=0:=by omega
   obtain ⟨H',QD,hle⟩:=HR.Ya lU (r:=⟨a.block,a.off,e,P.cellsOf e,a.off⟩) rfl (.inl rfl) trivial
   refine ⟨_,[.dead],sl e h.length 0 0,0,[],hle,H',QD,?_,rfl,.inr ⟨_,rfl,.inl rfl⟩,by simp,by simp,λi hi=>by omega⟩
   obtain ⟨ab,ao,wk⟩:=a
   simp only at A0
   subst A0
   exact aK.slice (ρ:=ρ.add h.length ⟨ab,ao,e,P.cellsOf e,ao⟩) (i:=h.length) (o:=0) (n:=0) (o':=ao) (c':=0) (r:=⟨ab,ao,e,P.cellsOf e,ao⟩) (by simp [bk.add]) (.inl rfl) (le_refl _) (by unfold maxLen;omega) (by simp) ⟨le_refl _,le_refl _⟩
  ·have yD:0<P.cellsOf e:=by omega
   -- j6 block
   have hblk:∃c tt fr,W.heap[a.block]?=some (.cells c tt fr):=by
    obtain ⟨cs,y,h1,h2⟩:=each 0 (by omega)
    obtain ⟨_,g2,g3⟩:=World.cells?_some h1
    have:=g3 0 yD
    rw [Nat.zero_mul,addr_eq A0 0,addr_eq rfl 0,getElem?_eq_getElem (by omega)] at this
    unfold World.cell? at this
    split at this
    ·rename_i c tt fr hh;exact ⟨c,tt,fr,hh⟩
    ·cases this
   obtain ⟨c,tt,fr,tA⟩:=hblk
   have get:∀i cs,W.cells? 0 (a.add (i*P.cellsOf e)) (P.cellsOf e)=some cs->∀j,j<P.cellsOf e->c[a.off+(i*P.cellsOf e+j)]?=cs[j]?:=by
    intro i cs h1 j hj
    obtain ⟨_,g2,g3⟩:=World.cells?_some h1
    have:=g3 j hj
    rw [addr_eq A0,addr_eq rfl] at this
    simp only [World.cell?,tA] at this
    simpa [Nat.add_assoc] using this
   have here:∀j,j<cap*P.cellsOf e->∃y,c[a.off+j]?=some y/\kU y=true:=by
    intro j hj
    have hi:j / P.cellsOf e<cap:=(Nat.div_lt_iff_lt_mul yD).2 hj
    obtain ⟨cs,y,h1,h2⟩:=each _ hi
    obtain ⟨f1,f2⟩:=flat n cs y h2
    have py:j%P.cellsOf e<P.cellsOf e:=Nat.mod_lt _ yD
    have:=get _ cs h1 (j%P.cellsOf e) py
    rw [show j / P.cellsOf e*P.cellsOf e+j%P.cellsOf e=j by rw [Nat.mul_comm];exact Nat.div_add_mod j _] at this
    rw [this,getElem?_eq_getElem (by omega)]
    exact ⟨_,rfl,f2 _ (List.getElem_mem _)⟩
   let xs:=(List.range (len*P.cellsOf e)).map λj=>c.getD (a.off+j) Go.undef
   have iH:xs.length=len*P.cellsOf e:=by simp [xs]
   have hlc:len*P.cellsOf e<=cap*P.cellsOf e:=Nat.mul_le_mul_right _ hl
   have QQ:∀j,j<len*P.cellsOf e->xs[j]?=c[a.off+j]?:=by
    intro j hj
    obtain ⟨y,h1,_⟩:=here j (by omega)
    simp [xs,hj,h1]
   have A4:∀y∈xs,kU y=true:=by
    intro y hy
    obtain ⟨j,hj⟩:=List.getElem?_of_mem hy
    have aw:j<len*P.cellsOf e:=by have:=(cm hj).1;omega
    obtain ⟨z,h1,h2⟩:=here j (by omega)
    rw [QQ j aw,h1] at hj
    cases hj
    exact h2
   have aBz:a.off+cap*P.cellsOf e<=c.size:=by
    have aML:0<cap*P.cellsOf e:=Nat.mul_pos (by omega) yD
    obtain ⟨y,h1,_⟩:=here (cap*P.cellsOf e-1) (by omega)
    have:=(Array.getElem?_eq_some_iff.1 h1).1
    omega
   obtain ⟨H',QD,hle⟩:=HR.Ya lU (r:=⟨a.block,a.off,e,P.cellsOf e,c.size⟩) rfl (.inr ⟨e,xs,rfl⟩) ⟨rfl,c,tt,fr,tA,rfl,λj y hj=>by
    have aw:j<len*P.cellsOf e:=by have:=(cm hj).1;omega
    rw [QQ j aw] at hj
    obtain ⟨z,h1,h2⟩:=here j (by omega)
    rw [h1] at hj
    cases hj
    exact ⟨kU.cell h2,_,h1,kU.self h2 _⟩⟩
   refine ⟨_,[.ro e xs],sl e h.length 0 len,len,xs,hle,H',QD,?_,rfl,.inr ⟨_,rfl,.inr (by simp [bw])⟩,iH,A4,?_⟩
   ·obtain ⟨ab,ao,wk⟩:=a
    simp only at A0
    subst A0
    exact aK.slice (ρ:=ρ.add h.length ⟨ab,ao,e,P.cellsOf e,c.size⟩) (i:=h.length) (o:=0) (n:=len) (o':=ao) (c':=cap) (r:=⟨ab,ao,e,P.cellsOf e,c.size⟩) (by simp [bk.add]) (.inl rfl) hl hm aBz ⟨le_refl _,hl⟩
   ·intro i hi
    obtain ⟨cs,y,h1,h2⟩:=each i (by omega)
    refine ⟨n,y,?_⟩
    have gM:=(flat n cs y h2).1
    have Qp:(i+1)*P.cellsOf e<=len*P.cellsOf e:=Nat.mul_le_mul_right _ hi
    rw [Nat.add_mul,Nat.one_mul] at Qp
    have:(xs.drop (i*P.cellsOf e)).take (P.cellsOf e)=cs:=by
     apply List.ext_getElem?
     intro j
     rw [List.getElem?_take]
     by_cases hj:j<P.cellsOf e
     ·rw [if_pos hj,List.getElem?_drop,QQ _ (by omega),get i cs h1 j hj]
     ·rw [if_neg hj,List.getElem?_eq_none (by omega)]
    rw [this]
    exact h2
theorem az5 {t e:TypeId} (ht:P.underlying t=some (.slice e)) (iO:P.cellsOf e≠0)
  (flat:∀n cs y,DataW.trod enc P W 0 (λ_=>true) true n e cs=some y->cs.length=P.cellsOf e/\∀x∈cs,kU x=true)
  {fuel b:Nat} {v:Value} {x:DataW H×List MemPlace} (hd:DataW.trod enc P W 0 (λ_=>true) true fuel t [v]=some x) (bc:Cell.okWide P W .any b t v) (HR:bN P ρ h W) (lU:pW h):
  ∃(aN:bk) (g:ae) (v':Value) (n:Nat) (xs:List Value),ρ.le aN/\bN P aN (h++g) W/\pW (h++g)/\aK aN v' v/\jv v'=true/\
   ((v'=.slice none 0 0/\n=0)∨∃i,v'=sl e i 0 n/\(n=0∨bw (h++g) i=some xs))/\xs.length=n*P.cellsOf e/\(∀y∈xs,kU y=true)/\
   ∀i,i<n->∃m y,DataW.trod enc P W 0 (λ_=>true) true m e ((xs.drop (i*P.cellsOf e)).take (P.cellsOf e))=some y:=by
 refine az6 ht iO flat hd (λa len cap hv=>?_) HR lU
 subst hv
 simp only [Cell.okWide,ht,Cell.ok] at bc
 exact bc.2.2.2.1
theorem aKU {e:TypeId} {k:IntKind} (he:P.underlying e=some (.int k)) (hc:P.cellsOf e=1):∀n cs y,DataW.trod enc P W 0 (λ_=>true) true n e cs=some y->cs.length=P.cellsOf e/\∀x∈cs,kU x=true:=by
 intro n cs y h
 obtain ⟨m,rfl,_,_⟩:=DataW.trod_int he h
 exact ⟨by rw [hc];rfl,by simp [kU]⟩
theorem anX (hl:laidOutB P=true) {W':World} (hb:Below W.heap.size W W'):∀{ts:List TypeId} {vs:List Value} {ds:List (DataW H)} {p:List MemPlace},(∀t∈ts,P.readableRec t=true/\t<P.types.size)->
  DataW.TrodAll enc P W 0 (λ_=>true) true ts vs ds p->(∀x∈p,x.block<W.heap.size)->DataW.TrodAll enc P W' 0 (λb=>decide (b<W.heap.size)) true ts vs ds p
 | [],vs,ds,p,_,h,_=>by
  obtain ⟨rfl,rfl,rfl⟩:=trodAll_nil h
  exact trodAll_mk0
 | t::ts,vs,ds,p,hr,h,aw=>by
  obtain ⟨v,kX,d,ds',a,b,rfl,rfl,rfl,h1,h2⟩:=trodAll_cons h
  exact trodAll_cons_mk (Below.trod hl (hr t (by simp)).1 (hr t (by simp)).2 h1 hb λx hx=>aw x (by simp [hx]))
   (anX hl hb (λt ht=>hr t (by simp [ht])) h2 λx hx=>aw x (by simp [hx]))
theorem aDB (hl:laidOutB P=true) {f:Func} {s:ChangeSpec} {t4:TypeId} {W':World} {args:Array Value} {ds gs:List (DataW H)} {before:List MemPlace} (hW:DataW.Whole enc P f.params.toList s.vars false W args.toList ds gs before)
  (hv:s.vars=[]) (ht4:P.underlying t4=some .bool) (hr:f.resultTypes=#[t4]) (P3:∀PN,PN=[]->s.fn H (ds++PN)={ results:=[.lit (.bool true)],args:=ds })
  (aBr:∀t∈f.params.toList,P.readableRec t=true/\t<P.types.size) (hb:Below W.heap.size W W'):s.post enc P f false true false false W args (.bool true) W':=by
 have HY:=hW
 obtain ⟨p,q,hA,hV,rfl,_,_⟩:=hW
 rw [hv] at hV
 obtain ⟨rfl,rfl⟩:=trodVars_none hV
 have aw:∀x∈p,x.block<W.heap.size:=λx hx=>HY.lt x (by simp [hx])
 have e:=P3 [] rfl
 refine ⟨ds,[],p++[],[],p,[],HY,?_,?_,?_,hb.frame _,λh=>by cases h⟩
 ·rw [e,hr]
  exact trodAll_mk1 (shut_bool ht4 true)
 ·rw [e]
  exact anX hl hb aBr hA aw
 ·rw [e,hv]
  rfl
end
end
section
theorem zB (k:IntKind) (a b:Nat) (hb:b≠0):aj .rem (.int k (a:Int)) (.int k (b:Int))=some (.int k ((a%b:Nat):Int)):=by
 have h:¬((b:Int)=0):=by omega
 simp only [aj,jE,if_true,if_neg h]
 congr 2
theorem dP (i:Nat) (h:i<maxLen):IntKind.wrap .i64 ((i:Int)+1)=((i+1:Nat):Int):=by
 unfold maxLen at h
 rw [wrap64 (by omega) (by omega)];omega
structure NS (h:ae) (v:Value) (k:IntKind) (ns:List Int):Prop where
 len:aT v=some (I ns.length)
 get:∀i (hi:i<ns.length),∃b o,aD 1 v (I i)=some (pt b o)/\af false 1 h (pt b o)=some (.int k ns[i])
 le:ns.length<=maxLen
theorem aCX {h h':ae} (k:EX h h') {agg:Bool} {n:Nat} {a v:Value} (hl:af agg n h a=some v):af agg n h' a=some v:=by
 unfold af at hl⊢
 split at hl
 ·rename_i i o
  cases hc:bw h i with
  | none=>rw [hc] at hl;cases hl
  | some xs=>rw [hc] at hl;rw [k.cells hc];exact hl
 ·cases hl
theorem NS.mono {h h':ae} {v:Value} {k:IntKind} {ns:List Int} (e:EX h h') (p:NS h v k ns):NS h' v k ns:=
 ⟨p.len,λj hj=>let ⟨i,o,a,b⟩:=p.get j hj;⟨i,o,a,aCX e b⟩,p.le⟩
theorem NS.nil (h:ae) (k:IntKind):NS h (.slice none 0 0) k []:=⟨rfl,λi hi=>by simp at hi,by simp⟩
theorem NS.sl {h:ae} {e:TypeId} {i:Nat} {k:IntKind} {ns:List Int} (hc:ns=[]∨bw h i=some (ns.map (Value.int k))) (hl:ns.length<=maxLen):NS h (sl e i 0 ns.length) k ns:=by
 refine ⟨rfl,λj hj=>⟨i,j,?_,?_⟩,hl⟩
 ·have:(0:Int)<=(j:Int)/\(j:Int)<(ns.length:Int):=by omega
  simp [Go.Sim.sl,aD,this]
 ·have hc:=hc.resolve_left (by rintro rfl;simp at hj)
  simp [af,hc,dS,hj]
section
open Go.ChangeShapes
variable {P : Program} {W : World} {ρ : bk} {h : ae} {H : Type} {enc : TypeId × Value -> H}
theorem afJ {e:TypeId} {k:IntKind} (he:P.underlying e=some (.int k)):∀{n:Nat} {xs:List Value},xs.length=n*1->(∀i,i<n->∃m y,DataW.trod enc P W 0 (λ_=>true) true m e ((xs.drop (i*1)).take 1)=some y)->
  ∃ns:List Int,ns.length=n/\xs=ns.map (Value.int k)/\∀x∈ns,(Lit.int k x).wf=true
 | 0,xs,hl,_=>⟨[],rfl,by simpa using hl,by simp⟩
 | n+1,xs,hl,hp=>by
  match xs,hl with
  | x::xs,hl=>
   obtain ⟨m,y,hy⟩:=hp 0 (by omega)
   simp at hy
   obtain ⟨z,hz,_,hw⟩:=DataW.trod_int he hy
   simp at hz
   subst hz
   obtain ⟨ns,h1,h2,h3⟩:=afJ he (n:=n) (xs:=xs) (by simp at hl;omega) λi hi=>by
    have:=hp (i+1) (by omega)
    rw [show (i+1)*1=i*1+1 by omega] at this
    simpa using this
   exact ⟨z::ns,by simp [h1],by simp [h2],by intro a ha;rcases mem_cons.1 ha with rfl | ha;exact hw;exact h3 a ha⟩
theorem az4 {t e:TypeId} {k:IntKind} (ht:P.underlying t=some (.slice e)) (he:P.underlying e=some (.int k)) (oz:P.cellsOf e=1)
  {fuel b:Nat} {v:Value} {x:DataW H×List MemPlace} (hd:DataW.trod enc P W 0 (λ_=>true) true fuel t [v]=some x) (bc:Cell.okWide P W .any b t v) (HR:bN P ρ h W) (lU:pW h):
  ∃(aN:bk) (g:ae) (v':Value) (ns:List Int),ρ.le aN/\bN P aN (h++g) W/\pW (h++g)/\aK aN v' v/\jv v'=true/\NS (h++g) v' k ns/\∀x∈ns,(Lit.int k x).wf=true:=by
 obtain ⟨aN,g,v',n,xs,e1,e2,e3,e4,e5,e6,e7,e8,e9⟩:=az5 ht (by rw [oz];exact Nat.succ_ne_zero 0) (aKU he oz) hd bc HR lU
 rw [oz] at e7 e9
 obtain ⟨ns,q1,rfl,q3⟩:=afJ he e7 e9
 refine ⟨aN,g,v',ns,e1,e2,e3,e4,e5,?_,q3⟩
 have hlen:n<=maxLen:=by
  rcases e6 with ⟨rfl,rfl⟩ | ⟨i,rfl,_⟩
  ·simp
  ·obtain ⟨r,o',c',_,_,_,_,h4,h5,_⟩:=anM e4
   omega
 rcases e6 with ⟨rfl,rfl⟩ | ⟨i,rfl,h0⟩
 ·have:ns=[]:=List.length_eq_zero_iff.1 q1
  subst this
  exact NS.nil _ _
 ·subst q1
  exact NS.sl (h0.imp (λh=>List.length_eq_zero_iff.1 h) id) hlen
end
end
section
theorem EX.load {h h':ae} (k:EX h h') {agg:Bool} {n:Nat} {a v:Value} (hl:af agg n h a=some v):af agg n h' a=some v:=by
 unfold af at hl⊢
 split at hl
 ·rename_i i o
  cases hc:bw h i with
  | none=>rw [hc] at hl;cases hl
  | some xs=>rw [hc] at hl;rw [k.cells hc];exact hl
 ·cases hl
theorem inc (i:Nat) (h:i<4611686018427387904):IntKind.wrap .i64 ((i:Int)+1)=((i+1:Nat):Int):=by
 rw [wrap64 (by omega) (by omega)];omega
@[simp] theorem cj (o i k : Nat) : aF o (pt i k) = some (pt i (k + o)) := rfl
@[simp] theorem aMU (i k : Nat) : eI (pt i k) = some (pt i k) := rfl
def oQ (ps:List (Int×Int)):List Value:=ps.flatMap λp=>[I p.1,I p.2]
theorem JG:∀{ps:List (Int×Int)} {k:Nat} {p:Int×Int},ps[k]?=some p->(oQ ps)[2*k]?=some (I p.1)/\(oQ ps)[2*k+1]?=some (I p.2)
 | [],k,p,h=>by simp at h
 | q::ps,0,p,h=>by simp at h;subst h;simp [oQ]
 | q::ps,k+1,p,h=>by
  have:=JG (ps:=ps) (k:=k) (p:=p) (by simpa using h)
  rw [show 2*(k+1)=2*k+1+1 by omega]
  simpa [oQ] using this
theorem aDz (ps:List (Int×Int)):(oQ ps).length=2*ps.length:=by
 induction ps with
 | nil=>rfl
 | cons p ps ih=>simp only [oQ,List.flatMap_cons,List.length_append,length_cons,List.length_nil] at ih⊢;omega
structure PS (h:ae) (v:Value) (ps:List (Int×Int)):Prop where
 len:aT v=some (I ps.length)
 get:∀k (hk:k<ps.length),∃i o,aD 2 v (I k)=some (pt i o)/\af false 1 h (pt i o)=some (I ps[k].1)/\af false 1 h (pt i (o+1))=some (I ps[k].2)/\
  af true 2 h (pt i o)=some (.agg #[I ps[k].1,I ps[k].2])
theorem PS.mono {h h':ae} {v:Value} {ps:List (Int×Int)} (k:EX h h') (p:PS h v ps):PS h' v ps:=
 ⟨p.len,λj hj=>let ⟨i,o,a,b,c,d⟩:=p.get j hj;⟨i,o,a,EX.load k b,EX.load k c,EX.load k d⟩⟩
theorem PS.sl {h:ae} {e:TypeId} {i:Nat} {ps:List (Int×Int)} (hc:bw h i=some (oQ ps)):PS h (sl e i 0 ps.length) ps:=by
 refine ⟨rfl,λk hk=>⟨i,2*k,?_,?_,?_,?_⟩⟩
 ·have:(0:Int)<=(k:Int)/\(k:Int)<(ps.length:Int):=by omega
  simp [Go.Sim.sl,aD,this,Nat.mul_comm]
 ·obtain ⟨g1,g2⟩:=JG (getElem?_eq_getElem hk)
  simp [af,hc,dS,g1]
 ·obtain ⟨g1,g2⟩:=JG (getElem?_eq_getElem hk)
  simp [af,hc,dS,g2]
 ·obtain ⟨g1,g2⟩:=JG (getElem?_eq_getElem hk)
  have hl:=aDz ps
  have:((oQ ps).drop (2*k)).take 2=[I ps[k].1,I ps[k].2]:=by
   apply List.ext_getElem?
   intro j
   rw [List.getElem?_take]
   match j with
   | 0=>simpa using g1
   | 1=>simpa using g2
   | j+2=>simp;omega
  have h2:2*k+2<=(oQ ps).length:=by omega
  simp [af,hc,dS,this,h2]
def gA (b:Nat) (hx:ae) (e:TypeId) (v:Value) (xs:List Value):Prop:=
 (v=.slice none 0 0/\xs=[])∨(∃i,b<=i/\v=sl e i 0 xs.length/\hx[i]?=some (.arr e xs))
theorem Yd {h0 hx:ae} {e:TypeId} {bytes:Nat} {v x z:Value} {xs:List Value} {K:Value->ae->Prop} (o:gA h0.length hx e v xs) (hex:EX h0 hx) (hb:(xs.length+1)*bytes<=140737488355328) (hm:xs.length+1<=maxLen)
  (h1:fV x=true) (h2:dL x=[x]) (hk:∀v' dM,EX h0 dM->gA h0.length dM e v' (xs++[x])->K v' dM):
  OH (cH e 1 [z] hx [(0,1,x)]) λa h2=>OH (cT e 1 bytes h2 v a) K:=by
 have e1:cH e 1 [z] hx [(0,1,x)]=some (sl e hx.length 0 1,hx++[.arr e [x]]):=by
  simp [cH,jC,bE,h1,h2,setAt]
 rw [e1]
 simp only [aL]
 have e2:fx (hx++[.arr e [x]]) 1 (sl e hx.length 0 1)=some [x]:=by simp [fx,sl,bw]
 have e3:iY (sl e hx.length 0 1)=some 1:=rfl
 rcases o with ⟨rfl,rfl⟩ | ⟨i,hi,rfl,dE⟩
 ·refine X1 (v:=sl e (hx.length+1) 0 1) (h:=hx++[.arr e [x]]++[.arr e [x]]) ?_ (hk _ _ ((hex.push _).push _) (.inr ⟨hx.length+1,by have:=hex.1;omega,rfl,by simp⟩))
  have qT:1*bytes<=140737488355328:=by simpa using hb
  have kk:1<=maxLen:=by simpa using hm
  simp only [cT,e2,e3]
  rw [if_neg (by omega),if_pos ⟨qT,kk⟩]
  simp
 ·have aw:=(cm dE).1
  have hg:(hx++[.arr e [x]])[i]?=some (.arr e xs):=by rw [getElem?_append_left aw];exact dE
  refine X1 (v:=sl e (hx.length+1) 0 (xs.length+1)) (h:=(hx++[az.arr e [x]]).set i az.dead++[az.arr e (xs++[x])]) ?_
   (hk _ _ (((hex.push _).set hi _).push _) (.inr ⟨hx.length+1,by have:=hex.1;omega,by simp,?_⟩))
  ·simp only [cT,e2,e3]
   simp only [sl,hg]
   rw [if_pos ⟨trivial,trivial,by simp,hb,hm⟩,if_neg (by omega)]
   simp
  ·rw [List.getElem?_append_right (by simp)]
   simp
theorem xR {b:Nat} {hx:ae} {e:TypeId} {v:Value} {l:List UInt8} (o:gA b hx e v (l.map cv)):ry hx v=some (S l):=by
 have hm:∀l:List UInt8,(l.map cv).mapM B1=some l:=by
  intro l
  induction l with
  | nil=>rfl
  | cons c l ih=>simp [List.mapM_cons,B1,ih]
 rcases o with ⟨rfl,hx⟩ | ⟨i,hi,rfl,dE⟩
 ·have:l=[]:=by simpa using hx
  subst this
  rfl
 ·by_cases hl:l=[]
  ·subst hl
   simp [ry,fx,sl]
  ·have hn:l.length≠0:=by simpa using hl
   have hn':¬(l.map cv).length=0:=by simpa using hl
   have ht:((l.map cv).drop 0).take ((l.map cv).length*1)=l.map cv:=by rw [List.drop_zero,Nat.mul_one,List.take_length]
   simp only [ry,fx,sl,if_neg hn',bw,dE,bind_some]
   rw [if_pos (by omega),ht,bind_some,hm]
   rfl
theorem min2 (a b:Int):lI false [I a,I b]=some (I (min a b)):=by
 simp only [lI,List.foldlM,max2,Bool.false_eq_true,if_false]
 have:(if b<a then b else a)=min a b:=by split <;> omega
 rw [this]
 rfl
theorem IW (a b:Int):lI true [I a,I b]=some (I (max a b)):=by
 simp only [lI,List.foldlM,max2,if_true]
 have:(if b>a then b else a)=max a b:=by split <;> omega
 rw [this]
 rfl
theorem sD {h:ae} {e:TypeId} {xs:List Value} {j:Nat} {v:Value} (hj:xs[j]?=some v):af false 1 (h++[.arr e xs]) (pt h.length j)=some v:=by
 simp [af,bw,dS,hj]
theorem aKt {v x:Value} (h:aT v=some x):fV v=true/\dL v=[v]:=by
 unfold aT at h
 split at h
 ·exact ⟨rfl,rfl⟩
 ·cases h
def XM (im:Nat) (h h':ae):Prop:=h.length<=h'.length/\∀d,d<h.length->d≠im->h'[d]?=h[d]?
theorem XM.refl (im:Nat) (h:ae):XM im h h:=⟨le_refl _,λ_ _ _=>rfl⟩
theorem XM.trans {im:Nat} {a b c:ae} (h:XM im a b) (k:XM im b c):XM im a c:=⟨Nat.le_trans h.1 k.1,λd h1 h2=>(k.2 d (Nat.lt_of_lt_of_le h1 h.1) h2).trans (h.2 d h1 h2)⟩
theorem XM.ex {im:Nat} {a b:ae} (h:EX a b):XM im a b:=⟨h.1,λd h1 _=>h.2 d h1⟩
theorem XM.set {im:Nat} {a b:ae} (h:XM im a b) (o:az):XM im a (b.set im o):=⟨by simpa using h.1,λd h1 h2=>by rw [getElem?_set_ne (by omega)];exact h.2 d h1 h2⟩
theorem XM.get {im:Nat} {a b:ae} (h:XM im a b) {d:Nat} {o:az} (hd:d≠im) (hg:a[d]?=some o):b[d]?=some o:=by
 rw [h.2 d (cm hg).1 hd];exact hg
theorem af9 {h:ae} {d:Nat} {v:Value} (hc:bw h d=some [v]):af false 1 h (pt d 0)=some v:=by
 simp [af,hc,dS]
@[simp] theorem gi (a b : Value) : (#[a, b] : Array Value)[0]? = some a := rfl
@[simp] theorem gj (a b : Value) : (#[a, b] : Array Value)[1]? = some b := rfl
theorem bK {h:ae} {o:az}:(h++[o])[h.length]?=some o:=by simp
theorem aKh (xs:List Value) (o:Nat) (v:Value) (ho:o<xs.length):setAt xs o [v]=xs.set o v:=by
 unfold setAt
 rw [List.set_eq_take_append_cons_drop,if_pos ho]
 simp
theorem kz {h:ae} {i o:Nat} {e:TypeId} {xs:List Value} {v:Value} (hg:h[i]?=some (.arr e xs)) (ho:o<xs.length) (h1:fV v=true) (h2:dL v=[v]):aU 1 h (pt i o) v=some (undef,h.set i (.arr e (xs.set o v))):=by
 simp only [aU,sw,hg,h1,h2,aKh _ _ _ ho]
 rw [if_pos ⟨trivial,rfl,by omega⟩]
 rfl
theorem BV {b:Nat} {hx:ae} {e:TypeId} {bytes:Nat} {v x z:Value} {xs:List Value} {K:Value->ae->Prop} (o:gA b hx e v xs) (hb:(xs.length+1)*bytes<=140737488355328) (hm:xs.length+1<=maxLen)
  (h1:fV x=true) (h2:dL x=[x]) (hk:∀h1 dM,h1=hx++[.arr e [x]]->dM.length=hx.length+2->(∀d,d<hx.length->(∀n,v≠sl e d 0 n)->dM[d]?=hx[d]?)->dM[hx.length+1]?=some (.arr e (xs++[x]))->OH (some (sl e (hx.length+1) 0 (xs.length+1),dM)) K):
  OH (cH e 1 [z] hx [(0,1,x)]) λa h2=>OH (cT e 1 bytes h2 v a) K:=by
 have e1:cH e 1 [z] hx [(0,1,x)]=some (sl e hx.length 0 1,hx++[.arr e [x]]):=by
  simp [cH,jC,bE,h1,h2,setAt]
 rw [e1]
 simp only [aL]
 have e2:fx (hx++[.arr e [x]]) 1 (sl e hx.length 0 1)=some [x]:=by simp [fx,sl,bw]
 have e3:iY (sl e hx.length 0 1)=some 1:=rfl
 rcases o with ⟨rfl,rfl⟩ | ⟨i,hi,rfl,dE⟩
 ·have qT:1*bytes<=140737488355328:=by simpa using hb
  have kk:1<=maxLen:=by simpa using hm
  have e4:cT e 1 bytes (hx++[.arr e [x]]) (.slice none 0 0) (sl e hx.length 0 1)=some (sl e (hx.length+1) 0 1,hx++[.arr e [x]]++[.arr e [x]]):=by
   simp only [cT,e2,e3]
   rw [if_neg (by omega),if_pos ⟨qT,kk⟩]
   simp
  rw [e4]
  refine hk _ _ rfl (by simp) (λd hd _=>by rw [getElem?_append_left (by simp;omega),getElem?_append_left hd]) (by rw [List.getElem?_append_right (by simp)];simp)
 ·have aw:=(cm dE).1
  have hg:(hx++[.arr e [x]])[i]?=some (.arr e xs):=by rw [getElem?_append_left aw];exact dE
  have e4:cT e 1 bytes (hx++[.arr e [x]]) (sl e i 0 xs.length) (sl e hx.length 0 1)=some (sl e (hx.length+1) 0 (xs.length+1),(hx++[az.arr e [x]]).set i az.dead++[az.arr e (xs++[x])]):=by
   simp only [cT,e2,e3]
   simp only [sl,hg]
   rw [if_pos ⟨trivial,trivial,by simp,hb,hm⟩,if_neg (by omega)]
   simp
  rw [e4]
  refine hk _ _ rfl (by simp) (λd hd bY=>?_) (by rw [List.getElem?_append_right (by simp)];simp)
  have CG:i≠d:=by rintro rfl;exact bY _ rfl
  rw [getElem?_append_left (by simp;omega),getElem?_set_ne CG,getElem?_append_left hd]
theorem vN {e e':TypeId} {i i' o o' n n':Nat} (h:sl e i o n=sl e' i' o' n'):i=i'/\n=n':=by
 unfold sl at h
 injection h with h1 h2
 injection h1 with h1
 injection h1 with h1
 exact ⟨h1,h2⟩
theorem gA.iu {b:Nat} {g g':ae} {e:TypeId} {v:Value} {xs:List Value} (o:gA b g e v xs) (h:∀d n,v=sl e d 0 n->b<=d->g'[d]?=g[d]?):gA b g' e v xs:=by
 rcases o with ⟨h1,h2⟩ | ⟨i,h1,h2,h3⟩
 ·exact .inl ⟨h1,h2⟩
 ·exact .inr ⟨i,h1,h2,by rw [h i _ h2 h1];exact h3⟩
theorem gA.lt {b:Nat} {g:ae} {e:TypeId} {v:Value} {xs:List Value} {d n:Nat} (o:gA b g e v xs) (h:v=sl e d 0 n):b<=d/\d<g.length/\g[d]?=some (.arr e xs):=by
 rcases o with ⟨h1,_⟩ | ⟨i,h1,h2,h3⟩
 ·rw [h1] at h;cases h
 ·rw [h2] at h
  obtain ⟨rfl,_⟩:=vN h
  exact ⟨h1,(cm h3).1,h3⟩
theorem jL {e:TypeId} {id n j:Nat} (hj:j<n):aD 1 (sl e id 0 n) (I j)=some (pt id j):=by
 have:(0:Int)<=(j:Int)/\(j:Int)<(n:Int):=by omega
 simp [sl,aD,this]
theorem gF {h:ae} {i:Nat} {o o':az} (hg:h[i]?=some o'):(h.set i o)[i]?=some o:=by
 rw [getElem?_set_self (cm hg).1]
theorem He {P:Program} {F:FuncId} {cap:Array Value} {args:List Value} {h:ae} {K:Value->ae->Prop} (hF:rS P F=true) (hc:ay P F (args++cap.toList) h K):sR P (.func (.func F) #[] cap) args h K:=by
 rw [xI] at hc
 exact ⟨⟨hF,by simpa using hc⟩⟩
end
section
theorem XM.iz {im:Nat} {a h h':ae} (k:EX a h) (iG:a.length<=im) (x:XM im h h'):EX a h':=
 ⟨Nat.le_trans k.1 x.1,λd hd=>by rw [x.2 d (Nat.lt_of_lt_of_le hd k.1) (by omega)];exact k.2 d hd⟩
theorem auk {h:ae} {e:TypeId} {esz bytes b m:Nat} {v:Value} {cs:List Value} (hb:h[b]?=some (.arr e [])) (hc:fx h esz v=some cs) (hl:iY v=some m) (nC:m=0->cs=[]) (h1:m*bytes<=140737488355328) (h2:m<=maxLen):
  ∃i h',cT e esz bytes h (sl e b 0 0) v=some (sl e i 0 m,h')/\(i=b∨i=h.length)/\XM b h h'/\h'[i]?=some (.arr e cs):=by
 have aw:=(cm hb).1
 simp only [cT,hc,hl]
 simp only [sl,hb]
 by_cases h0:m=0
 ·subst h0
  refine ⟨b,h,?_,.inl rfl,XM.refl _ _,by rw [nC rfl];exact hb⟩
  simp
 ·refine ⟨h.length,h.set b .dead++[.arr e cs],?_,.inr rfl,((XM.refl b h).set _).trans (XM.ex (EX.append _ _)),by rw [List.getElem?_append_right (by simp)];simp⟩
  rw [if_pos (by simpa using ⟨h1,h2⟩),if_neg h0]
  simp
theorem PS.arr {h:ae} {e:TypeId} {i:Nat} {ps:List (Int×Int)} (hg:h[i]?=some (.arr e (oQ ps))):PS h (Go.Sim.sl e i 0 ps.length) ps:=PS.sl (by simp [bw,hg])
theorem NS.arr {h:ae} {e:TypeId} {i:Nat} {k:IntKind} {ns:List Int} (hg:h[i]?=some (.arr e (ns.map (Value.int k)))) (hl:ns.length<=maxLen):NS h (Go.Sim.sl e i 0 ns.length) k ns:=NS.sl (.inr (by simp [bw,hg])) hl
end
section
section
variable {h h' : ae} {e : TypeId} {esz : Nat} {v : Value} {rows : List (List Value)}
theorem Ct:∀{rows:List (List Value)},(∀r∈rows,r.length=esz)->rows.flatten.length=rows.length*esz
 | [],_=>by simp
 | r::rows,h=>by
  have ih:=Ct (rows:=rows) λx hx=>h x (mem_cons_of_mem _ hx)
  simp only [List.flatten_cons,List.length_append,length_cons,h r (List.mem_cons_self ..),ih]
  rw [Nat.succ_mul];omega
theorem Cs:∀{rows:List (List Value)},(∀r∈rows,r.length=esz)->∀k (hk:k<rows.length),(rows.flatten.drop (k*esz)).take esz=rows[k]
 | r::rows,h,0,_=>by
  have:=h r (by simp)
  simp only [List.flatten_cons,Nat.zero_mul,List.drop_zero,List.getElem_cons_zero]
  rw [<-this,List.take_left']
  rfl
 | r::rows,h,k+1,hk=>by
  have hr:=h r (by simp)
  have:=Cs (rows:=rows) (λx hx=>h x (by simp [hx])) k (by simpa using hk)
  simp only [List.flatten_cons,List.getElem_cons_succ]
  rw [<-this,show (k+1)*esz=r.length+k*esz by rw [Nat.succ_mul,hr];omega,List.drop_append,List.drop_eq_nil_of_le (by omega),List.nil_append,show r.length+k*esz-r.length=k*esz by omega]
theorem UK {i o:Nat} {cs row:List Value} (hc:bw h i=some cs) (hl:o+esz<=cs.length) (ht:(cs.drop o).take esz=row):af true esz h (pt i o)=some (.agg row.toArray):=by
 simp [af,hc,dS,hl,ht]
theorem DQ {i o j:Nat} {cs row:List Value} {x:Value} (hc:bw h i=some cs) (ht:(cs.drop o).take esz=row) (hj:row[j]?=some x):af false 1 h (pt i (o+j))=some x:=by
 have:cs[o+j]?=some x:=by
  rw [<-ht,List.getElem?_take] at hj
  split at hj
  ·rwa [List.getElem?_drop] at hj
  ·cases hj
 simp [af,hc,dS,this]
end
end
end Go.Sim
