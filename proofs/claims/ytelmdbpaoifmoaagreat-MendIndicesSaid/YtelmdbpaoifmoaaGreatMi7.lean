/-
  Part 7 of the texts behind a statement of this seat: Kq1, ZN8, Kq2, Kq5, Kq6, Kq7, Kq8, Kr1, Kp13, Kp14, Kp15, Kq3, Kq4, Kr2.
-/
import Derived.Test.YtelmdbpaoifmoaaGreatProg
import Derived.KernelRfl
import Derived.Test.YtelmdbpaoifmoaaGreatMi6
namespace Go.Proofs.YtelmdbpaoifmoaaGreat
open Go.Sim

def QU (h:Heap) (v:Value) (q:Rat) (k:Nat):Prop:=∃a b:Int,QZ h v a b∧0<b∧(a:Rat)=q*(b:Rat)∧a.natAbs<10^k∧b.natAbs<10^k
def QV (h:Heap) (v:Value) (q:Rat):Prop:=QZ h v q.num (q.den:Int)

theorem QU.mono {h h':Heap} {v:Value} {q:Rat} {k:Nat} (x:EX h h') (p:QU h v q k):QU h' v q k:=let ⟨a,b,e,r⟩:=p;⟨a,b,e.mono x,r⟩
theorem QV.mono {h h':Heap} {v:Value} {q:Rat} (x:EX h h') (p:QV h v q):QV h' v q:=QZ.mono x p
theorem QV.setB {h:Heap} {v:Value} {q:Rat} {j:Nat} {e:TypeId} {s:Bool} {r:List Value} (p:QV h v q) (hj:h[j]?=some (.arr e (.bool s::r))) (o:IObj):QV (h.set j o) v q:=QZ.setB p hj o

theorem num_eq (q:Rat):(q.num:Rat)=q*(q.den:Rat):=by
 have h1:(q.den:Rat)≠0:=by
  intro h
  have:=q.den_pos
  have h2:(q.den:Rat)=((0:Nat):Rat):=by simpa using h
  have:=Rat.natCast_inj.1 h2
  omega
 have h2:=Rat.mkRat_self q
 rw [Rat.mkRat_eq_div,Rat.div_def] at h2
 have h3:q*(q.den:Rat)=(q.num:Rat)*((q.den:Rat)⁻¹*(q.den:Rat)):=by
  rw [←Rat.mul_assoc,h2]
 rw [h3,Rat.inv_mul_cancel _ h1,Rat.mul_one]

theorem QV.un {h:Heap} {v:Value} {q:Rat} {k:Nat} (p:QV h v q) (s:szQ k q):QU h v q k:=
 ⟨q.num,q.den,p,by have:=q.den_pos;omega,num_eq q,s.1,by rw [Int.natAbs_natCast];exact s.2⟩

theorem cast_ne {b:Int} (hb:0<b):(b:Rat)≠0:=by
 intro h
 have:b=0:=by exact_mod_cast h
 omega

theorem QU.mk {a b:Int} {q:Rat} (hb:0<b) (h:(a:Rat)=q*(b:Rat)):mkRat a b.toNat=q:=by
 rw [Rat.mkRat_eq_div]
 have hb':=cast_ne hb
 obtain ⟨n,rfl⟩:∃n:Nat,b=(n:Int):=⟨b.toNat,by omega⟩
 have e:(((n:Int).toNat:Nat):Rat)=((n:Int):Rat):=by rw [Int.toNat_natCast];rfl
 rw [e,h,Rat.div_def,Rat.mul_assoc,Rat.mul_inv_cancel _ hb',Rat.mul_one]

theorem crossI {i j:Nat} {a b:Int} (ha:a.natAbs<10^i) (hb:b.natAbs<10^j):(a*b).natAbs<10^(i+j):=by
 rw [Int.natAbs_mul];exact mul_pow ha hb

def k796:Nat:=796
theorem pow796:(10:Nat)^k796≤10000^199:=by
 have h:10^(4*199)=10000^199:=by rw [Nat.pow_mul]
 exact Nat.le_of_eq h
theorem pow_796 {k n:Nat} (hk:k≤796) (h:n<10^k):n<10000^199:=Nat.lt_of_lt_of_le h (Nat.le_trans (Nat.pow_le_pow_right (by decide) (show k≤k796 from hk)) pow796)

section
variable {va vb : Value} {p q : Rat} {i j : Nat} {h : Heap} {K : Value → Heap → Prop}

theorem C26u (ha:QU h va p i) (hb:QU h vb q j) (hij:i+j≤899) (hk:∀r h',EX h h'→QU h' r (p+q) (i+j+1)→K r h'):CallP Tryz.prog 26 [va,vb] h K:=by
 obtain ⟨a,b,qa,b0,ea,la,lb⟩:=ha
 obtain ⟨c,d,qc,d0,ec,lc,ld⟩:=hb
 have big:∀{k n:Nat},k≤899→n<10^k→n<bigW:=fun hk hn=>Nat.lt_of_lt_of_le hn (pow_big (by omega))
 have h1:=crossI la ld
 have h2:=crossI lc lb
 have h3:=crossI lb ld
 rw [Nat.add_comm j i] at h2
 refine C26 qa qc (big (by omega) la) (big (by omega) lb) (big (by omega) lc) (big (by omega) ld) (big hij h1) (big hij h2) ?_
 intro r h' x hr
 refine hk r h' x ⟨_,_,hr,Int.mul_pos b0 d0,?_,?_,?_⟩
 ·simp only [Rat.intCast_add,Rat.intCast_mul,ea,ec];grind
 ·rw [Nat.pow_succ];generalize 10^(i+j)=Z at*;omega
 ·rw [Nat.pow_succ];generalize 10^(i+j)=Z at*;omega

theorem C27u (ha:QU h va p i) (hb:QU h vb q j) (hij:i+j≤899) (hk:∀r h',EX h h'→QU h' r (p*q) (i+j)→K r h'):CallP Tryz.prog 27 [va,vb] h K:=by
 obtain ⟨a,b,qa,b0,ea,la,lb⟩:=ha
 obtain ⟨c,d,qc,d0,ec,lc,ld⟩:=hb
 have big:∀{k n:Nat},k≤899→n<10^k→n<bigW:=fun hk hn=>Nat.lt_of_lt_of_le hn (pow_big (by omega))
 refine C27 qa qc (big (by omega) la) (big (by omega) lb) (big (by omega) lc) (big (by omega) ld) ?_
 intro r h' x hr
 refine hk r h' x ⟨_,_,hr,Int.mul_pos b0 d0,?_,crossI la lc,crossI lb ld⟩
 simp only [Rat.intCast_mul,ea,ec];grind

theorem C52u (ha:QU h va p i) (hb:QU h vb q j) (hij:i+j≤899) (hk:∀r h',EX h h'→QU h' r (p-q) (i+j+1)→K r h'):CallP Tryz.prog 52 [va,vb] h K:=by
 obtain ⟨a,b,qa,b0,ea,la,lb⟩:=ha
 obtain ⟨c,d,qc,d0,ec,lc,ld⟩:=hb
 have big:∀{k n:Nat},k≤899→n<10^k→n<bigW:=fun hk hn=>Nat.lt_of_lt_of_le hn (pow_big (by omega))
 have h1:=crossI la ld
 have h2:=crossI lc lb
 have h3:=crossI lb ld
 rw [Nat.add_comm j i] at h2
 obtain ⟨u,w,rfl,hu,hw⟩:=qa
 obtain ⟨u',w',rfl,hu',hw'⟩:=qc
 refine f52 ?_
 unfold T52
 refine box4 ?_
 intro h3 x
 have za:ZV h3 (.agg #[B (decide (a<0)),u]) a:=⟨u,rfl,hu.mono x.ex⟩
 have zb:ZV h3 (.agg #[B (decide (b<0)),w]) b:=⟨w,rfl,hw.mono x.ex⟩
 have zc:ZV h3 (.agg #[B (decide (c<0)),u']) c:=⟨u',rfl,hu'.mono x.ex⟩
 have zd:ZV h3 (.agg #[B (decide (d<0)),w']) d:=⟨w',rfl,hw'.mono x.ex⟩
 simp only [fadr_pt,Nat.add_zero,Nat.zero_add,OP_some,x.a0,x.b2,true_and]
 refine C71 za zd (big (by omega) la) (big (by omega) ld) ?_
 intro r4 h4 x4 z4'
 simp only [EX.load x4 x.b0,EX.load x4 x.a2,OP_some,x.b0,x.a2,true_and]
 refine C71 (zc.mono x4) (zb.mono x4) (big (by omega) lc) (big (by omega) lb) ?_
 intro r5 h5 x5 z5
 refine C92 (z4'.mono x5) z5 (big hij h1) (big hij h2) ?_
 intro r6 h6 x6 z6
 have x46:=x4.trans (x5.trans x6)
 simp only [EX.load x46 x.a2,EX.load x46 x.b2,EX.load x4 x.a2,EX.load x4 x.b2,EX.load (x4.trans x5) x.a2,EX.load (x4.trans x5) x.b2,x.a2,x.b2,OP_some,true_and]
 refine C71 (zb.mono x46) (zd.mono x46) (big (by omega) lb) (big (by omega) ld) ?_
 intro r7 h7 x7 z7
 have x47:=x46.trans x7
 refine endQ (z6.mono x7) z7 (x.ex.trans x47) (by omega) (x47.get x.out) ?_
 intro r h' xx hr
 refine hk r h' xx ⟨_,_,hr,Int.mul_pos b0 d0,?_,?_,?_⟩
 ·simp only [Rat.intCast_sub,Rat.intCast_mul,ea,ec];grind
 ·rw [Nat.pow_succ];generalize 10^(i+j)=Z at*;omega
 ·rw [Nat.pow_succ];generalize 10^(i+j)=Z at*;omega

theorem C51u (ha:QU h va p i) (hb:QU h vb q j) (q0:0<q) (hij:i+j≤899) (hk:∀r h',EX h h'→QU h' r (p / q) (i+j)→K r h'):CallP Tryz.prog 51 [va,vb] h K:=by
 obtain ⟨a,b,qa,b0,ea,la,lb⟩:=ha
 obtain ⟨c,d,qc,d0,ec,lc,ld⟩:=hb
 have big:∀{k n:Nat},k≤899→n<10^k→n<bigW:=fun hk hn=>Nat.lt_of_lt_of_le hn (pow_big (by omega))
 have h1:=crossI la ld
 have h2:=crossI lb lc
 have c0:0<c:=by
  have d':(0:Rat)<(d:Rat):=by exact_mod_cast d0
  have:(0:Rat)<(c:Rat):=by rw [ec];exact Rat.mul_pos q0 d'
  exact_mod_cast this
 obtain ⟨u,w,rfl,hu,hw⟩:=qa
 obtain ⟨u',w',rfl,hu',hw'⟩:=qc
 refine f51 ?_
 unfold T51
 refine box4 ?_
 intro h3 x
 have za:ZV h3 (.agg #[B (decide (a<0)),u]) a:=⟨u,rfl,hu.mono x.ex⟩
 have zb:ZV h3 (.agg #[B (decide (b<0)),w]) b:=⟨w,rfl,hw.mono x.ex⟩
 have zc:ZV h3 (.agg #[B (decide (c<0)),u']) c:=⟨u',rfl,hu'.mono x.ex⟩
 have zd:ZV h3 (.agg #[B (decide (d<0)),w']) d:=⟨w',rfl,hw'.mono x.ex⟩
 simp only [fadr_pt,Nat.add_zero,Nat.zero_add,OP_some,x.a0,x.b2,true_and]
 refine C71 za zd (big (by omega) la) (big (by omega) ld) ?_
 intro r4 h4 x4 z4'
 simp only [EX.load x4 x.b0,EX.load x4 x.a2,OP_some,x.b0,x.a2,true_and]
 refine C71 (zb.mono x4) (zc.mono x4) (big (by omega) lb) (big (by omega) lc) ?_
 intro r5 h5 x5 z5
 refine C54 (z4'.mono x5) z5 (Int.le_of_lt (Int.mul_pos b0 c0)) ?_
 intro r6 h6 x6 z6
 have x46:=x4.trans (x5.trans x6)
 obtain ⟨m,n,rfl,hm,hn⟩:=z6
 refine fin4 (x46.get x.out) (hk _ _ ((x.ex.trans x46).set (by omega) _) ⟨_,_,⟨m,n,rfl,hm.setB (x46.get x.out) _,hn.setB (x46.get x.out) _⟩,Int.mul_pos b0 c0,?_,h1,h2⟩)
 simp only [Rat.intCast_mul,ea,ec]
 have:q≠0:=by intro e;rw [e] at q0;exact absurd q0 (by decide)
 grind

theorem C25u (ha:QU h va p i) (hi:i≤796) (hk:∀r h',EX h h'→QV h' r p→K r h'):CallP Tryz.prog 25 [va] h K:=by
 obtain ⟨a,b,qa,b0,ea,la,lb⟩:=ha
 refine C25 qa b0 (pow_796 hi la) (pow_796 hi lb) ?_
 intro r h' x hr
 refine hk r h' x ?_
 have e:=QU.mk b0 ea
 obtain ⟨e1,e2⟩:=mkRat_parts (N:=a) (D:=b.toNat) (by omega)
 have eb:b.natAbs=b.toNat:=by omega
 unfold QV
 rw [←e,e1,e2,Int.natCast_ediv,Int.toNat_of_nonneg (by omega),←eb]
 exact hr

theorem C16u (ha:QU h va p i) (hi:i≤796) {s:List UInt8} (hk:∀h',EX h h'→K (B (decide (s=ratS p.num (p.den:Int)))) h'):CallP Tryz.prog 16 [S s,va] h K:=by
 obtain ⟨a,b,qa,b0,ea,la,lb⟩:=ha
 refine C16q qa b0 (pow_796 hi la) (pow_796 hi lb) ?_
 have e:=QU.mk b0 ea
 obtain ⟨e1,e2⟩:=mkRat_parts (N:=a) (D:=b.toNat) (by omega)
 have eb:b.natAbs=b.toNat:=by omega
 rw [←e,e1,e2,Int.natCast_ediv,Int.toNat_of_nonneg (by omega),←eb] at hk
 exact hk

theorem isgn_cmp {a b c d:Int} (b0:0<b) (d0:0<d) (ea:(a:Rat)=p*(b:Rat)) (ec:(c:Rat)=q*(d:Rat)):isgn (a*d-c*b)=cmpR p q:=by
 have b':(0:Rat)<(b:Rat):=by exact_mod_cast b0
 have d':(0:Rat)<(d:Rat):=by exact_mod_cast d0
 have bd:=Rat.mul_pos b' d'
 have e:((a*d-c*b:Int):Rat)=(p-q)*((b:Rat)*(d:Rat)):=by
  simp only [Rat.intCast_sub,Rat.intCast_mul,ea,ec];grind
 generalize a*d-c*b=z at e⊢
 generalize (b:Rat)*(d:Rat)=t at*
 have key:(z=0↔p=q)∧(z<0↔p<q):=by
  constructor
  ·constructor
   ·intro hz
    subst hz
    have:(p-q)*t=0:=by rw [←e];rfl
    grind
   ·intro hz
    subst hz
    have:((z:Int):Rat)=0:=by rw [e];grind
    exact_mod_cast this
  ·constructor
   ·intro hz
    have hz':(z:Rat)<0:=by exact_mod_cast hz
    rw [e] at hz'
    apply Classical.byContradiction
    intro hc
    have h1:0≤p-q:=by grind
    have:=Rat.mul_nonneg h1 (Rat.le_of_lt bd)
    grind
   ·intro hz
    have h1:0<q-p:=by grind
    have:=Rat.mul_pos h1 bd
    have:(z:Rat)<0:=by rw [e];grind
    exact_mod_cast this
 unfold cmpR isgn
 by_cases h1:p=q
 ·rw [if_pos h1]
  have:=key.1.2 h1
  subst this
  simp
 ·rw [if_neg h1]
  have z1:z≠0:=fun hz=>h1 (key.1.1 hz)
  by_cases h2:p<q
  ·rw [if_pos h2,if_neg z1,if_pos (key.2.2 h2)]
  ·rw [if_neg h2]
   have:¬z<0:=fun hz=>h2 (key.2.1 hz)
   rw [if_neg z1,if_neg this]

theorem C29u (ha:QU h va p i) (hb:QU h vb q j) (hij:i+j≤899) (hk:∀h',EX h h'→K (I (cmpR p q)) h'):CallP Tryz.prog 29 [va,vb] h K:=by
 obtain ⟨a,b,qa,b0,ea,la,lb⟩:=ha
 obtain ⟨c,d,qc,d0,ec,lc,ld⟩:=hb
 have big:∀{k n:Nat},k≤899→n<10^k→n<bigW:=fun hk hn=>Nat.lt_of_lt_of_le hn (pow_big (by omega))
 have h1:=crossI la ld
 have h2:=crossI lc lb
 rw [Nat.add_comm j i] at h2
 refine C29 qa qc (big (by omega) la) (big (by omega) lb) (big (by omega) lc) (big (by omega) ld) (big hij h1) (big hij h2) ?_
 rw [isgn_cmp b0 d0 ea ec]
 exact hk

theorem C20u {z:Int} (hz:z.natAbs<1000000000000000000) (hk:∀r h',EX h h'→QV h' r (z:Rat)→K r h'):CallP Tryz.prog 20 [I z] h K:=C20 hz hk

theorem C28u {s:List UInt8} (hl:s.length≤700) (hn:isNum s=true) (hk:∀r h',EX h h'→QV h' r (ratT s)→K r h'):CallP Tryz.prog 28 [S s] h K:=C28g hl (isNum_parse hn) hk

def CelQ (g:Heap) (i:Nat) (q:Rat):Prop:=∃a b c d,g[i]?=some (.arr 37 [B a,b,B c,d])∧QV g (.agg #[B a,b,B c,d]) q

theorem CelQ.mono {g g':Heap} {i:Nat} {q:Rat} (x:EX g g') (p:CelQ g i q):CelQ g' i q:=let ⟨a,b,c,d,e,r⟩:=p;⟨a,b,c,d,x.get e,r.mono x⟩
theorem CelQ.lt {g:Heap} {i:Nat} {q:Rat} (p:CelQ g i q):i<g.length:=let ⟨_,_,_,_,e,_⟩:=p;(List.getElem?_eq_some_iff.1 e).1
theorem CelQ.load {g:Heap} {i:Nat} {q:Rat} (p:CelQ g i q):∃v,iLoad true 4 g (pt i 0)=some v∧QV g v q:=let ⟨_,_,_,_,e,r⟩:=p;⟨_,load4 e,r⟩

structure StoQ (g g':Heap) (i:Nat) (q:Rat):Prop where
 cell:CelQ g' i q
 len:g'.length=g.length
 old:∀j,j≠i→g'[j]?=g[j]?
 val:∀{v:Value} {p:Rat},QV g v p→QV g' v p

theorem celQ_store {g:Heap} {i:Nat} {v:Value} {q:Rat} {s:Bool} {b c d:Value} (hg:g[i]?=some (.arr 37 [.bool s,b,c,d])) (hv:QV g v q):∃g',oStore 4 g (pt i 0) v=some (undef,g')∧StoQ g g' i q:=by
 obtain ⟨u,w,rfl,hu,hw⟩:=id hv
 refine ⟨_,store4 hg,⟨⟨_,_,_,_,set_get hg,hv.setB hg _⟩,by simp,fun j hj=>List.getElem?_set_ne (fun h=>hj h.symm),fun h=>h.setB hg _⟩⟩
theorem CelQ.store {g:Heap} {i:Nat} {v:Value} {p q:Rat} (hc:CelQ g i p) (hv:QV g v q):∃g',oStore 4 g (pt i 0) v=some (undef,g')∧StoQ g g' i q:=by
 obtain ⟨a,b,c,d,hg,_⟩:=hc
 exact celQ_store hg hv

theorem StoQ.ex {h0 g g':Heap} {i:Nat} {q:Rat} (s:StoQ g g' i q) (x:EX h0 g) (hi:h0.length≤i):EX h0 g':=
 ⟨by rw [s.len];exact x.1,fun j hj=>by rw [s.old j (by omega)];exact x.2 j hj⟩
theorem StoQ.keep {g g':Heap} {i j:Nat} {q p:Rat} (s:StoQ g g' i q) (hj:j≠i) (c:CelQ g j p):CelQ g' j p:=
 let ⟨a,b,e,d,k,r⟩:=c;⟨a,b,e,d,by rw [s.old j hj];exact k,s.val r⟩

theorem celQ_new {g:Heap} {v:Value} {q:Rat} {K:Heap→Prop} (hv:QV g v q) (hk:∀g',EX g g'→CelQ g' g.length q→g'.length=g.length+1→K g'):
  OH (oStore 4 (g++[IObj.arr 37 z4]) (pt g.length 0) v) fun _ h_2=>K h_2:=by
 obtain ⟨g',e2,s⟩:=celQ_store (g:=g++[.arr 37 z4]) (i:=g.length) get_last (hv.mono (EX.append _ _))
 rw [e2]
 simp only [OH_some]
 exact hk g' (s.ex (EX.append _ _) (Nat.le_refl _)) s.cell (by rw [s.len];simp)

end

end Go.Proofs.YtelmdbpaoifmoaaGreat


namespace Go.Proofs.YtelmdbpaoifmoaaGreat
open Go.Sim
variable (P : Program) (K : VK)
/-! F13: pommel/pommelref06.Chances -/
noncomputable section
variable (l0 x3 i4 x5 k6 k7 q8 x44 x51 x82 x86 x88 x98 x102 x103 : Value) (L1 L2 : LQ) (xs : List Value) (h : Heap)
def oc13:=compFn Tryz.prog 13 [[],[],[],[0],[3,4],[],[],[],[],[0,3,4,5],[6],[],[],[],[],[],[0,3,4,5],[0,3,4,5,44],[0,3,4,5,44,51],[],[],[],[],[0,4,5],[3,7],[],[],[],[0,3,4,5,7,8,82],[0,3,4,5,7,8,82,86],[0,3,4,5,7,8,88],[0,3,4,5,7,8,88,98],[0,3,4,5,7,8,88,98,102],[0,3,4,5,7,8,88,103],[],[0,3,4,5,7],[0,3,4,5],[],[0,3,4],[0,3],[],[3],[]]
@[irreducible] def c13:=icOf oc13
@[irreducible] def c13z6:=c13.r.r.l.r.l.l
@[irreducible] def c13z3:=c13.r.r.r
@[irreducible] def c13z15:=c13z6.r.l.l.r.l.r.l.l
@[irreducible] def c13z12:=c13z6.r.l.l.r.r
@[irreducible] def c13z9:=c13z6.r.r
@[irreducible] def c13z56:=c13z3.l
@[irreducible] def c13z22:=c13z12.l
@[irreducible] def c13z55:=c13z9.l
@[irreducible] def c13z59:=c13z56.r.l
@[irreducible] def c13z26:=c13z22.l.l.r.l
@[irreducible] def c13z24:=c13z22.l.r
@[irreducible] def c13z23:=c13z22.r
@[irreducible] def c13z28:=c13z26.r.l
@[irreducible] def c13z33:=c13z23.l.r.l.l
@[irreducible] def c13z30:=c13z23.r
@[irreducible] def c13z41:=c13z33.r.l.l.r.l.r.l
@[irreducible] def c13z39:=c13z33.r.l.l.r.r
@[irreducible] def c13z36:=c13z33.r.r
@[irreducible] def c13z53:=c13z30.l
@[irreducible] def c13z43:=c13z41.r.l
@[irreducible] def c13z52:=c13z36.l
@[irreducible] def c13z45:=c13z43.r.l
@[irreducible] def c13z47:=c13z45.r.l
@[irreducible] def c13z49:=c13z47.r.l
@[irreducible] def c13z51:=c13z49.r.l
theorem k13:oc13=some (118,c13,[.tmp 2]):=by kernel_rfl
def K13z0 (_P:Program) (K:VK):Kont:=bodyP [.tmp 2] K
def K13z3:Kont:=thenK (iwpP P c13z3 (K13z0 P K)) (K13z0 P K)
def K13z5:Kont:=inBlockK 0 (K13z3 P K)
def K13z6:Kont:=thenK (fun f' h''=>(([0]:List Nat).map f':List Value)=[l0]∧L1 (([3,4]:List Nat).map f') h'') (K13z5 P K)
def K13z9:Kont:=thenK (iwpP P c13z9 (K13z6 P K l0 L1)) (K13z6 P K l0 L1)
def K13z10:Kont:=inBlockK 1 (K13z9 P K l0 L1)
def K13z12:Kont:=thenK (iwpP P c13z12 (K13z10 P K l0 L1)) (K13z10 P K l0 L1)
def K13z14:Kont:=inBlockK 2 (K13z12 P K l0 L1)
def K13z15:Kont:=thenK (fun f' h''=>(([0,3,4,5]:List Nat).map f':List Value)=[l0,x3,i4,x5]∧L2 (([6]:List Nat).map f') h'') (K13z14 P K l0 L1)
def K13z23:Kont:=thenK (iwpP P c13z23 (K13z10 P K l0 L1)) (K13z10 P K l0 L1)
def K13z24:Kont:=thenK (iwpP P c13z24 (K13z23 P K l0 L1)) (K13z23 P K l0 L1)
def K13z30:Kont:=thenK (iwpP P c13z30 (K13z10 P K l0 L1)) (K13z10 P K l0 L1)
def K13z32:Kont:=inBlockK 4 (K13z30 P K l0 L1)
def K13z33:Kont:=thenK (fun f' h''=>(([0,4,5]:List Nat).map f':List Value)=[l0,i4,x5]∧L2 (([3,7]:List Nat).map f') h'') (K13z32 P K l0 L1)
def K13z36:Kont:=thenK (iwpP P c13z36 (K13z33 P K l0 i4 x5 L1 L2)) (K13z33 P K l0 i4 x5 L1 L2)
def K13z37:Kont:=inBlockK 5 (K13z36 P K l0 i4 x5 L1 L2)
def K13z39:Kont:=thenK (iwpP P c13z39 (K13z37 P K l0 i4 x5 L1 L2)) (K13z37 P K l0 i4 x5 L1 L2)
def p13z6:Prop:=CutP (iwpP P c13z6 (K13z6 P K l0 L1)) ([0]++[3,4]) ([l0]++xs) h
def p13z15:Prop:=CutP (iwpP P c13z15 (K13z15 P K l0 x3 i4 x5 L1 L2)) ([0,3,4,5]++[6]) ([l0,x3,i4,x5]++xs) h
def p13z22:Prop:=CutP (iwpP P c13z22 (K13z10 P K l0 L1)) [0,3,4,5] [l0,x3,i4,x5] h
def p13z26:Prop:=CutP (iwpP P c13z26 (K13z24 P K l0 L1)) [0,3,4,5,44] [l0,x3,i4,x5,x44] h
def p13z28:Prop:=CutP (iwpP P c13z28 (K13z24 P K l0 L1)) [0,3,4,5,44,51] [l0,x3,i4,x5,x44,x51] h
def p13z33:Prop:=CutP (iwpP P c13z33 (K13z33 P K l0 i4 x5 L1 L2)) ([0,4,5]++[3,7]) ([l0,i4,x5]++xs) h
def p13z41:Prop:=CutP (iwpP P c13z41 (K13z39 P K l0 i4 x5 L1 L2)) [0,3,4,5,7,8,82] [l0,x3,i4,x5,k7,q8,x82] h
def p13z43:Prop:=CutP (iwpP P c13z43 (K13z39 P K l0 i4 x5 L1 L2)) [0,3,4,5,7,8,82,86] [l0,x3,i4,x5,k7,q8,x82,x86] h
def p13z45:Prop:=CutP (iwpP P c13z45 (K13z39 P K l0 i4 x5 L1 L2)) [0,3,4,5,7,8,88] [l0,x3,i4,x5,k7,q8,x88] h
def p13z47:Prop:=CutP (iwpP P c13z47 (K13z39 P K l0 i4 x5 L1 L2)) [0,3,4,5,7,8,88,98] [l0,x3,i4,x5,k7,q8,x88,x98] h
def p13z49:Prop:=CutP (iwpP P c13z49 (K13z39 P K l0 i4 x5 L1 L2)) [0,3,4,5,7,8,88,98,102] [l0,x3,i4,x5,k7,q8,x88,x98,x102] h
def p13z51:Prop:=CutP (iwpP P c13z51 (K13z39 P K l0 i4 x5 L1 L2)) [0,3,4,5,7,8,88,103] [l0,x3,i4,x5,k7,q8,x88,x103] h
def p13z52:Prop:=CutP (iwpP P c13z52 (K13z33 P K l0 i4 x5 L1 L2)) [0,3,4,5,7] [l0,x3,i4,x5,k7] h
def p13z53:Prop:=CutP (iwpP P c13z53 (K13z10 P K l0 L1)) [0,3,4,5] [l0,x3,i4,x5] h
def p13z55:Prop:=CutP (iwpP P c13z55 (K13z6 P K l0 L1)) [0,3,4] [l0,x3,i4] h
def p13z56:Prop:=CutP (iwpP P c13z56 (K13z0 P K)) [0,3] [l0,x3] h
def p13z59:Prop:=CutP (iwpP P c13z59 (K13z0 P K)) [3] [x3] h
theorem q13z15 (l0 x3 i4 x5:Value) (L1 L2:LQ) (k6:Value) (h:Heap):p13z15 P K l0 x3 i4 x5 L1 L2 [k6] h=
 (OP (iAdrSl 2 l0 i4) fun x19=>
 OP (iFadr 0 x19) fun x20=>
 OP (iLoad false 1 h x20) fun x21=>
 OP (iLenSl x21) fun x22=>
 OP (iBin .lss k6 x22) fun x23=>
 IfP x23
 (OP (iAdrSl 2 l0 i4) fun x28=>
 OP (iFadr 0 x28) fun x29=>
 OP (iLoad false 1 h x29) fun x30=>
 OP (iAdrSl 1 x30 k6) fun x32=>
 OP (iLoad false 1 h x32) fun x33=>
 CallP P 24 [x33] h fun x34 h_1=>
 OP (iUn .not x34) fun x35=>
 IfP x35
 (K (.int .i64 (2)) h_1)
 (OP (iBin .add k6 (.int .i64 (1))) fun x25=>
 ([l0,x3,i4,x5]:List Value)=[l0,x3,i4,x5]∧L2 [x25] h_1))
 (p13z22 P K l0 x3 i4 x5 L1 h)):=cdt (by kernel_rfl)
theorem q13z28:p13z28 P K l0 x3 i4 x5 x44 x51 L1 h=
 (OP (iPick x44 (.bool true) x51) fun x52=>
 IfP x52
 (p13z55 P K l0 (.int .i64 (1)) i4 L1 h)
 (LoopP [x3,(.int .i64 (0))] h fun L2 xs hx=>
 p13z33 P K l0 i4 x5 L1 L2 xs hx)):=cdt (by kernel_rfl)
theorem q13z26:p13z26 P K l0 x3 i4 x5 x44 L1 h=
 (GdP x44 false
 (OP (iAdrSl 2 l0 i4) fun x47=>
 OP (iFadr 1 x47) fun x48=>
 OP (iLoad false 1 h x48) fun x49=>
 CallP P 46 [x49,(.int .i64 (0)),(.int .i64 (50))] h fun x50 h_1=>
 OP (iUn .not x50) fun x51=>
 p13z28 P K l0 x3 i4 x5 x44 x51 L1 h_1)
 (p13z28 P K l0 x3 i4 x5 x44 undef L1 h)):=cdt (by kernel_rfl)
theorem q13z51:p13z51 P K l0 x3 i4 x5 k7 q8 x88 x103 L1 L2 h=
 (OP (iPick x88 (.bool true) x103) fun x104=>
 IfP x104
 (p13z52 P K l0 (.int .i64 (1)) i4 x5 k7 L1 L2 h)
 (OP (iLoad true 4 h x5) fun x105=>
 OP (iLoad true 4 h q8) fun x106=>
 CallP P 26 [x105,x106] h fun x107 h_1=>
 CallP P 25 [x107] h_1 fun x108 h_2=>
 OH (oStore 4 h_2 x5 x108) fun _ h_3=>
 p13z52 P K l0 x3 i4 x5 k7 L1 L2 h_3)):=cdt (by kernel_rfl)
theorem q13z49:p13z49 P K l0 x3 i4 x5 k7 q8 x88 x98 x102 L1 L2 h=
 (GdP x88 false
 (OP (iPick x98 x102 (.bool false)) fun x103=>
 p13z51 P K l0 x3 i4 x5 k7 q8 x88 x103 L1 L2 h)
 (p13z51 P K l0 x3 i4 x5 k7 q8 x88 undef L1 L2 h)):=cdt (by kernel_rfl)
theorem q13z47:p13z47 P K l0 x3 i4 x5 k7 q8 x88 x98 L1 L2 h=
 (GdP x98 true
 (OP (iFadr 0 q8) fun x99=>
 OP (iLoad true 2 h x99) fun x100=>
 CallP P 48 [x100] h fun x101 h_1=>
 OP (iBin .eql x101 (.int .i64 (0))) fun x102=>
 p13z49 P K l0 x3 i4 x5 k7 q8 x88 x98 x102 L1 L2 h_1)
 (p13z49 P K l0 x3 i4 x5 k7 q8 x88 x98 undef L1 L2 h)):=cdt (by kernel_rfl)
theorem q13z45:p13z45 P K l0 x3 i4 x5 k7 q8 x88 L1 L2 h=
 (GdP x88 false
 (OP (iAdrSl 2 l0 i4) fun x92=>
 OP (iFadr 0 x92) fun x93=>
 OP (iLoad false 1 h x93) fun x94=>
 OP (iLenSl x94) fun x95=>
 OP (iBin .sub x95 (.int .i64 (1))) fun x96=>
 OP (iBin .eql k7 x96) fun x97=>
 p13z47 P K l0 x3 i4 x5 k7 q8 x88 x97 L1 L2 h)
 (p13z47 P K l0 x3 i4 x5 k7 q8 x88 undef L1 L2 h)):=cdt (by kernel_rfl)
theorem q13z43:p13z43 P K l0 x3 i4 x5 k7 q8 x82 x86 L1 L2 h=
 (OP (iPick x82 (.bool true) x86) fun x87=>
 p13z45 P K l0 x3 i4 x5 k7 q8 x87 L1 L2 h):=cdt (by kernel_rfl)
theorem q13z41:p13z41 P K l0 x3 i4 x5 k7 q8 x82 L1 L2 h=
 (GdP x82 false
 (OP (iFadr 0 q8) fun x83=>
 OP (iLoad true 2 h x83) fun x84=>
 CallP P 48 [x84] h fun x85 h_1=>
 OP (iBin .lss x85 (.int .i64 (0))) fun x86=>
 p13z43 P K l0 x3 i4 x5 k7 q8 x82 x86 L1 L2 h_1)
 (p13z43 P K l0 x3 i4 x5 k7 q8 x82 undef L1 L2 h)):=cdt (by kernel_rfl)
theorem q13z52:p13z52 P K l0 x3 i4 x5 k7 L1 L2 h=
 (OP (iBin .add k7 (.int .i64 (1))) fun x62=>
 ([l0,i4,x5]:List Value)=[l0,i4,x5]∧L2 [x3,x62] h):=cdt (by kernel_rfl)
theorem q13z33 (l0 i4 x5:Value) (L1 L2:LQ) (x3 k7:Value) (h:Heap):p13z33 P K l0 i4 x5 L1 L2 [x3,k7] h=
 (OP (iAdrSl 2 l0 i4) fun x56=>
 OP (iFadr 0 x56) fun x57=>
 OP (iLoad false 1 h x57) fun x58=>
 OP (iLenSl x58) fun x59=>
 OP (iBin .lss k7 x59) fun x60=>
 IfP x60
 (OP (iAdrSl 2 l0 i4) fun x65=>
 OP (iFadr 0 x65) fun x66=>
 OP (iLoad false 1 h x66) fun x67=>
 OP (iAdrSl 1 x67 k7) fun x69=>
 OP (iLoad false 1 h x69) fun x70=>
 CallP P 28 [x70] h fun x71 h_1=>
 OH (iAlloc 37 [(.bool false),(.slice none 0 0),(.bool false),(.slice none 0 0)] h_1) fun q8 h_2=>
 OH (oStore 4 h_2 q8 x71) fun _ h_3=>
 OP (iAdrSl 2 l0 i4) fun x74=>
 OP (iFadr 0 x74) fun x75=>
 OP (iLoad false 1 h_3 x75) fun x76=>
 OP (iAdrSl 1 x76 k7) fun x78=>
 OP (iLoad false 1 h_3 x78) fun x79=>
 CallP P 47 [x79,(.int .i64 (4))] h_3 fun x80 h_4=>
 OP (iUn .not x80) fun x81=>
 p13z41 P K l0 x3 i4 x5 k7 q8 x81 L1 L2 h_4)
 (p13z53 P K l0 x3 i4 x5 L1 h)):=cdt (by kernel_rfl)
theorem q13z53:p13z53 P K l0 x3 i4 x5 L1 h=
 (OP (iLoad true 4 h x5) fun x109=>
 (True)∧
 CallP P 20 [(.int .i64 (1))] h fun x110 h_1=>
 (iLoad true 4 h_1 x5=some x109∧True)∧
 CallP P 29 [x109,x110] h_1 fun x111 h_2=>
 (True)∧
 OP (iBin .neq x111 (.int .i64 (0))) fun x112=>
 IfP x112
 (p13z55 P K l0 (.int .i64 (1)) i4 L1 h_2)
 (p13z55 P K l0 x3 i4 L1 h_2)):=cdt (by kernel_rfl)
theorem q13z22:p13z22 P K l0 x3 i4 x5 L1 h=
 (OP (iAdrSl 2 l0 i4) fun x38=>
 OP (iFadr 0 x38) fun x39=>
 OP (iLoad false 1 h x39) fun x40=>
 OP (iLenSl x40) fun x41=>
 CallP P 46 [x41,(.int .i64 (1)),(.int .i64 (8))] h fun x42 h_1=>
 OP (iUn .not x42) fun x43=>
 p13z26 P K l0 x3 i4 x5 x43 L1 h_1):=cdt (by kernel_rfl)
theorem q13z55:p13z55 P K l0 x3 i4 L1 h=
 (OP (iBin .add i4 (.int .i64 (1))) fun x14=>
 ([l0]:List Value)=[l0]∧L1 [x3,x14] h):=cdt (by kernel_rfl)
theorem q13z6 (l0:Value) (L1:LQ) (x3 i4:Value) (h:Heap):p13z6 P K l0 L1 [x3,i4] h=
 (OP (iLenSl l0) fun x11=>
 OP (iBin .lss i4 x11) fun x12=>
 IfP x12
 (CallP P 20 [(.int .i64 (0))] h fun x15 h_1=>
 OH (iAlloc 37 [(.bool false),(.slice none 0 0),(.bool false),(.slice none 0 0)] h_1) fun x5 h_2=>
 OH (oStore 4 h_2 x5 x15) fun _ h_3=>
 LoopP [(.int .i64 (0))] h_3 fun L2 xs hx=>
 p13z15 P K l0 x3 i4 x5 L1 L2 xs hx)
 (p13z56 P K l0 x3 h)):=cdt (by kernel_rfl)
theorem q13z59:p13z59 P K x3 h=
 (K x3 h):=cdt (by kernel_rfl)
theorem q13z56:p13z56 P K l0 x3 h=
 (OP (iLenSl l0) fun x114=>
 CallP P 46 [x114,(.int .i64 (1)),(.int .i64 (3))] h fun x115 h_1=>
 OP (iUn .not x115) fun x116=>
 IfP x116
 (p13z59 P K (.int .i64 (1)) h_1)
 (p13z59 P K x3 h_1)):=cdt (by kernel_rfl)
def T13:Prop:=
 LoopP [(.int .i64 (0)),(.int .i64 (0))] h fun L1 xs hx=>
 p13z6 P K l0 L1 xs hx
theorem e13:iwpP P c13 (bodyP [.tmp 2] K) (frame0 [l0]) h=T13 P K l0 h:=by kernel_rfl
theorem f13 {K:VK} {l0:Value} {h:Heap} (H:T13 Tryz.prog K l0 h):CallP Tryz.prog 13 [l0] h K:=
 callP_intro k13 (Nat.le_of_ble_eq_true rfl) ((e13 Tryz.prog K l0 h).mpr H)
end
/-! F15: pommel/pommelref06.Index -/
noncomputable section
variable (c0 x1 c2 x4 x6 x7 x8 d9 : Value) (L1 : LQ) (xs : List Value) (h : Heap)
def oc15:=compFn Tryz.prog 15 [[],[],[],[],[1,2,4,6,8],[7,9],[],[],[],[],[],[1,2,4,6,7,8,9],[4,6,7],[]]
@[irreducible] def c15:=icOf oc15
@[irreducible] def c15z7:=c15.r.r.r.l.r.l.l
@[irreducible] def c15z4:=c15.r.r.r.r
@[irreducible] def c15z15:=c15z7.r.r.l
@[irreducible] def c15z16:=c15z4.l
theorem k15:oc15=some (55,c15,[.cell true 4 4,.tmp 5]):=by kernel_rfl
def K15z0 (_P:Program) (K:VK):Kont:=bodyP [.cell true 4 4,.tmp 5] K
def K15z4:Kont:=thenK (iwpP P c15z4 (K15z0 P K)) (K15z0 P K)
def K15z6:Kont:=inBlockK 0 (K15z4 P K)
def K15z7:Kont:=thenK (fun f' h''=>(([1,2,4,6,8]:List Nat).map f':List Value)=[x1,c2,x4,x6,x8]∧L1 (([7,9]:List Nat).map f') h'') (K15z6 P K)
def p15z7:Prop:=CutP (iwpP P c15z7 (K15z7 P K x1 c2 x4 x6 x8 L1)) ([1,2,4,6,8]++[7,9]) ([x1,c2,x4,x6,x8]++xs) h
def p15z15:Prop:=CutP (iwpP P c15z15 (K15z7 P K x1 c2 x4 x6 x8 L1)) [1,2,4,6,7,8,9] [x1,c2,x4,x6,x7,x8,d9] h
def p15z16:Prop:=CutP (iwpP P c15z16 (K15z0 P K)) [4,6,7] [x4,x6,x7] h
theorem q15z15:p15z15 P K x1 c2 x4 x6 x7 x8 d9 L1 h=
 (OP (iBin .add d9 (.int .i64 (1))) fun x21=>
 ([x1,c2,x4,x6,x8]:List Value)=[x1,c2,x4,x6,x8]∧L1 [x7,x21] h):=cdt (by kernel_rfl)
theorem q15z7 (x1 c2 x4 x6 x8:Value) (L1:LQ) (x7 d9:Value) (h:Heap):p15z7 P K x1 c2 x4 x6 x8 L1 [x7,d9] h=
 (OP (iFadr 0 c2) fun x14=>
 OP (iLoad false 1 h x14) fun x15=>
 OP (iLenSl x15) fun x16=>
 OP (iBin .sub x16 x1) fun x18=>
 OP (iBin .leq d9 x18) fun x19=>
 IfP x19
 (OP (iLoad true 4 h x8) fun x22=>
 (True)∧
 OP (iLoad true 2 h c2) fun x23=>
 (True)∧
 OP (iBin .add x1 d9) fun x26=>
 OP (iBin .sub x26 (.int .i64 (1))) fun x27=>
 CallP P 50 [x23,x27] h fun x28 h_1=>
 (iLoad true 4 h_1 x8=some x22∧True)∧
 CallP P 26 [x22,x28] h_1 fun x29 h_2=>
 (True)∧
 CallP P 25 [x29] h_2 fun x30 h_3=>
 (True)∧
 OH (oStore 4 h_3 x8 x30) fun _ h_4=>
 (True)∧
 OH (iAlloc 37 [(.bool false),(.slice none 0 0),(.bool false),(.slice none 0 0)] h_4) fun v10 h_5=>
 OP (iObj h_5 v10) fun u=>
 (True)∧
 OP (iFadr 1 c2) fun x31=>
 OP (iLoad false 1 h_5 x31) fun x32=>
 (iLoad false 1 h_4 x31=some x32∧True)∧
 CallP P 20 [x32] h_5 fun x33 h_6=>
 (iObj h_6 v10=some u∧True)∧
 OP (iLoad true 2 h_6 c2) fun x34=>
 (iLoad true 2 h_4 c2=some x34∧iLoad true 2 h_5 c2=some x34∧True)∧
 CallP P 50 [x34,x1] h_6 fun x36 h_7=>
 (iObj h_7 v10=some u∧True)∧
 OP (iLoad true 2 h_7 c2) fun x37=>
 (iLoad true 2 h_4 c2=some x37∧iLoad true 2 h_5 c2=some x37∧iLoad true 2 h_6 c2=some x37∧True)∧
 OP (iBin .add x1 d9) fun x40=>
 CallP P 50 [x37,x40] h_7 fun x41 h_8=>
 (iObj h_8 v10=some u∧True)∧
 CallP P 52 [x36,x41] h_8 fun x42 h_9=>
 (iObj h_9 v10=some u∧True)∧
 CallP P 27 [x33,x42] h_9 fun x43 h_10=>
 (iObj h_10 v10=some u∧True)∧
 OP (iLoad true 4 h_10 x8) fun x44=>
 (iLoad true 4 h_4 x8=some x44∧iLoad true 4 h_5 x8=some x44∧iLoad true 4 h_6 x8=some x44∧iLoad true 4 h_7 x8=some x44∧iLoad true 4 h_8 x8=some x44∧iLoad true 4 h_9 x8=some x44∧True)∧
 CallP P 51 [x43,x44] h_10 fun x45 h_11=>
 (iObj h_11 v10=some u∧True)∧
 CallP P 25 [x45] h_11 fun x46 h_12=>
 (iObj h_12 v10=some u∧True)∧
 OH (oStore 4 h_12 v10 x46) fun _ h_13=>
 (True)∧
 OP (iLoad true 4 h_13 v10) fun x47=>
 OP (iLoad true 4 h_13 x6) fun x48=>
 CallP P 29 [x47,x48] h_13 fun x49 h_14=>
 OP (iBin .gtr x49 (.int .i64 (0))) fun x50=>
 IfP x50
 (OP (iLoad true 4 h_14 v10) fun x51=>
 OH (oStore 4 h_14 x6 x51) fun _ h_15=>
 p15z15 P K x1 c2 x4 x6 d9 x8 d9 L1 h_15)
 (p15z15 P K x1 c2 x4 x6 x7 x8 d9 L1 h_14))
 (p15z16 P K x4 x6 x7 h)):=cdt (by kernel_rfl)
theorem q15z16:p15z16 P K x4 x6 x7 h=
 (OP (iLoad true 4 h x6) fun x53=>
 OH (oStore 4 h x4 x53) fun _ h_1=>
 OP (iLoad true 4 h_1 x4) fun r0=>
 K (.tuple #[r0,x7]) h_1):=cdt (by kernel_rfl)
def T15:Prop:=
 OH (iBox 24 h c0) fun c2 h_1=>
 OH (iAlloc 37 [(.bool false),(.slice none 0 0),(.bool false),(.slice none 0 0)] h_1) fun x4 h_2=>
 CallP P 20 [(.int .i64 (-1))] h_2 fun x11 h_3=>
 OH (iAlloc 37 [(.bool false),(.slice none 0 0),(.bool false),(.slice none 0 0)] h_3) fun x6 h_4=>
 OH (oStore 4 h_4 x6 x11) fun _ h_5=>
 CallP P 20 [(.int .i64 (0))] h_5 fun x12 h_6=>
 OH (iAlloc 37 [(.bool false),(.slice none 0 0),(.bool false),(.slice none 0 0)] h_6) fun x8 h_7=>
 OH (oStore 4 h_7 x8 x12) fun _ h_8=>
 LoopP [(.int .i64 (0)),(.int .i64 (1))] h_8 fun L1 xs hx=>
 p15z7 P K x1 c2 x4 x6 x8 L1 xs hx
theorem e15:iwpP P c15 (bodyP [.cell true 4 4,.tmp 5] K) (frame0 [c0,x1]) h=T15 P K c0 x1 h:=by kernel_rfl
theorem f15 {K:VK} {c0 x1:Value} {h:Heap} (H:T15 Tryz.prog K c0 x1 h):CallP Tryz.prog 15 [c0,x1] h K:=
 callP_intro k15 (Nat.le_of_ble_eq_true rfl) ((e15 Tryz.prog K c0 x1 h).mpr H)
end
/-! F47: pommel/pommelref01.Short -/
noncomputable section
variable (x0 n1 k5 i6 : Value) (L1 : LQ) (xs : List Value) (h : Heap)
def oc47:=compFn Tryz.prog 47 [[],[],[],[0,1],[5,6],[],[],[],[],[0,1,5,6],[],[],[0,1,5,6],[],[]]
@[irreducible] def c47:=icOf oc47
@[irreducible] def c47z6:=c47.r.r.l.r.l.l
@[irreducible] def c47z3:=c47.r.r.r
@[irreducible] def c47z14:=c47z6.r.l.l.r.l
@[irreducible] def c47z9:=c47z6.r.r
@[irreducible] def c47z17:=c47z9.l
theorem k47:oc47=some (26,c47,[.tmp 4]):=by kernel_rfl
def K47z0 (_P:Program) (K:VK):Kont:=bodyP [.tmp 4] K
def K47z3:Kont:=thenK (iwpP P c47z3 (K47z0 P K)) (K47z0 P K)
def K47z5:Kont:=inBlockK 0 (K47z3 P K)
def K47z6:Kont:=thenK (fun f' h''=>(([0,1]:List Nat).map f':List Value)=[x0,n1]∧L1 (([5,6]:List Nat).map f') h'') (K47z5 P K)
def K47z9:Kont:=thenK (iwpP P c47z9 (K47z6 P K x0 n1 L1)) (K47z6 P K x0 n1 L1)
def K47z10:Kont:=inBlockK 1 (K47z9 P K x0 n1 L1)
def p47z6:Prop:=CutP (iwpP P c47z6 (K47z6 P K x0 n1 L1)) ([0,1]++[5,6]) ([x0,n1]++xs) h
def p47z14:Prop:=CutP (iwpP P c47z14 (K47z10 P K x0 n1 L1)) [0,1,5,6] [x0,n1,k5,i6] h
def p47z17:Prop:=CutP (iwpP P c47z17 (K47z6 P K x0 n1 L1)) [0,1,5,6] [x0,n1,k5,i6] h
theorem q47z14:p47z14 P K x0 n1 k5 i6 L1 h=
 (OP (iBin .gtr k5 n1) fun x25=>
 IfP x25
 (K (.bool false) h)
 (p47z17 P K x0 n1 k5 i6 L1 h)):=cdt (by kernel_rfl)
theorem q47z17:p47z17 P K x0 n1 k5 i6 L1 h=
 (OP (iBin .add i6 (.int .i64 (1))) fun x12=>
 ([x0,n1]:List Value)=[x0,n1]∧L1 [k5,x12] h):=cdt (by kernel_rfl)
theorem q47z6 (x0 n1:Value) (L1:LQ) (k5 i6:Value) (h:Heap):p47z6 P K x0 n1 L1 [k5,i6] h=
 (OP (iLenS x0) fun x9=>
 OP (iBin .lss i6 x9) fun x10=>
 IfP x10
 (OP (iIdxS x0 i6) fun x15=>
 OP (iBin .eql x15 (.int .u8 (47))) fun x16=>
 IfP x16
 (p47z14 P K x0 n1 (.int .i64 (0)) i6 L1 h)
 (OP (iIdxS x0 i6) fun x19=>
 OP (iBin .neq x19 (.int .u8 (45))) fun x20=>
 IfP x20
 (OP (iBin .add k5 (.int .i64 (1))) fun x22=>
 p47z14 P K x0 n1 x22 i6 L1 h)
 (p47z14 P K x0 n1 k5 i6 L1 h)))
 (K (.bool true) h)):=cdt (by kernel_rfl)
def T47:Prop:=
 LoopP [(.int .i64 (0)),(.int .i64 (0))] h fun L1 xs hx=>
 p47z6 P K x0 n1 L1 xs hx
theorem e47:iwpP P c47 (bodyP [.tmp 4] K) (frame0 [x0,n1]) h=T47 P K x0 n1 h:=by kernel_rfl
theorem f47 {K:VK} {x0 n1:Value} {h:Heap} (H:T47 Tryz.prog K x0 n1 h):CallP Tryz.prog 47 [x0,n1] h K:=
 callP_intro k47 (Nat.le_of_ble_eq_true rfl) ((e47 Tryz.prog K x0 n1 h).mpr H)
end
/-! F50: pommel/pommelref06.above -/
noncomputable section
variable (c0 x1 c2 x4 x5 k6 : Value) (L1 : LQ) (xs : List Value) (h : Heap)
def oc50:=compFn Tryz.prog 50 [[],[],[],[2,4,5],[6],[],[],[],[4,5],[]]
@[irreducible] def c50:=icOf oc50
@[irreducible] def c50z6:=c50.r.r.l.r.l.l
@[irreducible] def c50z3:=c50.r.r.r
@[irreducible] def c50z11:=c50z3.l
theorem k50:oc50=some (26,c50,[.cell true 4 4]):=by kernel_rfl
def K50z0 (_P:Program) (K:VK):Kont:=bodyP [.cell true 4 4] K
def K50z3:Kont:=thenK (iwpP P c50z3 (K50z0 P K)) (K50z0 P K)
def K50z5:Kont:=inBlockK 0 (K50z3 P K)
def K50z6:Kont:=thenK (fun f' h''=>(([2,4,5]:List Nat).map f':List Value)=[c2,x4,x5]∧L1 (([6]:List Nat).map f') h'') (K50z5 P K)
def p50z6:Prop:=CutP (iwpP P c50z6 (K50z6 P K c2 x4 x5 L1)) ([2,4,5]++[6]) ([c2,x4,x5]++xs) h
def p50z11:Prop:=CutP (iwpP P c50z11 (K50z0 P K)) [4,5] [x4,x5] h
theorem q50z6 (c2 x4 x5:Value) (L1:LQ) (k6:Value) (h:Heap):p50z6 P K c2 x4 x5 L1 [k6] h=
 (OP (iFadr 0 c2) fun x10=>
 OP (iLoad false 1 h x10) fun x11=>
 OP (iLenSl x11) fun x12=>
 OP (iBin .lss k6 x12) fun x13=>
 IfP x13
 (OP (iLoad true 4 h x5) fun x16=>
 (True)∧
 OP (iFadr 0 c2) fun x17=>
 OP (iLoad false 1 h x17) fun x18=>
 (True)∧
 OP (iAdrSl 1 x18 k6) fun x20=>
 OP (iLoad false 1 h x20) fun x21=>
 (True)∧
 CallP P 28 [x21] h fun x22 h_1=>
 (iLoad true 4 h_1 x5=some x16∧True)∧
 CallP P 26 [x16,x22] h_1 fun x23 h_2=>
 (True)∧
 CallP P 25 [x23] h_2 fun x24 h_3=>
 (True)∧
 OH (oStore 4 h_3 x5 x24) fun _ h_4=>
 (True)∧
 OP (iBin .add k6 (.int .i64 (1))) fun x15=>
 ([c2,x4,x5]:List Value)=[c2,x4,x5]∧L1 [x15] h_4)
 (p50z11 P K x4 x5 h)):=cdt (by kernel_rfl)
theorem q50z11:p50z11 P K x4 x5 h=
 (OP (iLoad true 4 h x5) fun x25=>
 OH (oStore 4 h x4 x25) fun _ h_1=>
 OP (iLoad true 4 h_1 x4) fun r0=>
 K r0 h_1):=cdt (by kernel_rfl)
def T50:Prop:=
 OH (iBox 24 h c0) fun c2 h_1=>
 OH (iAlloc 37 [(.bool false),(.slice none 0 0),(.bool false),(.slice none 0 0)] h_1) fun x4 h_2=>
 CallP P 20 [(.int .i64 (0))] h_2 fun x7 h_3=>
 OH (iAlloc 37 [(.bool false),(.slice none 0 0),(.bool false),(.slice none 0 0)] h_3) fun x5 h_4=>
 OH (oStore 4 h_4 x5 x7) fun _ h_5=>
 LoopP [x1] h_5 fun L1 xs hx=>
 p50z6 P K c2 x4 x5 L1 xs hx
theorem e50:iwpP P c50 (bodyP [.cell true 4 4] K) (frame0 [c0,x1]) h=T50 P K c0 x1 h:=by kernel_rfl
theorem f50 {K:VK} {c0 x1:Value} {h:Heap} (H:T50 Tryz.prog K c0 x1 h):CallP Tryz.prog 50 [c0,x1] h K:=
 callP_intro k50 (Nat.le_of_ble_eq_true rfl) ((e50 Tryz.prog K c0 x1 h).mpr H)
end
end Go.Proofs.YtelmdbpaoifmoaaGreat

namespace Go.Proofs.YtelmdbpaoifmoaaGreat
open Go.Sim

section
variable {h : Heap} {K : Value → Heap → Prop}

theorem C50 {vs:Value} {ls:List (List UInt8)} {w:Int} {age:Nat} (hv:SS h vs ls) (hn:ls.length≤20) (hl:∀s∈ls,s.length≤700∧isNum s=true) (hs:∀s∈ls,szQ 4 (ratT s)) (ha:age≤ls.length)
  (hk:∀r h',EX h h'→QV h' r (sumR ((ls.map ratT).drop age))→K r h'):CallP Tryz.prog 50 [.agg #[vs,I w],I age] h K:=by
 refine f50 ?_
 have e1:iBox 24 h (.agg #[vs,I w])=some (pt h.length 0,h++[.arr 24 [vs,I w]]):=rfl
 have e2:∀g:Heap,iAlloc 37 [(.bool false),(.slice none 0 0),(.bool false),(.slice none 0 0)] g=some (pt g.length 0,g++[.arr 37 z4]):=fun _=>rfl
 simp only [T50,e1,e2,OH_some,List.length_append,List.length_cons,List.length_nil,Nat.zero_add]
 have k0:(h++[IObj.arr 24 [vs,I w]]++[IObj.arr 37 z4])[h.length]?=some (.arr 24 [vs,I w]):=by simp
 have k1:(h++[IObj.arr 24 [vs,I w]]++[IObj.arr 37 z4])[h.length+1]?=some (.arr 37 z4):=by simp
 have x1:EX h (h++[IObj.arr 24 [vs,I w]]++[IObj.arr 37 z4]):=(EX.append _ _).push _
 have l1:(h++[IObj.arr 24 [vs,I w]]++[IObj.arr 37 z4]).length=h.length+2:=by simp
 generalize h++[IObj.arr 24 [vs,I w]]++[IObj.arr 37 z4]=h1 at k0 k1 x1 l1⊢
 refine C20u (by decide) ?_
 intro r2 h2 x2 q2
 refine celQ_new q2 ?_
 intro h3 x3 c3 l3
 have x13:=x2.trans x3
 have hle:h1.length≤h2.length:=x2.1
 refine loopL (σ:=Nat×Heap) (fun q=>[I ((age:Int)+q.1)]) (fun q=>q.2) (fun q=>age+q.1≤ls.length∧EX h1 q.2∧CelQ q.2 h2.length (sumR (((ls.map ratT).drop age).take q.1))) (fun q=>ls.length-q.1) (0,h3) (by simp) rfl
  ⟨ha,x13,by simpa [sumR] using c3⟩ ?_
 rintro ⟨i,g⟩ ⟨hi,xg,hc⟩ L hL
 simp only at hi xg hc hL⊢
 rw [q50z6]
 have ld:iLoad false 1 g (pt h.length 0)=some vs:=by simp [iLoad,objCells,xg.get k0,iPart]
 have hv1:=hv.mono (x1.trans xg)
 simp only [fadr_pt,Nat.add_zero,ld,OP_some,hv1.len,bin_lss,IfP_dec,true_and]
 refine ⟨fun hlt=>?_,fun hge=>?_⟩
 ·have hil:age+i<ls.length:=by omega
  obtain ⟨b,o,r1,r2⟩:=hv1.get (age+i) hil
  have em:=List.getElem_mem hil
  obtain ⟨a1,a2⟩:=hl _ em
  have a3:=hs _ em
  obtain ⟨vc,lc,qc⟩:=hc.load
  have ea:(age:Int)+(i:Int)=((age+i:Nat):Int):=by omega
  simp only [lc,ea,r1,r2,OP_some]
  refine C28u a1 a2 ?_
  intro r4 g4 x4 q4
  have hdl:i<((ls.map ratT).drop age).length:=by simp;omega
  have hsz:=sumR_sz (qs:=(ls.map ratT).drop age) (fun q hq=>by
   have:=List.mem_of_mem_drop hq
   obtain ⟨s,h1,rfl⟩:=List.mem_map.1 this
   exact hs s h1) i (by omega)
  refine ⟨⟨EX.load x4 lc,trivial⟩,?_⟩
  refine C26u ((qc.mono x4).un hsz) (q4.un a3) (by omega) ?_
  intro r5 g5 x5 q5
  refine C25u q5 (by omega) ?_
  intro r6 g6 x6 q6
  have x46:=x4.trans (x5.trans x6)
  obtain ⟨g7,e7,s7⟩:=(hc.mono x46).store q6
  have e:sumR (((ls.map ratT).drop age).take i)+ratT ls[age+i]=sumR (((ls.map ratT).drop age).take (i+1)):=by
   rw [sumR_take hdl];simp
  rw [e] at s7
  have ei:(age:Int)+((i+1:Nat):Int)=((age+i+1:Nat):Int):=by omega
  simp only [e7,OH_some,bin_add,OP_some,inc (age+i) (by omega)]
  have hh:=hL (i+1,g7) ⟨by show age+(i+1)≤_;omega,s7.ex (xg.trans x46) hle,s7.cell⟩ (by show ls.length-(i+1)<ls.length-i;omega)
  simp only [ei] at hh
  exact hh
 ·have hie:age+i=ls.length:=by omega
  rw [q50z11]
  obtain ⟨vc,lc,qc⟩:=hc.load
  simp only [lc,OP_some]
  obtain ⟨g7,e7,s7⟩:=celQ_store (xg.get k1) qc
  simp only [e7,OH_some]
  obtain ⟨v8,l8,q8⟩:=s7.cell.load
  simp only [l8,OP_some]
  rw [List.take_of_length_le (by simp;omega)] at q8
  exact hk _ _ (s7.ex (x1.trans xg) (by omega)) q8

end
end Go.Proofs.YtelmdbpaoifmoaaGreat


namespace Go.Proofs.YtelmdbpaoifmoaaGreat
open Go.Sim

def shortT (n:Nat):Nat→List UInt8→Bool
 | _,[]=>true
 | k,c::t=>let k':=if c=47 then 0 else if c=45 then k else k+1;if n<k' then false else shortT n k' t

theorem shortT_digs {n:Nat}:∀{s:List UInt8} {k:Nat},digs s→k≤n→shortT n k s=decide (k+s.length≤n)
 | [],k,_,hk=>by simp [shortT,hk]
 | c::t,k,hd,hk=>by
  have h1:=hd c (by simp)
  have n1:c≠47:=fun e=>by rw [e] at h1;simp at h1
  have n2:c≠45:=fun e=>by rw [e] at h1;simp at h1
  simp only [shortT,if_neg n1,if_neg n2,List.length_cons]
  by_cases h:n<k+1
  ·rw [if_pos h]
   exact (decide_eq_false (by omega)).symm
  ·rw [if_neg h,shortT_digs (fun x hx=>hd x (by simp [hx])) (by omega),decide_eq_decide]
   omega

theorem shortT_app {n:Nat} {u:List UInt8}:∀{s:List UInt8} {k:Nat},digs s→k≤n→shortT n k (s++47::u)=(decide (k+s.length≤n)&&shortT n 0 u)
 | [],k,_,hk=>by simp [shortT,hk]
 | c::t,k,hd,hk=>by
  have h1:=hd c (by simp)
  have n1:c≠47:=fun e=>by rw [e] at h1;simp at h1
  have n2:c≠45:=fun e=>by rw [e] at h1;simp at h1
  simp only [List.cons_append,shortT,if_neg n1,if_neg n2,List.length_cons]
  by_cases h:n<k+1
  ·rw [if_pos h,decide_eq_false (by omega),Bool.false_and]
  ·rw [if_neg h,shortT_app (fun x hx=>hd x (by simp [hx])) (by omega)]
   congr 1
   rw [decide_eq_decide]
   omega

theorem valB_ge {s:List UInt8} (h0:0<s.length) (h:s.head?≠some 48) (hd:digs s):10^(s.length-1)≤valB s:=by
 cases s with
 | nil=>simp at h0
 | cons c t=>
  have h1:=hd c (by simp)
  have h2:c.toNat≠48:=by
   intro e
   apply h
   have:c=48:=UInt8.toNat_inj.1 e
   rw [this];rfl
  rw [valB_cons,List.length_cons,Nat.add_sub_cancel]
  have:=Nat.mul_le_mul_right (10^t.length) (show 1≤c.toNat-48 by omega)
  omega

/-- Few digits, or a small number. -/
theorem digOk_len {s:List UInt8} (h:digOk s=true) {n:Nat} (hn:1≤n):s.length≤n↔vOf s<10^n:=by
 unfold vOf
 rw [if_pos h]
 obtain ⟨⟨h1,_⟩,h2,h3⟩:=digOk_iff.1 h
 constructor
 ·intro hl
  exact Nat.lt_of_lt_of_le (valB_lt h3) (Nat.pow_le_pow_right (by decide) hl)
 ·intro hv
  by_cases h48:s.head?=some 48
  ·have:=h2 h48;omega
  ·have hg:=valB_ge h1 h48 h3
   apply Classical.byContradiction
   intro hc
   have:=Nat.pow_le_pow_right (show 0<10 by decide) (show n≤s.length-1 by omega)
   omega

theorem shortT_sign {n:Nat} (s:List UInt8):shortT n 0 s=shortT n 0 (unsign s):=by
 unfold unsign
 split
 ·rename_i h
  cases s with
  | nil=>rfl
  | cons c t=>
   have:c=45:=by simpa using h
   subst this
   simp [shortT]
 ·rfl

theorem split47 (t:List UInt8) (h:hasSl t=true):t=overT t++47::underT t:=by
 unfold hasSl at h
 have h:=of_decide_eq_true h
 unfold overT underT
 have e:t[t.idxOf 47]=47:=by
  have:=List.getElem_idxOf h
  simpa using this
 generalize t.idxOf 47=i at*
 have e2:=List.drop_eq_getElem_cons h
 rw [e] at e2
 rw [←e2,List.take_append_drop]

theorem short_fits {s:List UInt8} (hn:isNum s=true) {n:Nat} (h1:1≤n):shortT n 0 s=fitsQ n (ratT s):=by
 have hp:=isNum_parse hn
 rw [shortT_sign]
 rw [parseQ_un] at hp
 unfold parseT at hp
 split at hp
 ·rename_i hc
  obtain ⟨c1,c2,_⟩:=hc
  injection hp with hp
  injection hp with e1 e2
  have en:(ratT s).num.natAbs=vOf (overT (unsign s)):=by
   rw [←e1];exact (signed_n (m:=decide (s.head?=some 45)) (n:=vOf (overT (unsign s)))).2
  unfold fitsQ
  rw [en,←e2]
  generalize unsign s=t at*
  have l1:=digOk_len c2 h1
  obtain ⟨_,_,d2⟩:=digOk_iff.1 c2
  unfold denT
  cases hs:hasSl t with
  | true=>
   unfold denOk at c1
   rw [hs,Bool.not_true,Bool.false_or,Bool.and_eq_true] at c1
   obtain ⟨c3,_⟩:=c1
   have l2:=digOk_len c3 h1
   obtain ⟨_,_,d3⟩:=digOk_iff.1 c3
   rw [if_pos rfl]
   conv=>lhs;rw [split47 t hs]
   rw [shortT_app d2 (Nat.zero_le _),shortT_digs d3 (Nat.zero_le _)]
   congr 1 <;> rw [decide_eq_decide] <;> omega
  | false=>
   have:overT t=t:=by
    unfold hasSl at hs
    have:=of_decide_eq_false hs
    unfold overT
    exact List.take_of_length_le (by omega)
   rw [if_neg (by decide)]
   have h10:1<10^n:=Nat.one_lt_pow (by omega) (by decide)
   rw [this] at d2 l1⊢
   rw [shortT_digs d2 (Nat.zero_le _),decide_eq_true h10,Bool.and_true,decide_eq_decide]
   omega
 ·cases hp

theorem C47 {s:List UInt8} {n:Nat} {h:Heap} {K:Value→Heap→Prop} (hl:s.length≤700) (hk:K (B (shortT n 0 s)) h):CallP Tryz.prog 47 [S s,I n] h K:=by
 refine f47 ?_
 unfold T47
 refine loopL (σ:=Nat×Nat) (fun q=>[I q.2,I q.1]) (fun _=>h) (fun q=>q.1≤s.length∧q.2≤q.1∧shortT n 0 s=shortT n q.2 (s.drop q.1)) (fun q=>s.length-q.1) (0,0) rfl rfl ⟨Nat.zero_le _,Nat.le_refl _,rfl⟩ ?_
 rintro ⟨i,k⟩ ⟨hi,hki,he⟩ L hL
 simp only at hi hki he hL⊢
 rw [q47z6]
 simp only [lenS_S,OP_some,bin_lss,IfP_dec]
 refine ⟨fun hlt=>?_,fun hge=>?_⟩
 rotate_left
 ·rw [List.drop_eq_nil_of_le (by omega)] at he
  rw [he] at hk
  exact hk
 have hil:i<s.length:=by omega
 rw [List.drop_eq_getElem_cons hil] at he
 have ni:=inc i (by omega)
 have nk:=inc k (by omega)
 have nxt:∀k':Nat,k'≤i+1→(if s[i]=47 then 0 else if s[i]=45 then k else k+1)=k'→p47z14 Tryz.prog K (S s) (I n) (I k') (I i) L h:=by
  intro k' hk' ek
  rw [q47z14]
  simp only [bin_gtr,OP_some,IfP_dec]
  simp only [shortT,ek] at he
  refine ⟨fun hc=>?_,fun hc=>?_⟩
  ·rw [if_pos (by omega)] at he
   rw [he] at hk
   exact hk
  ·rw [if_neg (by omega)] at he
   rw [q47z17]
   simp only [bin_add,OP_some,ni,true_and]
   exact hL (i+1,k') ⟨by show i+1≤_;omega,by show k'≤i+1;omega,he⟩ (by show s.length-(i+1)<s.length-i;omega)
 have c47:((s[i].toNat:Int)=47)↔s[i]=47:=by
  constructor
  ·intro e;apply UInt8.toNat_inj.1;show s[i].toNat=47;omega
  ·intro e;rw [e];rfl
 have c45:((s[i].toNat:Int)=45)↔s[i]=45:=by
  constructor
  ·intro e;apply UInt8.toNat_inj.1;show s[i].toNat=45;omega
  ·intro e;rw [e];rfl
 simp only [idxS_S (a:=s) hil,OP_some,cv,bin_eql,IfP_dec]
 refine ⟨fun hc=>?_,fun hc=>?_⟩
 ·exact nxt 0 (by omega) (by rw [if_pos (c47.1 hc)])
 ·have n47:¬s[i]=47:=fun e=>hc (c47.2 e)
  simp only [bin_neq,OP_some]
  by_cases h45:s[i]=45
  ·rw [decide_eq_true (c45.2 h45)]
   simp only [Bool.not_true,IfP_false]
   exact nxt k (by omega) (by rw [if_neg n47,if_pos h45])
  ·rw [decide_eq_false (fun e=>h45 (c45.1 e))]
   simp only [Bool.not_false,IfP_true,bin_add,OP_some,nk]
   exact nxt (k+1) (by omega) (by rw [if_neg n47,if_neg h45])

end Go.Proofs.YtelmdbpaoifmoaaGreat


namespace Go.Proofs.YtelmdbpaoifmoaaGreat
open Go.Sim

def itemB (qs:List Rat) (k:Nat):Bool:=badQ (qs.getD k 0)||(decide (k+1=qs.length)&&decide ((qs.getD k 0).num=0))
def sumG (qs:List Rat):Nat→Rat
 | 0=>0
 | k+1=>if itemB qs k=true then sumG qs k else sumG qs k+qs.getD k 0
def anyB (qs:List Rat):Nat→Bool
 | 0=>false
 | k+1=>anyB qs k||itemB qs k

theorem sumG_good {qs:List Rat}:∀{k:Nat},k≤qs.length→anyB qs k=false→sumG qs k=sumR (qs.take k)
 | 0,_,_=>by rw [List.take_zero];rfl
 | k+1,hk,hb=>by
  simp only [anyB,Bool.or_eq_false_iff] at hb
  have hk':k<qs.length:=by omega
  simp only [sumG]
  rw [if_neg (by rw [hb.2];decide),sumG_good (by omega) hb.1,sumR_take hk',List.getD_eq_getElem?_getD,List.getElem?_eq_getElem hk',Option.getD_some]

theorem anyB_iff {qs:List Rat}:∀{k:Nat},anyB qs k=true↔∃j,j<k∧itemB qs j=true
 | 0=>by simp [anyB]
 | k+1=>by
  simp only [anyB,Bool.or_eq_true,anyB_iff (k:=k)]
  constructor
  ·rintro (⟨j,h1,h2⟩ | h)
   ·exact ⟨j,by omega,h2⟩
   ·exact ⟨k,by omega,h⟩
  ·rintro ⟨j,h1,h2⟩
   by_cases e:j=k
   ·subst e;exact .inr h2
   ·exact .inl ⟨j,by omega,h2⟩

theorem sumG_sz {qs:List Rat}:∀{k:Nat},k≤qs.length→szQ (5*k+1) (sumG qs k)
 | 0,_=>szQ.zero
 | k+1,hk=>by
  have ih:szQ (5*k+1) (sumG qs k):=sumG_sz (by omega)
  simp only [sumG]
  split
  ·exact ih.le (by omega)
  ·rename_i hb
   have h4:szQ 4 (qs.getD k 0):=by
    have:badQ (qs.getD k 0)=false:=by
     cases e:badQ (qs.getD k 0) with
     | false=>rfl
     | true=>exact absurd (by unfold itemB;rw [e,Bool.true_or]) hb
    unfold badQ fitsQ at this
    rw [Bool.or_eq_false_iff,Bool.not_eq_false',Bool.and_eq_true,decide_eq_true_eq,decide_eq_true_eq] at this
    exact this.2
   exact (ih.add h4).le (by omega)

theorem items_ok {qs:List Rat} (h1:1≤qs.length):(anyB qs qs.length|| !decide (sumG qs qs.length=1))= !(!lastZ qs&&(!qs.any badQ&&decide (sumR qs=1))):=by
 cases hb:anyB qs qs.length with
 | false=>
  have hs:=sumG_good (Nat.le_refl _) hb
  rw [List.take_length] at hs
  have no:∀j,j<qs.length→itemB qs j=false:=by
   intro j hj
   cases e:itemB qs j with
   | false=>rfl
   | true=>rw [anyB_iff.2 ⟨j,hj,e⟩] at hb;cases hb
  have hl:lastZ qs=false:=by
   have:=no (qs.length-1) (by omega)
   unfold itemB at this
   rw [Bool.or_eq_false_iff,decide_eq_true (show qs.length-1+1=qs.length by omega),Bool.true_and] at this
   exact this.2
  have ha:qs.any badQ=false:=by
   cases e:qs.any badQ with
   | false=>rfl
   | true=>
    obtain ⟨q,hq,hbq⟩:=List.any_eq_true.1 e
    obtain ⟨j,hj,rfl⟩:=List.getElem_of_mem hq
    have:=no j hj
    unfold itemB at this
    rw [Bool.or_eq_false_iff,List.getD_eq_getElem?_getD,List.getElem?_eq_getElem hj,Option.getD_some,hbq] at this
    exact absurd this.1 (by decide)
  rw [hl,ha,hs]
  simp
 | true=>
  obtain ⟨j,hj,hi⟩:=anyB_iff.1 hb
  unfold itemB at hi
  rw [Bool.or_eq_true] at hi
  rw [Bool.true_or]
  rcases hi with hi | hi
  ·have:qs.any badQ=true:=by
    rw [List.getD_eq_getElem?_getD,List.getElem?_eq_getElem hj,Option.getD_some] at hi
    exact List.any_eq_true.2 ⟨_,List.getElem_mem hj,hi⟩
   rw [this];simp
  ·rw [Bool.and_eq_true,decide_eq_true_eq] at hi
   have hj':j=qs.length-1:=by omega
   have:lastZ qs=true:=by unfold lastZ;rw [←hj'];exact hi.2
   rw [this];rfl

theorem load2_parts {g:Heap} {i o:Nat} {a b:Value} (h:iLoad true 2 g (pt i o)=some (.agg #[a,b])):iLoad false 1 g (pt i o)=some a∧iLoad false 1 g (pt i (o+1))=some b:=by
 simp only [iLoad] at h⊢
 cases hc:objCells g i with
 | none=>rw [hc] at h;cases h
 | some xs=>
  rw [hc] at h
  simp only [Option.bind_some,iPart,if_true,Bool.false_eq_true,if_false] at h⊢
  split at h
  ·injection h with h
   injection h with h
   have h:=congrArg Array.toList h
   simp only [List.toList_toArray] at h
   have h0:=congrArg (fun l=>l[0]?) h
   have h1:=congrArg (fun l=>l[1]?) h
   simp only [List.getElem?_take,List.getElem?_drop] at h0 h1
   constructor
   ·simpa using h0
   ·simpa using h1
  ·cases h

end Go.Proofs.YtelmdbpaoifmoaaGreat


namespace Go.Proofs.YtelmdbpaoifmoaaGreat
open Go.Sim

theorem CelQ.num {g:Heap} {i:Nat} {q:Rat} (p:CelQ g i q):∃u,iLoad true 2 g (pt i 0)=some u∧ZV g u q.num:=by
 obtain ⟨a,b,c,d,e,u,w,e2,hu,hw⟩:=p
 refine ⟨_,load4a e,u,?_,hu⟩
 injection e2 with e2
 have e3:=congrArg Array.toList e2
 simp only [List.cons.injEq] at e3
 rw [e3.1,e3.2.1]

theorem isgn_lt (z:Int):decide (isgn z<0)=decide (z<0):=by
 rw [decide_eq_decide]
 unfold isgn
 split
 ·omega
 ·split <;> omega
theorem isgn_zero (z:Int):decide (isgn z=0)=decide (z=0):=by
 rw [decide_eq_decide]
 unfold isgn
 split
 ·omega
 ·split <;> omega

def bI (b:Bool):Int:=if b then 1 else 0

section
variable {h : Heap} {K : Value → Heap → Prop}

theorem C13_items {v:Value} {cs:List (List (List UInt8)×Int)} {i is:Nat} {g0:Heap} {b0:Bool} {L1:List Value→Heap→Prop} (hv:CHL h v cs) (hi:i<cs.length) (hl:cs[i].1.length≤8∧∀s∈cs[i].1,s.length≤700∧isNum s=true)
  (x0:EX h g0) (hs:h.length≤is) (c0:CelQ g0 is 0)
  (hk:∀b g',EX h g'→b=(b0||(anyB (cs[i].1.map ratT) (cs[i].1.map ratT).length|| !decide (sumG (cs[i].1.map ratT) (cs[i].1.map ratT).length=1)))→p13z55 Tryz.prog K v (I (bI b)) (I i) L1 g'):
  LoopP [I (bI b0),I 0] g0 fun L2 xs hx=>p13z33 Tryz.prog K v (I i) (pt is 0) L1 L2 xs hx:=by
 obtain ⟨l8,hl⟩:=hl
 have ml:(cs[i].1.map ratT).length=cs[i].1.length:=List.length_map ..
 refine loopL (σ:=Nat×Heap) (fun q=>[I (bI (b0||anyB (cs[i].1.map ratT) q.1)),I q.1]) (fun q=>q.2) (fun q=>q.1≤cs[i].1.length∧EX h q.2∧CelQ q.2 is (sumG (cs[i].1.map ratT) q.1)) (fun q=>cs[i].1.length-q.1) (0,g0) (by simp [anyB]) rfl
  ⟨Nat.zero_le _,x0,c0⟩ ?_
 rintro ⟨k,g⟩ ⟨hkl,xg,hc⟩ L hL
 simp only at hkl xg hc hL⊢
 rw [q13z33]
 obtain ⟨bi,o,vs,u1,u2,u3⟩:=(hv.mono xg).get hi
 obtain ⟨u4,u5⟩:=load2_parts u2
 simp only [u1,OP_some,fadr_pt,Nat.add_zero,u4,u3.len,bin_lss,IfP_dec]
 refine ⟨fun hlt=>?_,fun hge=>?_⟩
 rotate_left
 ·have hke:k=cs[i].1.length:=by omega
  subst hke
  rw [q13z53]
  obtain ⟨vc,lc,qc⟩:=hc.load
  simp only [lc,OP_some,true_and]
  refine C20u (by decide) ?_
  intro r1 g1 x1 q1
  refine ⟨⟨EX.load x1 lc,trivial⟩,?_⟩
  have s1:=sumG_sz (qs:=cs[i].1.map ratT) (k:=cs[i].1.length) (by rw [ml];exact Nat.le_refl _)
  refine C29u ((qc.mono x1).un s1) (q1.un one_sz) (by omega) ?_
  intro g2 x2
  simp only [bin_neq,OP_some,true_and,cmpR_zero]
  have xx:=xg.trans (x1.trans x2)
  rw [ml] at hk
  have e1:((1:Int):Rat)=1:=rfl
  rw [e1]
  by_cases hq:sumG (cs[i].1.map ratT) cs[i].1.length=1
  ·rw [decide_eq_true hq]
   simp only [Bool.not_true,IfP_false]
   exact hk _ g2 xx (by rw [decide_eq_true hq];simp)
  ·rw [decide_eq_false hq]
   simp only [Bool.not_false,IfP_true]
   exact hk true g2 xx (by rw [decide_eq_false hq];simp)
 have hil:k<cs[i].1.length:=by omega
 obtain ⟨b,o',r1,r2⟩:=u3.get k hil
 have em:=List.getElem_mem hil
 obtain ⟨a1,a2⟩:=hl _ em
 have egd:(cs[i].1.map ratT).getD k 0=ratT cs[i].1[k]:=by
  rw [List.getD_eq_getElem?_getD,List.getElem?_map,List.getElem?_eq_getElem hil]
  rfl
 simp only [r1,r2,OP_some]
 refine C28u a1 a2 ?_
 intro q71 g1 x1 qv
 have e2:∀g:Heap,iAlloc 37 [(.bool false),(.slice none 0 0),(.bool false),(.slice none 0 0)] g=some (pt g.length 0,g++[.arr 37 z4]):=fun _=>rfl
 rw [e2]
 simp only [OH_some]
 refine celQ_new qv ?_
 intro g3 x3 c3 _
 have hb1:is<g1.length:=by have:=hc.lt;have:=x1.1;omega
 generalize g1.length=iq at c3 hb1⊢
 have xg3:=xg.trans (x1.trans x3)
 simp only [EX.load (x1.trans x3) u4,r1,EX.load (x1.trans x3) r2,OP_some]
 refine C47 (n:=4) a1 ?_
 rw [short_fits a2 (by decide)]
 have hc3:=hc.mono (x1.trans x3)
 -- what comes after the test
 have fin:∀{g4:Heap},EX g3 g4→p13z51 Tryz.prog K v (I (bI (b0||anyB (cs[i].1.map ratT) k))) (I i) (pt is 0) (I k) (pt iq 0) (B (badQ (ratT cs[i].1[k]))) (if badQ (ratT cs[i].1[k])=true then undef else B (decide (k+1=cs[i].1.length)&&decide ((ratT cs[i].1[k]).num=0))) L1 L g4:=by
  intro g4 x4
  rw [q13z51]
  have hpick:iPick (B (badQ (ratT cs[i].1[k]))) (.bool true) (if badQ (ratT cs[i].1[k])=true then undef else B (decide (k+1=cs[i].1.length)&&decide ((ratT cs[i].1[k]).num=0)))=some (B (itemB (cs[i].1.map ratT) k)):=by
   unfold itemB
   rw [egd,ml]
   cases badQ (ratT cs[i].1[k]) with
   | true=>rfl
   | false=>rfl
  rw [hpick]
  simp only [OP_some]
  have nxt:∀(bb:Bool) {g5:Heap},EX h g5→CelQ g5 is (sumG (cs[i].1.map ratT) (k+1))→bb=(b0||anyB (cs[i].1.map ratT) (k+1))→p13z52 Tryz.prog K v (I (bI bb)) (I i) (pt is 0) (I k) L1 L g5:=by
   intro bb g5 x5 c5 hbb
   rw [q13z52]
   simp only [bin_add,OP_some,inc k (by omega),true_and]
   have:=hL (k+1,g5) ⟨by show k+1≤_;omega,x5,c5⟩ (by show cs[i].1.length-(k+1)<cs[i].1.length-k;omega)
   rw [hbb]
   exact this
  cases hib:itemB (cs[i].1.map ratT) k with
  | true=>
   simp only [IfP_true]
   refine nxt true (xg3.trans x4) ?_ (by simp only [anyB,hib,Bool.or_true])
   simp only [sumG,hib,if_true]
   exact hc3.mono x4
  | false=>
   simp only [IfP_false]
   obtain ⟨va,la,qa⟩:=(hc3.mono x4).load
   obtain ⟨vb,lb,qb⟩:=(c3.mono x4).load
   simp only [la,lb,OP_some]
   have s1:=sumG_sz (qs:=cs[i].1.map ratT) (k:=k) (by rw [ml];omega)
   have nb:badQ (ratT cs[i].1[k])=false:=by
    unfold itemB at hib
    rw [Bool.or_eq_false_iff,egd] at hib
    exact hib.1
   have s2:szQ 4 (ratT cs[i].1[k]):=by
    unfold badQ fitsQ at nb
    rw [Bool.or_eq_false_iff,Bool.not_eq_false',Bool.and_eq_true,decide_eq_true_eq,decide_eq_true_eq] at nb
    exact nb.2
   refine C26u (qa.un s1) (qb.un s2) (by omega) ?_
   intro r5 g5 x5 q5
   refine C25u q5 (by omega) ?_
   intro r6 g6 x6 q6
   obtain ⟨g7,e7,s7⟩:=((hc3.mono x4).mono (x5.trans x6)).store q6
   simp only [e7,OH_some]
   refine nxt _ (s7.ex (xg3.trans (x4.trans (x5.trans x6))) hs) ?_ (by simp only [anyB,hib,Bool.or_false])
   have:sumG (cs[i].1.map ratT) (k+1)=sumG (cs[i].1.map ratT) k+ratT cs[i].1[k]:=by simp only [sumG,hib,egd];rfl
   rw [this]
   exact s7.cell
 -- the last one is not 0
 have last:∀{g4:Heap},EX g3 g4→p13z45 Tryz.prog K v (I (bI (b0||anyB (cs[i].1.map ratT) k))) (I i) (pt is 0) (I k) (pt iq 0) (B (badQ (ratT cs[i].1[k]))) L1 L g4:=by
  intro g4 x4
  rw [q13z45]
  cases hbq:badQ (ratT cs[i].1[k]) with
  | true=>
   have:=fin x4
   rw [hbq,if_pos rfl] at this
   simp only [GdP_tf]
   rw [q13z47]
   simp only [GdP_undef]
   rw [q13z49]
   simp only [GdP_tf]
   exact this
  | false=>
   have fin:=@fin
   rw [hbq] at fin
   simp only [Bool.false_eq_true,if_false] at fin
   simp only [GdP_ff]
   obtain ⟨bi4,o4,vs4,m1,m2,m3⟩:=(hv.mono (xg3.trans x4)).get hi
   obtain ⟨m4,m5⟩:=load2_parts m2
   have ew:IntKind.wrap .i64 ((cs[i].1.length:Int)-1)=(cs[i].1.length:Int)-1:=wrap64 (by omega) (by omega)
   simp only [m1,OP_some,fadr_pt,Nat.add_zero,m4,m3.len,bin_sub,ew,bin_eql]
   have ed:decide ((k:Int)=(cs[i].1.length:Int)-1)=decide (k+1=cs[i].1.length):=by rw [decide_eq_decide];omega
   rw [ed,q13z47]
   by_cases hla:k+1=cs[i].1.length
   ·rw [decide_eq_true hla] at fin⊢
    simp only [GdP_tt]
    obtain ⟨un,ln,zn⟩:=(c3.mono x4).num
    simp only [fadr_pt,Nat.add_zero,OP_some,ln]
    refine C48 zn ?_
    intro g5 x5
    simp only [bin_eql,OP_some,isgn_zero]
    rw [q13z49]
    simp only [GdP_ff,iPick_t,OP_some]
    have:=fin (x4.trans x5)
    rwa [Bool.true_and] at this
   ·rw [decide_eq_false hla] at fin⊢
    simp only [GdP_ft]
    rw [q13z49]
    simp only [GdP_ff,iPick_f,OP_some]
    have:=fin x4
    rwa [Bool.false_and] at this
 simp only [un_not,OP_some]
 rw [q13z41]
 cases hf:fitsQ 4 (ratT cs[i].1[k]) with
 | false=>
  have eb:badQ (ratT cs[i].1[k])=true:=by unfold badQ;rw [hf];simp
  simp only [Bool.not_false,GdP_tf]
  rw [q13z43]
  simp only [iPick_t,OP_some]
  have:=last (EX.refl g3)
  rwa [eb] at this
 | true=>
  have eb:badQ (ratT cs[i].1[k])=decide ((ratT cs[i].1[k]).num<0):=by unfold badQ;rw [hf];simp
  simp only [Bool.not_true,GdP_ff]
  obtain ⟨un,ln,zn⟩:=c3.num
  simp only [fadr_pt,Nat.add_zero,OP_some,ln]
  refine C48 zn ?_
  intro g5 x5
  simp only [bin_lss,OP_some,isgn_lt]
  rw [q13z43]
  simp only [iPick_f,OP_some]
  have:=last x5
  rwa [eb] at this

end
end Go.Proofs.YtelmdbpaoifmoaaGreat


namespace Go.Proofs.YtelmdbpaoifmoaaGreat
open Go.Sim

def errC (cs:List (List (List UInt8)×Int)):Int:=if formC cs=false then 2 else if argC cs=false then 1 else 0
def oksC (cs:List (List (List UInt8)×Int)):Bool:=(jobsOf cs).all fun c=>chOk c.1 c.2

theorem oksC_take {cs:List (List (List UInt8)×Int)} {i:Nat} (hi:i<cs.length):oksC (cs.take (i+1))=(oksC (cs.take i)&&chOk (cs[i].1.map ratT) cs[i].2):=by
 unfold oksC jobsOf
 rw [List.take_succ_eq_append_getElem hi,List.map_append,List.all_append]
 simp
theorem formC_take {cs:List (List (List UInt8)×Int)} {i:Nat} (hi:i<cs.length):formC (cs.take (i+1))=(formC (cs.take i)&&cs[i].1.all isNum):=by
 unfold formC
 rw [List.take_succ_eq_append_getElem hi,List.all_append]
 simp
theorem formC_of {cs:List (List (List UInt8)×Int)} {i:Nat} (hi:i<cs.length) (h:cs[i].1.all isNum=false):formC cs=false:=by
 unfold formC
 rw [List.all_eq_false]
 exact ⟨cs[i],List.getElem_mem hi,by rw [h];decide⟩

section
variable {h : Heap} {K : Value → Heap → Prop}

theorem C13 {v:Value} {cs:List (List (List UInt8)×Int)} (hv:CHL h v cs) (hl:∀c∈cs,c.1.length≤1000∧∀s∈c.1,s.length≤700) (hn:cs.length≤1000)
  (hk:∀h',EX h h'→K (I (errC cs)) h'):CallP Tryz.prog 13 [v] h K:=by
 refine f13 ?_
 unfold T13
 refine loopL (σ:=Nat×Heap) (fun q=>[I (bI (!oksC (cs.take q.1))),I q.1]) (fun q=>q.2) (fun q=>q.1≤cs.length∧EX h q.2∧formC (cs.take q.1)=true) (fun q=>cs.length-q.1) (0,h) rfl rfl ⟨Nat.zero_le _,EX.refl _,rfl⟩ ?_
 rintro ⟨i,g⟩ ⟨hi,xg,hform⟩ L hL
 simp only at hi xg hform hL⊢
 rw [q13z6]
 have hlen:=(hv.mono xg).len
 simp only [hlen,OP_some,bin_lss,IfP_dec]
 refine ⟨fun hlt=>?_,fun hge=>?_⟩
 rotate_left
 ·have hie:i=cs.length:=by omega
  subst hie
  rw [List.take_length] at hform⊢
  rw [q13z56]
  simp only [hlen,OP_some]
  refine C46 ?_
  have hk:=hk g xg
  unfold errC at hk
  rw [if_neg (by rw [hform];decide)] at hk
  simp only [un_not,OP_some]
  unfold argC at hk
  have eo:((jobsOf cs).all fun c=>chOk c.1 c.2)=oksC cs:=rfl
  rw [eo] at hk
  have e1:decide ((1:Int)≤(cs.length:Int))=decide (1≤cs.length):=by rw [decide_eq_decide];omega
  have e2:decide ((cs.length:Int)≤3)=decide (cs.length≤3):=by rw [decide_eq_decide];omega
  rw [e1,e2]
  cases hc:(decide (1≤cs.length)&&decide (cs.length≤3)) with
  | false=>
   rw [hc,Bool.false_and,if_pos rfl] at hk
   simp only [Bool.not_false,IfP_true]
   rw [q13z59];exact hk
  | true=>
   rw [hc,Bool.true_and] at hk
   simp only [Bool.not_true,IfP_false]
   rw [q13z59]
   cases ho:oksC cs with
   | false=>rw [ho,if_pos rfl] at hk;exact hk
   | true=>rw [ho,if_neg (by decide)] at hk;exact hk
 have hil:i<cs.length:=by omega
 obtain ⟨l1,l2⟩:=hl _ (List.getElem_mem hil)
 refine C20u (by decide) ?_
 intro r1 g1 x1 q1
 have e2:∀g:Heap,iAlloc 37 [(.bool false),(.slice none 0 0),(.bool false),(.slice none 0 0)] g=some (pt g.length 0,g++[.arr 37 z4]):=fun _=>rfl
 rw [e2]
 simp only [OH_some]
 refine celQ_new q1 ?_
 intro g2 x2 c2 _
 have xg2:=xg.trans (x1.trans x2)
 have hs:h.length≤g1.length:=(xg.trans x1).1
 generalize g1.length=is at c2 hs⊢
 -- all texts are numbers
 refine loopL (σ:=Nat×Heap) (fun q=>[I q.1]) (fun q=>q.2) (fun q=>q.1≤cs[i].1.length∧EX g2 q.2∧(cs[i].1.take q.1).all isNum=true) (fun q=>cs[i].1.length-q.1) (0,g2) rfl rfl ⟨Nat.zero_le _,EX.refl _,by simp⟩ ?_
 rintro ⟨k,g3⟩ ⟨hkl,x3,hnum⟩ L' hL'
 simp only at hkl x3 hnum hL'⊢
 have xg3:=xg2.trans x3
 rw [q13z15]
 obtain ⟨bi,o,vs,u1,u2,u3⟩:=(hv.mono xg3).get hil
 obtain ⟨u4,u5⟩:=load2_parts u2
 simp only [u1,OP_some,fadr_pt,Nat.add_zero,u4,u3.len,bin_lss,IfP_dec]
 refine ⟨fun hlt2=>?_,fun hge2=>?_⟩
 ·have hkk:k<cs[i].1.length:=by omega
  obtain ⟨b,o',r1,r2⟩:=u3.get k hkk
  simp only [r1,r2,OP_some]
  refine C24 (l2 _ (List.getElem_mem hkk)) ?_
  intro g4 x4
  have ei:(parseQ cs[i].1[k]).isSome=isNum cs[i].1[k]:=rfl
  rw [ei]
  simp only [un_not,OP_some]
  cases hnk:isNum cs[i].1[k] with
  | false=>
   simp only [Bool.not_false,IfP_true]
   have hf:formC cs=false:=formC_of hil (by rw [List.all_eq_false];exact ⟨_,List.getElem_mem hkk,by rw [hnk];decide⟩)
   have:=hk g4 (xg3.trans x4)
   unfold errC at this
   rw [if_pos hf] at this
   exact this
  | true=>
   simp only [Bool.not_true,IfP_false,bin_add,OP_some,inc k (by omega),true_and]
   refine hL' (k+1,g4) ⟨by show k+1≤_;omega,x3.trans x4,?_⟩ (by show cs[i].1.length-(k+1)<cs[i].1.length-k;omega)
   show (cs[i].1.take (k+1)).all isNum=true
   rw [List.take_succ_eq_append_getElem hkk,List.all_append,hnum]
   simp [hnk]
 have hke:k=cs[i].1.length:=by omega
 subst hke
 rw [List.take_length] at hnum
 have hform':formC (cs.take (i+1))=true:=by rw [formC_take hil,hform,hnum];rfl
 have nxt:∀{g5:Heap} (b:Bool),EX h g5→b= !oksC (cs.take (i+1))→p13z55 Tryz.prog K v (I (bI b)) (I i) L g5:=by
  intro g5 b x5 hb
  rw [q13z55]
  simp only [bin_add,OP_some,inc i (by omega),true_and]
  have:=hL (i+1,g5) ⟨by show i+1≤_;omega,x5,hform'⟩ (by show cs.length-(i+1)<cs.length-i;omega)
  rw [hb]
  exact this
 have ml:(cs[i].1.map ratT).length=cs[i].1.length:=List.length_map ..
 rw [q13z22]
 simp only [u1,OP_some,fadr_pt,Nat.add_zero,u4,u3.len]
 refine C46 ?_
 simp only [un_not,OP_some]
 have e1:decide ((1:Int)≤(cs[i].1.length:Int))=decide (1≤cs[i].1.length):=by rw [decide_eq_decide];omega
 have e8:decide ((cs[i].1.length:Int)≤8)=decide (cs[i].1.length≤8):=by rw [decide_eq_decide];omega
 rw [e1,e8,q13z26]
 have out:∀x51:Value,iPick (B (!(decide (1≤cs[i].1.length)&&decide (cs[i].1.length≤8)))) (.bool true) x51=some (B true)→chOk (cs[i].1.map ratT) cs[i].2=false→p13z28 Tryz.prog K v (I (bI (!oksC (cs.take i)))) (I i) (pt is 0) (B (!(decide (1≤cs[i].1.length)&&decide (cs[i].1.length≤8)))) x51 L g3:=by
  intro x51 hp hno
  rw [q13z28,hp]
  simp only [OP_some,IfP_true]
  exact nxt true xg3 (by rw [oksC_take hil,hno,Bool.and_false];rfl)
 cases hc:(decide (1≤cs[i].1.length)&&decide (cs[i].1.length≤8)) with
 | false=>
  rw [hc] at out
  simp only [Bool.not_false,GdP_tf]
  exact out _ rfl (by unfold chOk;rw [ml,hc];rfl)
 | true=>
  rw [hc] at out
  simp only [Bool.not_true,GdP_ff,u1,OP_some,fadr_pt,u5]
  refine C46 ?_
  simp only [un_not,OP_some]
  cases hw:(decide (0≤cs[i].2)&&decide (cs[i].2≤50)) with
  | false=>
   exact out _ rfl (by unfold chOk;rw [ml,hc,hw];rfl)
  | true=>
   rw [q13z28]
   simp only [Bool.not_true,iPick_f,OP_some,IfP_false]
   rw [Bool.and_eq_true,decide_eq_true_eq,decide_eq_true_eq] at hc
   refine C13_items hv hil ⟨hc.2,fun s hs'=>⟨l2 s hs',List.all_eq_true.1 hnum s hs'⟩⟩ xg3 hs (c2.mono x3) ?_
   intro b g5 x5 hb
   refine nxt b x5 ?_
   rw [hb,items_ok (by rw [ml];exact hc.1),oksC_take hil]
   unfold chOk
   rw [ml,decide_eq_true hc.1,decide_eq_true hc.2,hw]
   cases oksC (cs.take i) <;> simp

end
end Go.Proofs.YtelmdbpaoifmoaaGreat


namespace Go.Proofs.YtelmdbpaoifmoaaGreat
open Go.Sim

def cutT (ls:List (List UInt8)):List (List UInt8):=(ls.take 9).map fun s=>s.take 20
def cutC (cs:List (List (List UInt8)×Int)):List (List (List UInt8)×Int):=(cs.take 4).map fun c=>(cutT c.1,c.2)

def isSV:Value→Bool
 | .string _=>true
 | _=>false

def TS (h:Heap) (v:Value) (ls:List (List UInt8)):Prop:=(v=.slice none 0 0∧ls=[])∨∃e i,v=sl e i 0 ls.length∧(ls=[]∨objCells h i=some (ls.map S))

theorem TS.ss {h:Heap} {v:Value} {ls:List (List UInt8)} (p:TS h v ls):SS h v ls:=by
 rcases p with ⟨rfl,rfl⟩ | ⟨e,i,rfl,rfl | hc⟩
 ·exact ⟨rfl,fun k hk=>by simp at hk⟩
 ·exact ⟨rfl,fun k hk=>by simp at hk⟩
 ·exact SS.sl hc
theorem TS.keep {h h':Heap} {v:Value} {ls:List (List UInt8)} (x:KP isSV h h') (p:TS h v ls):TS h' v ls:=by
 rcases p with p | ⟨e,i,rfl,hc⟩
 ·exact .inl p
 ·refine .inr ⟨e,i,rfl,?_⟩
  rcases hc with hc | hc
  ·exact .inl hc
  ·cases ls with
   | nil=>exact .inl rfl
   | cons s t=>right;exact x i _ _ hc rfl
theorem TS.one {h:Heap} {v:Value} {ls:List (List UInt8)} (p:TS h v ls):noTuple v=true∧vcells v=[v]∧isCell v=true:=by
 rcases p with ⟨rfl,_⟩ | ⟨e,i,rfl,_⟩ <;> exact ⟨rfl,rfl,rfl⟩

def OwnC (b:Nat) (h:Heap) (v:Value) (cs:List (List (List UInt8)×Int)):Prop:=
 ∃rows,OwnR b h 24 2 v rows∧rows.length=cs.length∧∀(k:Nat) (row:List Value) (c:List (List UInt8)×Int),rows[k]?=some row→cs[k]?=some c→∃vs,row=[vs,I c.2]∧TS h vs c.1

theorem OwnC.start (b:Nat) (h:Heap):OwnC b h (.slice none 0 0) []:=⟨[],OwnR.start ..,rfl,fun k r q h=>by simp at h⟩
theorem OwnC.chl {b:Nat} {h:Heap} {v:Value} {cs:List (List (List UInt8)×Int)} (o:OwnC b h v cs):CHL h v cs:=
 let ⟨rows,a,c,d⟩:=o;⟨rows,a.rs,c,fun k row q h1 h2=>let ⟨vs,e,m⟩:=d k row q h1 h2;⟨vs,e,m.ss⟩⟩
theorem OwnC.ex {b:Nat} {h h':Heap} {v:Value} {cs:List (List (List UInt8)×Int)} (x:EX h h') (o:OwnC b h v cs):OwnC b h' v cs:=
 let ⟨rows,a,c,d⟩:=o;⟨rows,a.ex x,c,fun k row q h1 h2=>let ⟨vq,e,m⟩:=d k row q h1 h2;⟨vq,e,m.keep (KP.ex x)⟩⟩

theorem OwnC.app {h0 h:Heap} {v vs:Value} {ls:List (List UInt8)} {w:Int} {cs:List (List (List UInt8)×Int)} {zs:List Value} {K:Value→Heap→Prop} (o:OwnC h0.length h v cs) (hex:EX h0 h) (hq:TS h vs ls) (hz:zs.length=2) (hl:cs.length≤10000)
  (hk:∀v' h',EX h0 h'→OwnC h0.length h' v' (cs++[(ls,w)])→K v' h'):OH (iMkSl 24 1 zs h [(0,2,.agg #[vs,I w])]) fun y h2=>OH (iApp 24 2 32 h2 v y) K:=by
 obtain ⟨rows,o1,o2,o4⟩:=o
 obtain ⟨t1,t2,_⟩:=hq.one
 refine o1.app hex hz (row:=[vs,I w]) rfl (by simp [vcells,Value.cells]) rfl (by omega) (by simp [maxLen];omega) ?_
 intro v' h' x' hold o'
 have fl:∀c r,rows.flatten=c::r→isSV c=false:=by
  intro c r e
  cases rows with
  | nil=>simp at e
  | cons row rows=>
   cases cs with
   | nil=>simp at o2
   | cons c0 cs=>
    obtain ⟨vs0,e0,m0⟩:=o4 0 row c0 rfl rfl
    subst e0
    simp only [List.flatten_cons,List.cons_append,List.cons.injEq] at e
    rw [←e.1]
    rcases m0 with ⟨rfl,_⟩ | ⟨_,_,rfl,_⟩ <;> rfl
 have kp:KP isSV h h':=o1.kp fl hold
 refine hk v' h' x' ⟨_,o',by simp [o2],fun k row q h1 h2=>?_⟩
 by_cases hk:k<rows.length
 ·rw [List.getElem?_append_left hk] at h1
  rw [List.getElem?_append_left (by omega)] at h2
  obtain ⟨vq',e,m⟩:=o4 k row q h1 h2
  exact ⟨vq',e,m.keep kp⟩
 ·rw [List.getElem?_append_right (by omega)] at h1
  rw [List.getElem?_append_right (by omega),←o2] at h2
  have h0:k-rows.length=0:=by
   have:=(List.getElem?_eq_some_iff.1 h1).1
   simp at this;omega
  rw [h0] at h1 h2
  simp only [List.getElem?_cons_zero,Option.some.injEq] at h1 h2
  subst h1 h2
  exact ⟨vs,rfl,hq.keep kp⟩

theorem own_ts {b:Nat} {h:Heap} {v:Value} {ls:List (List UInt8)} (o:OwnS b h 27 v (ls.map S)):TS h v ls:=by
 rcases o with ⟨rfl,e⟩ | ⟨i,_,rfl,hg⟩
 ·exact .inl ⟨rfl,by simpa using e⟩
 ·exact .inr ⟨27,i,by rw [List.length_map],.inr (by simp [objCells,hg])⟩

section
variable {h : Heap} {K : Value → Heap → Prop}

theorem C11 {v:Value} {cs:List (List (List UInt8)×Int)} (hv:CHL h v cs) (hk:∀v' h',EX h h'→CHL h' v' (cutC cs)→K v' h'):CallP Tryz.prog 11 [v] h K:=by
 refine f11 ?_
 have e0:iMkSl 24 0 [(.slice none 0 0),(.int .i64 (0))] h []=some (sl 24 h.length 0 0,h++[.arr 24 []]):=rfl
 simp only [T11,e0,OH_some]
 have x0:EX h (h++[.arr 24 []]):=EX.append _ _
 have own0:OwnC h.length (h++[IObj.arr 24 []]) (sl 24 h.length 0 0) []:=⟨[],⟨fun r hr=>by simp at hr,.inr ⟨h.length,Nat.le_refl _,rfl,by simp⟩⟩,rfl,fun k r q h=>by simp at h⟩
 generalize sl 24 h.length 0 0=v0 at own0⊢
 generalize h++[IObj.arr 24 []]=h1 at x0 own0⊢
 refine loopL (σ:=Nat×Value×Heap) (fun q=>[q.2.1,I q.1]) (fun q=>q.2.2) (fun q=>q.1≤cs.length∧q.1≤4∧EX h q.2.2∧OwnC h.length q.2.2 q.2.1 ((cs.take q.1).map fun c=>(cutT c.1,c.2))) (fun q=>cs.length-q.1)
  (0,v0,h1) rfl rfl ⟨Nat.zero_le _,Nat.zero_le _,x0,own0⟩ ?_
 rintro ⟨i,vo,g⟩ ⟨hi,hi4,xg,own⟩ L hL
 simp only at hi hi4 xg own hL⊢
 rw [q11z6]
 have hlen:=(hv.mono xg).len
 simp only [hlen,OP_some,bin_lss]
 rw [q11z10]
 by_cases hlt:i<cs.length∧i<4
 rotate_left
 ·have out:∀a b:Value,iPick a b (.bool false)=some (B false)→p11z12 Tryz.prog K v vo (I i) a b L g:=by
   intro a b hp
   rw [q11z12,hp]
   simp only [OP_some,IfP_false]
   rw [q11z30]
   refine hk vo g xg ?_
   have:cutC cs=(cs.take i).map fun c=>(cutT c.1,c.2):=by
    unfold cutC
    by_cases h4:i<4
    ·rw [List.take_of_length_le (by omega),List.take_of_length_le (by omega)]
    ·rw [show i=4 by omega]
   rw [this]
   exact own.chl
  by_cases h1:i<cs.length
  ·rw [decide_eq_true (show (i:Int)<(cs.length:Int) by omega)]
   simp only [GdP_tt,bin_leq,OP_some]
   rw [decide_eq_false (show ¬(i:Int)≤3 by omega)]
   exact out _ _ rfl
  ·rw [decide_eq_false (show ¬(i:Int)<(cs.length:Int) by omega)]
   simp only [GdP_ft]
   exact out _ _ rfl
 obtain ⟨hil,hi3⟩:=hlt
 rw [decide_eq_true (show (i:Int)<(cs.length:Int) by omega)]
 simp only [GdP_tt,bin_leq,OP_some]
 rw [decide_eq_true (show (i:Int)≤3 by omega),q11z12]
 obtain ⟨b,o,vs,u1,u2,u3⟩:=(hv.mono xg).get hil
 obtain ⟨u4,u5⟩:=load2_parts u2
 have e23:iBuild [(.slice none 0 0),(.int .i64 (0))] [(1,1,I cs[i].2)]=some (.agg #[.slice none 0 0,I cs[i].2]):=rfl
 have ea:iAlloc 24 [(.slice none 0 0),(.int .i64 (0))] g=some (pt g.length 0,g++[.arr 24 [.slice none 0 0,I 0]]):=rfl
 simp only [iPick_t,OP_some,IfP_true,u1,fadr_pt,u5,e23,ea,OH_some]
 have j1:(g++[IObj.arr 24 [.slice none 0 0,I 0]])[g.length]?=some (.arr 24 [.slice none 0 0,I 0]):=get_last
 have y1:EX g (g++[IObj.arr 24 [.slice none 0 0,I 0]]):=EX.append _ _
 generalize g++[IObj.arr 24 [.slice none 0 0,I 0]]=g1 at j1 y1⊢
 rw [store2 j1]
 simp only [OH_some]
 have y2:EX g (g1.set g.length (.arr 24 [.slice none 0 0,I cs[i].2])):=y1.set (Nat.le_refl _) _
 have j2:(g1.set g.length (.arr 24 [.slice none 0 0,I cs[i].2]))[g.length]?=some (.arr 24 [.slice none 0 0,I cs[i].2]):=set_get j1
 generalize g1.set g.length (.arr 24 [.slice none 0 0,I cs[i].2])=g2 at y2 j2⊢
 -- the texts
 refine loopL (σ:=Nat×Value×Heap) (fun q=>[I q.1]) (fun q=>q.2.2) (fun q=>q.1≤cs[i].1.length∧q.1≤9∧EX g q.2.2∧q.2.2[g.length]?=some (.arr 24 [q.2.1,I cs[i].2])∧OwnS (g.length+1) q.2.2 27 q.2.1 (((cs[i].1.take q.1).map fun s=>s.take 20).map S)) (fun q=>cs[i].1.length-q.1)
  (0,.slice none 0 0,g2) rfl rfl ⟨Nat.zero_le _,Nat.zero_le _,y2,j2,.inl ⟨rfl,by simp⟩⟩ ?_
 rintro ⟨k,vl,g3⟩ ⟨hkl,hk9,x3,j3,ol⟩ L' hL'
 simp only at hkl hk9 x3 j3 ol hL'⊢
 rw [q11z19]
 have xg3:=xg.trans x3
 obtain ⟨b,o,vs,u1,u2,u3⟩:=(hv.mono xg3).get hil
 obtain ⟨u4,u5⟩:=load2_parts u2
 simp only [u1,OP_some,fadr_pt,Nat.add_zero,u4,u3.len,bin_lss]
 rw [q11z23]
 by_cases hlt:k<cs[i].1.length∧k<9
 rotate_left
 ·have out:∀a b:Value,iPick a b (.bool false)=some (B false)→p11z25 Tryz.prog K v vo (I i) (pt g.length 0) (I k) a b L L' g3:=by
   intro a b hp
   rw [q11z25,hp]
   simp only [OP_some,IfP_false]
   rw [q11z28,load2 j3,OP_some]
   have el:(cs[i].1.take k).map (fun s=>s.take 20)=cutT cs[i].1:=by
    unfold cutT
    by_cases h4:k<9
    ·rw [List.take_of_length_le (by omega),List.take_of_length_le (by omega)]
    ·rw [show k=9 by omega]
   rw [el] at ol
   refine (own.ex x3).app xg3 (own_ts ol) rfl (by rw [List.length_map,List.length_take];omega) ?_
   intro v' g4 x4 own'
   rw [q11z29]
   simp only [bin_add,OP_some,inc i (by omega),true_and]
   refine hL (i+1,v',g4) ⟨by show i+1≤_;omega,by show i+1≤4;omega,x4,?_⟩ (by show cs.length-(i+1)<cs.length-i;omega)
   rw [List.take_succ_eq_append_getElem hil,List.map_append]
   exact own'
  by_cases h1:k<cs[i].1.length
  ·rw [decide_eq_true (show (k:Int)<(cs[i].1.length:Int) by omega)]
   simp only [GdP_tt,bin_leq,OP_some]
   rw [decide_eq_false (show ¬(k:Int)≤8 by omega)]
   exact out _ _ rfl
  ·rw [decide_eq_false (show ¬(k:Int)<(cs[i].1.length:Int) by omega)]
   simp only [GdP_ft]
   exact out _ _ rfl
 obtain ⟨hkk,hk8⟩:=hlt
 rw [decide_eq_true (show (k:Int)<(cs[i].1.length:Int) by omega)]
 simp only [GdP_tt,bin_leq,OP_some]
 rw [decide_eq_true (show (k:Int)≤8 by omega),q11z25]
 obtain ⟨b',o',r1,r2⟩:=u3.get k hkk
 have lc:iLoad false 1 g3 (pt g.length 0)=some vl:=by simp [iLoad,objCells,j3,iPart]
 have mm:min ((cs[i].1[k].length:Int)) 20=((min cs[i].1[k].length 20:Nat):Int):=by omega
 have e58:iSlS (S cs[i].1[k]) none (some (I ((min cs[i].1[k].length 20:Nat):Int)))=some (S (cs[i].1[k].take 20)):=by
  have e:=slS_hi (a:=cs[i].1[k]) (n:=min cs[i].1[k].length 20) (Nat.min_le_left _ _) .i64
  rw [e]
  congr 2
  by_cases h20:cs[i].1[k].length≤20
  ·rw [List.take_of_length_le h20,List.take_of_length_le (by omega)]
  ·rw [Nat.min_eq_right (by omega)]
 simp only [iPick_t,OP_some,IfP_true,fadr_pt,Nat.add_zero,lc,u1,u4,r1,r2,lenS_S,min2,mm,e58,true_and]
 have hx1:=List.getElem?_eq_some_iff.1 j3
 have e59:iMkSl 27 1 [(.string ⟨#[]⟩)] g3 [(0,1,S (cs[i].1[k].take 20))]=some (sl 27 g3.length 0 1,g3++[.arr 27 [S (cs[i].1[k].take 20)]]):=rfl
 have ld4:iLoad false 1 (g3++[.arr 27 [S (cs[i].1[k].take 20)]]) (pt g.length 0)=some vl:=EX.load (EX.append _ _) lc
 have key:=app1p (z:=.string ⟨#[]⟩) (bytes:=16) (x:=S (cs[i].1[k].take 20)) (K:=fun x60 h_2=>OP (iFadr 0 (pt g.length 0)) fun x61=>
  OH (oStore 1 h_2 x61 x60) fun _ h_3=>
  OP (iBin .add (I k) (.int .i64 (1))) fun x37=>L' [x37] h_3) ol (by rw [List.length_map,List.length_map,List.length_take];omega) (by rw [List.length_map,List.length_map,List.length_take];simp [maxLen];omega) rfl rfl ?_
 ·rw [e59] at key⊢
  simp only [OH_some] at key⊢
  refine ⟨⟨ld4,trivial⟩,?_⟩
  simpa only [fadr_pt,Nat.add_zero,OP_some,true_and] using key
 ·intro h1 g4 _ hl4 hold hnew
  simp only [OH_some,fadr_pt,Nat.add_zero,OP_some]
  have hgl:g.length<g3.length:=hx1.1
  have j4:g4[g.length]?=some (.arr 24 [vl,I cs[i].2]):=by
   rw [hold _ hgl ?_]
   ·exact j3
   ·intro n hn
    have:=(ol.lt hn).1
    omega
  rw [show pt g.length 0=pt g.length 0 from rfl,store_at j4 (by simp) rfl rfl]
  simp only [OH_some,bin_add,OP_some,inc k (by omega)]
  have hsl:(cs[i].1.take (k+1)).map (fun s=>s.take 20)=(cs[i].1.take k).map (fun s=>s.take 20)++[cs[i].1[k].take 20]:=by
   rw [List.take_succ_eq_append_getElem hkk,List.map_append];rfl
  have x4:EX g g4:=by
   refine ⟨by omega,fun d hd=>?_⟩
   rw [hold d (by omega) ?_]
   ·exact x3.2 d hd
   ·intro n hn
    have:=(ol.lt hn).1
    omega
  refine hL' (k+1,sl 27 (g3.length+1) 0 ((((cs[i].1.take k).map fun s=>s.take 20).map S).length+1),_) ⟨by show k+1≤_;omega,by show k+1≤9;omega,?_,?_,?_⟩ (by show cs[i].1.length-(k+1)<cs[i].1.length-k;omega)
  ·exact x4.set (Nat.le_refl _) _
  ·exact set_get j4
  ·right
   refine ⟨g3.length+1,by omega,?_,?_⟩
   ·simp only [hsl,List.map_append,List.length_append,List.length_map,List.length_cons,List.length_nil]
   ·show (g4.set _ _)[g3.length+1]?=_
    rw [List.getElem?_set_ne (by omega),hnew,hsl,List.map_append]
    rfl

end
end Go.Proofs.YtelmdbpaoifmoaaGreat


namespace Go.Proofs.YtelmdbpaoifmoaaGreat
open Go.Sim

section
variable {h : Heap} {K : Value → Heap → Prop}

theorem ob107 {g:Heap} {i:Nat} (hi:g[i]?=some (.arr 107 z4)):iObj g (pt i 0)=some (.agg #[.int .i64 107,.bool false,.slice none 0 0,.bool false,.slice none 0 0]):=by
 simp [iObj,idOf,hi,encObj,noId]

theorem z4_store {g:Heap} {i:Nat} {v:Value} {q:Rat} (hg:g[i]?=some (.arr 107 z4)) (hv:RV g v q):∃g',oStore 4 g (pt i 0) v=some (undef,g')∧Stored g g' i q:=cell_store (s:=false) (b:=.slice none 0 0) (c:=.bool false) (d:=.slice none 0 0) hg hv
theorem Cell.store {g:Heap} {i:Nat} {v:Value} {p q:Rat} (c:Cell g i p) (hv:RV g v q):∃g',oStore 4 g (pt i 0) v=some (undef,g')∧Stored g g' i q:=by
 obtain ⟨a,b,e,d,k,_⟩:=c
 exact cell_store (s:=a) k hv

structure InvI (h g:Heap) (ij ix ib id iw:Nat) (qs:List Rat) (w:Int) (vq:Value) (s:StI):Prop where
 ex:EX h g
 job:g[ij]?=some (.arr 102 [I qs.length,I w,vq])
 out:g[ix]?=some (.arr 107 z4)
 best:Cell g ib s.best
 done:Cell g id s.done
 worked:Cell g iw s.worked

theorem InvI.mono {h g g':Heap} {ij ix ib id iw:Nat} {qs:List Rat} {w:Int} {vq:Value} {s:StI} (x:EX g g') (p:InvI h g ij ix ib id iw qs w vq s):InvI h g' ij ix ib id iw qs w vq s:=
 ⟨p.ex.trans x,x.get p.job,x.get p.out,p.best.mono x,p.done.mono x,p.worked.mono x⟩

theorem C44_loop {ij ix ib id iw:Nat} {qs:List Rat} {w:Int} {vq:Value} {age:Nat} {g0:Heap} (hq:QL h vq qs) (hok:chOk qs w=true) (hage:age<qs.length)
  (b1:h.length≤ix∧h.length≤ib∧h.length≤id∧h.length≤iw) (d1:ij≠ib∧ij≠id∧ij≠iw) (d2:ix≠ib∧ix≠id∧ix≠iw) (d3:ib≠id∧ib≠iw∧id≠iw)
  (hi:InvI h g0 ij ix ib id iw qs w vq (stI qs w age 0))
  (hk:∀r h',EX h h'→RV h' r (stI qs w age (qs.length-age)).best→K (.tuple #[r,I ((stI qs w age (qs.length-age)).most:Nat)]) h'):
  LoopP [(.int .i64 (0)),(.int .i64 (1))] g0 fun L1 xs hx=>p44z7 Tryz.prog K (I age) (pt ij 0) (pt ix 0) (pt ib 0) (pt id 0) (pt iw 0) L1 xs hx:=by
 obtain ⟨⟨_,l8⟩,⟨w0,w50⟩,hb,_⟩:=chOk_facts hok
 have s4:=fits_sz hb
 refine loopL (σ:=Nat×Heap) (fun q=>[I ((stI qs w age q.1).most:Nat),I (q.1+1:Nat)]) (fun q=>q.2) (fun q=>age+q.1≤qs.length∧InvI h q.2 ij ix ib id iw qs w vq (stI qs w age q.1)) (fun q=>qs.length-q.1) (0,g0) rfl rfl ⟨by show age+0≤_;omega,hi⟩ ?_
 clear hi
 rintro ⟨d,g⟩ ⟨hd,inv⟩ L hL
 simp only at hd inv hL⊢
 rw [q44z7]
 have lj0:iLoad false 1 g (pt ij 0)=some (I qs.length):=by simp [iLoad,objCells,inv.job,iPart]
 have ws:iBin .sub (I qs.length) (I age)=some (I (qs.length-age:Nat)):=by rw [bin_sub,wrap64 (by omega) (by omega)];congr 2;omega
 simp only [fadr_pt,Nat.add_zero,OP_some,lj0,ws,bin_leq,IfP_dec]
 refine ⟨fun hle=>?_,fun hgt=>?_⟩
 rotate_left
 ·have hde:d=qs.length-age:=by omega
  subst hde
  rw [q44z21]
  obtain ⟨v,l1,l2⟩:=inv.best.load
  obtain ⟨g',e1,st⟩:=z4_store inv.out l2
  simp only [l1,OP_some,e1,OH_some]
  obtain ⟨v',m1,m2⟩:=st.cell.load
  simp only [m1,OP_some]
  exact hk v' g' (st.ex inv.ex b1.1) m2
 have hdl:age+d<qs.length:=by omega
 have hd1:age+(d+1)≤qs.length:=by omega
 obtain ⟨sz1,sz2⟩:=stI_sz (age:=age) (d:=d) hok hd
 obtain ⟨sz3,sz4⟩:=stI_sz (age:=age) (d:=d+1) hok hd1
 obtain ⟨ed,ew⟩:=stI_done qs w age d
 have hwp:=(worked_pos (age:=age) (d:=d+1) hok hd1).2 (by omega)
 rw [num_pos] at hwp
 obtain ⟨vd,l1,l2⟩:=inv.done.load
 have lj2:∀{g':Heap},g'[ij]?=some (.arr 102 [I qs.length,I w,vq])→iLoad false 1 g' (pt ij 2)=some vq:=fun k=>by simp [iLoad,objCells,k,iPart]
 have lj1:∀{g':Heap},g'[ij]?=some (.arr 102 [I qs.length,I w,vq])→iLoad false 1 g' (pt ij 1)=some (I w):=fun k=>by simp [iLoad,objCells,k,iPart]
 have lja:∀{g':Heap},g'[ij]?=some (.arr 102 [I qs.length,I w,vq])→iLoad true 3 g' (pt ij 0)=some (.agg #[I qs.length,I w,vq]):=fun k=>by simp [iLoad,objCells,k,iPart]
 have w1:iBin .add (I age) (I (d+1:Nat))=some (I (age+(d+1):Nat)):=by rw [bin_add,wrap64 (by omega) (by omega)];congr 2
 have w2:iBin .sub (I (age+(d+1):Nat)) (.int .i64 1)=some (I (age+d:Nat)):=by rw [bin_sub,wrap64 (by omega) (by omega)];congr 2;omega
 obtain ⟨bi,oi,r,u1,u2,u3⟩:=(hq.mono inv.ex).get hdl
 simp only [l1,OP_some,true_and,lj2 inv.job,w1,w2,u1,u2]
 refine C87 l2 u3 sz1 (s4 _ (List.getElem_mem hdl)) (by omega) ?_
 intro r1 g1 x1 hr1
 have eg:qs[age+d]=qs.getD (age+d) 0:=by rw [List.getD_eq_getElem?_getD,List.getElem?_eq_getElem hdl];rfl
 rw [eg,←ed] at hr1
 have inv1:=inv.mono x1
 -- what is done
 obtain ⟨g2,e2,st2⟩:=inv1.done.store hr1
 simp only [e2,OH_some,true_and]
 have wk2:=st2.keep (Ne.symm d3.2.2) inv1.worked
 have bs2:=st2.keep d3.1 inv1.best
 have jb2:g2[ij]?=some (.arr 102 [I qs.length,I w,vq]):=by rw [st2.old _ d1.2.1];exact inv1.job
 have ou2:g2[ix]?=some (.arr 107 z4):=by rw [st2.old _ d2.2.1];exact inv1.out
 have xh2:=st2.ex inv1.ex b1.2.2.1
 obtain ⟨vw,m1,m2⟩:=wk2.load
 simp only [m1,OP_some,true_and,lja jb2]
 refine C85 (age:=age+d) (hq.mono xh2) (by omega) s4 (by omega) ?_
 intro r3 g3 x3 hr3
 have m3:iLoad true 4 g3 (pt iw 0)=some vw:=by
  obtain ⟨a,b,c,e,k,_⟩:=wk2
  rw [load4 k] at m1
  rw [load4 (x3.get k)];exact m1
 simp only [m3,true_and]
 have hsz:=sumR_sz (qs:=qs.drop (age+d)) (fun q hq=>s4 q (List.mem_of_mem_drop hq)) _ (Nat.le_refl _)
 rw [List.take_length,List.length_drop] at hsz
 refine C87 (m2.mono x3) hr3 sz2 hsz (by omega) ?_
 intro r4 g4 x4 hr4
 rw [←ew] at hr4
 have x24:=x3.trans x4
 obtain ⟨g5,e5,st5⟩:=(wk2.mono x24).store hr4
 simp only [e5,OH_some,true_and]
 have dn5:=st5.keep d3.2.2 (st2.cell.mono x24)
 have bs5:=st5.keep d3.2.1 (bs2.mono x24)
 have jb5:g5[ij]?=some (.arr 102 [I qs.length,I w,vq]):=by rw [st5.old _ d1.2.2];exact x24.get jb2
 have ou5:g5[ix]?=some (.arr 107 z4):=by rw [st5.old _ d2.2.2];exact x24.get ou2
 have xh5:=st5.ex (xh2.trans x24) b1.2.2.2
 have wk5:=st5.cell
 -- one more try
 have e7:iAlloc 107 [(.bool false),(.slice none 0 0),(.bool false),(.slice none 0 0)] g5=some (pt g5.length 0,g5++[.arr 107 z4]):=rfl
 simp only [e7,OH_some]
 have y1:EX g5 (g5++[.arr 107 z4]):=EX.append _ _
 have j1:(g5++[IObj.arr 107 z4])[g5.length]?=some (.arr 107 z4):=get_last
 generalize g5++[IObj.arr 107 z4]=g6 at y1 j1⊢
 simp only [ob107 j1,OP_some,true_and,lj1 (y1.get jb5),lj1 jb5]
 refine C75r (by omega) (by omega) ?_
 intro r7 g7 x7 hr7
 have x57:=y1.trans x7
 obtain ⟨vd7,n1,n2⟩:=(dn5.mono x57).load
 have same:∀{i:Nat} {q:Rat} {ga gb:Heap} {v:Value},Cell ga i q→EX ga gb→iLoad true 4 gb (pt i 0)=some v→iLoad true 4 ga (pt i 0)=some v:=by
  intro i q ga gb v c x l
  obtain ⟨a,b,c,e,k,_⟩:=c
  rw [load4 (x.get k)] at l
  rw [load4 k];exact l
 simp only [ob107 (x7.get j1),true_and,n1,OP_some,same dn5 x57 n1,same (dn5.mono y1) x7 n1]
 refine C88 hr7 n2 (w_sz w0 w50) sz3 (by omega) ?_
 intro r8 g8 x8 hr8
 have x58:=x57.trans x8
 obtain ⟨vw8,o1,o2⟩:=(wk5.mono x58).load
 simp only [ob107 ((x7.trans x8).get j1),true_and,o1,OP_some,same wk5 x58 o1,same (wk5.mono y1) (x7.trans x8) o1,same (wk5.mono x57) x8 o1]
 refine C77r hr8 o2 hwp ((w_sz w0 w50).mul sz3) sz4 (by omega) ?_
 intro r9 g9 x9 hr9
 have ht:RV g9 r9 (tryI qs w age d):=hr9
 have htz:=tryI_sz (age:=age) (d:=d) hok hd1
 have hbz:=stI_best (age:=age) (d:=d) hok hd
 have x69:=x7.trans (x8.trans x9)
 obtain ⟨g10,e10,st10⟩:=z4_store (x69.get j1) ht
 have hnew:∀{i:Nat},i<g5.length→i≠g5.length:=fun hlt he=>by omega
 have x59:=y1.trans x69
 have ib5:=bs5.lt
 have id5:=dn5.lt
 have iw5:=wk5.lt
 have ij5:ij<g5.length:=(List.getElem?_eq_some_iff.1 jb5).1
 have ix5:ix<g5.length:=(List.getElem?_eq_some_iff.1 ou5).1
 have bsA:=st10.keep (hnew ib5) (bs5.mono x59)
 have dnA:=st10.keep (hnew id5) (dn5.mono x59)
 have wkA:=st10.keep (hnew iw5) (wk5.mono x59)
 have jbA:g10[ij]?=some (.arr 102 [I qs.length,I w,vq]):=by rw [st10.old _ (hnew ij5)];exact x59.get jb5
 have ouA:g10[ix]?=some (.arr 107 z4):=by rw [st10.old _ (hnew ix5)];exact x59.get ou5
 have xhA:=st10.ex (xh5.trans x59) (by have:=xh5.1;omega)
 simp only [ob107 (x69.get j1),true_and,e10,OH_some,bin_eql,OP_some]
 have next:∀(best:Rat) (most:Nat) {g':Heap},InvI h g' ij ix ib id iw qs w vq ⟨best,most,(stI qs w age (d+1)).done,(stI qs w age (d+1)).worked⟩→stI qs w age (d+1)=⟨best,most,(stI qs w age (d+1)).done,(stI qs w age (d+1)).worked⟩→p44z20 Tryz.prog K (I age) (pt ij 0) (pt ix 0) (pt ib 0) (I most) (pt id 0) (pt iw 0) (I (d+1:Nat)) L g':=by
  intro best most g' iv es
  rw [q44z20]
  have wi:IntKind.wrap .i64 (((d+1:Nat):Int)+1)=((d+1+1:Nat):Int):=by rw [wrap64 (by omega) (by omega)];omega
  simp only [bin_add,wi,OP_some,true_and]
  have:=hL (d+1,g') ⟨hd1,by show InvI h g' ij ix ib id iw qs w vq (stI qs w age (d+1));rw [es];exact iv⟩ (by show qs.length-(d+1)<qs.length-d;omega)
  have em:(stI qs w age (d+1)).most=most:=by rw [es]
  simp only [em] at this
  exact this
 -- it is better
 have better:((stI qs w age d).most=0∨(stI qs w age d).best<tryI qs w age d)→∀(t u:Value) {g':Heap},EX g10 g'→iPick t (.bool true) u=some (B true)→p44z19 Tryz.prog K (I age) (pt ij 0) (pt ix 0) (pt ib 0) (I ((stI qs w age d).most:Nat)) (pt id 0) (pt iw 0) (I (d+1:Nat)) (pt g5.length 0) t u L g':=by
  intro hbt t u g' x' ht2
  rw [q44z19,ht2]
  obtain ⟨vt,p1,p2⟩:=(st10.cell.mono x').load
  obtain ⟨g11,e11,st11⟩:=(bsA.mono x').store p2
  simp only [OP_some,IfP_true,p1,e11,OH_some]
  refine next (tryI qs w age d) (d+1) ⟨st11.ex (xhA.trans x') b1.2.1,by rw [st11.old _ d1.1];exact x'.get jbA,by rw [st11.old _ d2.1];exact x'.get ouA,st11.cell,st11.keep d3.1.symm (dnA.mono x'),st11.keep d3.2.1.symm (wkA.mono x')⟩ ?_
  unfold tryI at hbt⊢
  rw [ed,ew] at hbt⊢
  simp only [stI]
  rw [if_pos hbt]
 have worse:¬((stI qs w age d).most=0∨(stI qs w age d).best<tryI qs w age d)→∀(t u:Value) {g':Heap},EX g10 g'→iPick t (.bool true) u=some (B false)→p44z19 Tryz.prog K (I age) (pt ij 0) (pt ix 0) (pt ib 0) (I ((stI qs w age d).most:Nat)) (pt id 0) (pt iw 0) (I (d+1:Nat)) (pt g5.length 0) t u L g':=by
  intro hbt t u g' x' ht2
  rw [q44z19,ht2]
  simp only [OP_some,IfP_false]
  refine next (stI qs w age d).best (stI qs w age d).most ⟨xhA.trans x',x'.get jbA,x'.get ouA,bsA.mono x',dnA.mono x',wkA.mono x'⟩ ?_
  unfold tryI at hbt
  rw [ed,ew] at hbt⊢
  simp only [stI]
  rw [if_neg hbt]
 rw [q44z17]
 by_cases hm:(stI qs w age d).most=0
 ·rw [decide_eq_true (show ((stI qs w age d).most:Int)=0 by omega)]
  simp only [GdP_tf]
  exact better (.inl hm) _ _ (EX.refl g10) rfl
 ·rw [decide_eq_false (show ¬((stI qs w age d).most:Int)=0 by omega)]
  obtain ⟨vt,p1,p2⟩:=st10.cell.load
  obtain ⟨vb,p3,p4⟩:=bsA.load
  simp only [GdP_ff,p1,p3,OP_some]
  refine C86 p2 p4 htz hbz (by decide) ?_
  intro g11 x11
  have hc:decide ((0:Int)<cmpR (tryI qs w age d) (stI qs w age d).best)=decide ((stI qs w age d).best<tryI qs w age d):=by
   rw [decide_eq_decide]
   unfold cmpR
   generalize tryI qs w age d=a
   generalize (stI qs w age d).best=b
   by_cases e:a=b
   ·subst e
    rw [if_pos rfl]
    exact ⟨fun h=>absurd h (by decide),fun h=>absurd h Rat.lt_irrefl⟩
   ·rw [if_neg e]
    by_cases e2:a<b
    ·rw [if_pos e2]
     exact ⟨fun h=>absurd h (by decide),fun h=>by grind⟩
    ·rw [if_neg e2]
     exact ⟨fun _=>by grind,fun _=>by decide⟩
  simp only [bin_gtr,OP_some,hc]
  by_cases hbt:(stI qs w age d).best<tryI qs w age d
  ·rw [decide_eq_true hbt]
   exact better (.inr hbt) _ _ x11 rfl
  ·rw [decide_eq_false hbt]
   exact worse (fun h=>h.elim hm hbt) _ _ x11 rfl

end
end Go.Proofs.YtelmdbpaoifmoaaGreat


namespace Go.Proofs.YtelmdbpaoifmoaaGreat
open Go.Sim

section
variable {h : Heap} {K : Value → Heap → Prop}

theorem C44 {qs:List Rat} {w:Int} {vq:Value} {age:Nat} (hq:QL h vq qs) (hok:chOk qs w=true) (hage:age<qs.length)
  (hk:∀r h',EX h h'→RV h' r (stI qs w age (qs.length-age)).best→K (.tuple #[r,I ((stI qs w age (qs.length-age)).most:Nat)]) h'):CallP Tryz.prog 44 [.agg #[I qs.length,I w,vq],I age] h K:=by
 obtain ⟨rq,rs,_,_⟩:=id hq
 refine f44 ?_
 have e1:iBox 102 h (.agg #[I qs.length,I w,vq])=some (pt h.length 0,h++[.arr 102 [I qs.length,I w,vq]]):=by
  rcases rs.2 with ⟨e,_⟩ | ⟨i,o,e,_⟩ <;> rw [e] <;> rfl
 have e7:∀(g:Heap),iAlloc 107 [(.bool false),(.slice none 0 0),(.bool false),(.slice none 0 0)] g=some (pt g.length 0,g++[.arr 107 z4]):=fun _=>rfl
 simp only [T44,e1,e7,OH_some]
 have x0:EX h (h++[.arr 102 [I qs.length,I w,vq]]):=EX.append _ _
 have k0:(h++[IObj.arr 102 [I qs.length,I w,vq]])[h.length]?=some (.arr 102 [I qs.length,I w,vq]):=get_last
 generalize h++[IObj.arr 102 [I qs.length,I w,vq]]=g0 at x0 k0⊢
 have x1:EX g0 (g0++[.arr 107 z4]):=EX.append _ _
 have k1:(g0++[IObj.arr 107 z4])[g0.length]?=some (.arr 107 z4):=get_last
 generalize g0++[IObj.arr 107 z4]=g1 at x1 k1⊢
 have m0:h.length<g0.length:=(List.getElem?_eq_some_iff.1 k0).1
 have m1:g0.length<g1.length:=(List.getElem?_eq_some_iff.1 k1).1
 refine C75r (n:=0) (by decide) (by decide) ?_
 intro r2 g2 x2 hr2
 have hr2:RV g2 r2 0:=hr2
 have x3:EX g2 (g2++[.arr 107 z4]):=EX.append _ _
 have k3:(g2++[IObj.arr 107 z4])[g2.length]?=some (.arr 107 z4):=get_last
 generalize g2++[IObj.arr 107 z4]=g3 at x3 k3⊢
 have m2:=x2.1
 have m3:g2.length<g3.length:=(List.getElem?_eq_some_iff.1 k3).1
 obtain ⟨g4,e4,st4⟩:=z4_store k3 (hr2.mono x3)
 simp only [e4,OH_some]
 have x24:EX g2 g4:=st4.ex x3 (Nat.le_refl _)
 refine C75r (n:=0) (by decide) (by decide) ?_
 intro r5 g5 x5 hr5
 have hr5:RV g5 r5 0:=hr5
 refine C75r (n:=0) (by decide) (by decide) ?_
 intro r6 g6 x6 hr6
 have hr6:RV g6 r6 0:=hr6
 have x7:EX g6 (g6++[.arr 107 z4]):=EX.append _ _
 have k7:(g6++[IObj.arr 107 z4])[g6.length]?=some (.arr 107 z4):=get_last
 generalize g6++[IObj.arr 107 z4]=g7 at x7 k7⊢
 have x8:EX g7 (g7++[.arr 107 z4]):=EX.append _ _
 have k8:(g7++[IObj.arr 107 z4])[g7.length]?=some (.arr 107 z4):=get_last
 generalize g7++[IObj.arr 107 z4]=g8 at x8 k8⊢
 have m4:=st4.len
 have m5:=x5.1
 have m6:=x6.1
 have m7:g6.length<g7.length:=(List.getElem?_eq_some_iff.1 k7).1
 have x68:=x7.trans x8
 obtain ⟨g9,e9,st9⟩:=z4_store (x8.get k7) (((hr5.mono x6).mono x68))
 simp only [e9,OH_some]
 have k9:g9[g7.length]?=some (.arr 107 z4):=by rw [st9.old _ (by omega)];exact k8
 obtain ⟨g10,e10,st10⟩:=z4_store k9 (st9.val (hr6.mono x68))
 simp only [e10,OH_some]
 have x69:EX g6 g9:=st9.ex x68 (Nat.le_refl _)
 have x610:EX g6 g10:=st10.ex x69 (by omega)
 have x410:=(x5.trans x6).trans x610
 have x02:=x0.trans (x1.trans x2)
 have xA:=x02.trans (x24.trans x410)
 have jb:=((x1.trans x2).trans (x24.trans x410)).get k0
 have ou:=(x2.trans (x24.trans x410)).get k1
 exact C44_loop (g0:=g10) (ij:=h.length) (ix:=g0.length) (ib:=g2.length) (id:=g6.length) (iw:=g7.length) hq hok hage ⟨by omega,by omega,by omega,by omega⟩ ⟨by omega,by omega,by omega⟩ ⟨by omega,by omega,by omega⟩ ⟨by omega,by omega,by omega⟩
  ⟨xA,jb,ou,st4.cell.mono x410,st10.keep (by omega) st9.cell,st10.cell⟩ hk

end
end Go.Proofs.YtelmdbpaoifmoaaGreat


namespace Go.Proofs.YtelmdbpaoifmoaaGreat
open Go.Sim

def errI (ls:List (List UInt8)) (w age:Int):Int:=if ls.all isNum=false then 2 else if argC [(ls,w)]=false∨age<0∨(ls.length:Int)≤age then 1 else 0

section
variable {h : Heap} {K : Value → Heap → Prop}

theorem C12 {vs:Value} {ls:List (List UInt8)} {w age:Int} (hv:SS h vs ls) (hl:ls.length≤1000∧∀s∈ls,s.length≤700)
  (hk0:errI ls w age≠0→∀h',EX h h'→K (.tuple #[S [],I 0,I (errI ls w age)]) h')
  (hk:errI ls w age=0→∀h',EX h h'→K (.tuple #[S (ratS (stI (ls.map ratT) w age.toNat (ls.length-age.toNat)).best.num ((stI (ls.map ratT) w age.toNat (ls.length-age.toNat)).best.den:Int)),I ((stI (ls.map ratT) w age.toNat (ls.length-age.toNat)).most:Nat),I 0]) h'):
  CallP Tryz.prog 12 [.agg #[vs,I w],I age] h K:=by
 refine f12 ?_
 have e1:iBox 24 h (.agg #[vs,I w])=some (pt h.length 0,h++[.arr 24 [vs,I w]]):=rfl
 have eS:(.string ⟨#[]⟩:Value)=S []:=rfl
 simp only [T12,e1,OH_some,eS]
 have x0:EX h (h++[.arr 24 [vs,I w]]):=EX.append _ _
 have k0:(h++[IObj.arr 24 [vs,I w]])[h.length]?=some (.arr 24 [vs,I w]):=get_last
 generalize h++[IObj.arr 24 [vs,I w]]=g0 at x0 k0⊢
 have mk:iMkSl 24 1 [(.slice none 0 0),(.int .i64 (0))] g0 [(0,2,.agg #[vs,I w])]=some (sl 24 g0.length 0 1,g0++[.arr 24 [vs,I w]]):=rfl
 rw [load2 k0]
 simp only [OP_some,mk,OH_some]
 have x1:EX g0 (g0++[.arr 24 [vs,I w]]):=EX.append _ _
 have k1:(g0++[IObj.arr 24 [vs,I w]])[g0.length]?=some (.arr 24 [vs,I w]):=get_last
 generalize g0++[IObj.arr 24 [vs,I w]]=g1 at x1 k1⊢
 have x01:=x0.trans x1
 have hch:CHL g1 (sl 24 g0.length 0 1) [(ls,w)]:=by
  refine ⟨[[vs,I w]],RS.arr (rows:=[[vs,I w]]) (fun r hr=>by rw [List.mem_singleton.1 hr];rfl) k1,rfl,fun k row c h1 h2=>?_⟩
  cases k with
  | zero=>
   simp only [List.getElem?_cons_zero,Option.some.injEq] at h1 h2
   subst h1 h2
   exact ⟨vs,rfl,hv.mono x01⟩
  | succ k=>simp at h1
 have hform:formC [(ls,w)]=ls.all isNum:=by simp [formC]
 have fail:∀(c:Int) {g:Heap},EX h g→c≠0→c=errI ls w age→(OP (iBin .neq (I c) (.int .i64 (0))) fun x20=>IfP x20 (K (.tuple #[S [],(.int .i64 (0)),I c]) g) (OP (iBin .lss (I age) (.int .i64 (0))) fun x24=>p12z9 Tryz.prog K (I age) (.slice none 0 0) x24 g)):=by
  intro c g x hc he
  simp only [bin_neq,OP_some,decide_eq_false hc,Bool.not_false,IfP_true]
  subst he
  exact hk0 hc g x
 refine C43 hch (fun c hc=>by rw [List.mem_singleton.1 hc];exact hl) (by simp) (fun hf g2 x2=>?_) (fun hf ha g2 x2=>?_) (fun hf ha v' g2 x2 lk=>?_)
 ·simp only [ext_tuple,pair0,pair1,OP_some]
  rw [hform] at hf
  exact fail 2 (x01.trans x2) (by decide) (by unfold errI;rw [if_pos hf])
 ·simp only [ext_tuple,pair0,pair1,OP_some]
  rw [hform] at hf
  exact fail 1 (x01.trans x2) (by decide) (by unfold errI;rw [if_neg (by rw [hf];decide),if_pos (.inl ha)])
 have xg:=x01.trans x2
 rw [hform] at hf
 have e00:iBin .neq (I 0) (.int .i64 0)=some (B false):=rfl
 simp only [ext_tuple,pair0,pair1,OP_some,e00,IfP_false,bin_lss]
 have hjob:jobsOf [(ls,w)]=[(ls.map ratT,w)]:=rfl
 rw [hjob] at lk
 obtain ⟨bi,oi,vq,u1,u2,u3⟩:=lk.get (k:=0) (by simp)
 simp only [List.getElem_cons_zero,Int.natCast_zero,Int.ofNat_zero] at u1 u2 u3
 have hok:chOk (ls.map ratT) w=true:=by
  unfold argC at ha
  rw [hjob,Bool.and_eq_true] at ha
  simpa using ha.2
 have bad:(age<0∨(ls.length:Int)≤age)→∀t u:Value,iPick t (.bool true) u=some (B true)→p12z11 Tryz.prog K (I age) v' t u g2:=by
  intro hb t u ht
  have he:errI ls w age=1:=by unfold errI;rw [if_neg (by rw [hf];decide),if_pos (.inr hb)]
  rw [q12z11,ht]
  simp only [OP_some,IfP_true,eS]
  have:=hk0 (by rw [he];decide) g2 xg
  rw [he] at this
  exact this
 rw [q12z9]
 by_cases h0:age<0
 ·rw [decide_eq_true h0]
  simp only [GdP_tf]
  exact bad (.inl h0) _ _ rfl
 rw [decide_eq_false h0]
 have lq:iLoad false 1 g2 (pt bi oi)=some (I (ls.map ratT).length):=by
  simp only [iLoad] at u2⊢
  cases hc:objCells g2 bi with
  | none=>rw [hc] at u2;cases u2
  | some xs=>
   rw [hc] at u2
   simp only [Option.bind_some,iPart,if_true,Bool.false_eq_true,if_false] at u2⊢
   split at u2
   ·injection u2 with u2
    injection u2 with u2
    have u3:=congrArg Array.toList u2
    simp only [List.toList_toArray] at u3
    have u4:=congrArg (fun l=>l[0]?) u3
    simp only [List.getElem?_take,List.getElem?_drop] at u4
    simpa using u4
   ·cases u2
 simp only [GdP_ff,u1,OP_some,fadr_pt,Nat.add_zero,lq,bin_geq,List.length_map]
 by_cases h1:(ls.length:Int)≤age
 ·rw [decide_eq_true h1]
  exact bad (.inr h1) _ _ rfl
 rw [decide_eq_false h1]
 have he:errI ls w age=0:=by
  unfold errI
  rw [if_neg (by rw [hf];decide),if_neg]
  rintro (h | h | h)
  ·rw [ha] at h;cases h
  ·exact h0 h
  ·exact h1 h
 have hk:=hk he
 obtain ⟨a,rfl⟩:∃a:Nat,age=(a:Int):=⟨age.toNat,by omega⟩
 rw [Int.toNat_natCast] at hk
 rw [q12z11]
 simp only [iPick_f,OP_some,IfP_false,u1,u2]
 have hage:a<(ls.map ratT).length:=by rw [List.length_map];omega
 refine C44 u3.1 hok hage ?_
 intro r g3 x3 hr
 rw [List.length_map] at hr⊢
 have hbz:=stI_best (qs:=ls.map ratT) (w:=w) (age:=a) (d:=ls.length-a) hok (by rw [List.length_map];omega)
 generalize stI (ls.map ratT) w a (ls.length-a)=st at*
 have e7:iAlloc 107 [(.bool false),(.slice none 0 0),(.bool false),(.slice none 0 0)] g3=some (pt g3.length 0,g3++[.arr 107 z4]):=rfl
 simp only [ext_tuple,pair0,pair1,OP_some,e7,OH_some]
 have y1:EX g3 (g3++[.arr 107 z4]):=EX.append _ _
 have j1:(g3++[IObj.arr 107 z4])[g3.length]?=some (.arr 107 z4):=get_last
 generalize g3++[IObj.arr 107 z4]=g4 at y1 j1⊢
 obtain ⟨g5,e5,st5⟩:=z4_store j1 (hr.mono y1)
 simp only [e5,OH_some]
 obtain ⟨v5,l5,r5⟩:=st5.cell.load
 simp only [l5,OP_some]
 obtain ⟨b1,b2⟩:=hbz.big (by decide)
 have dp:=st.best.den_pos
 refine C45q r5 (by omega) b1 (by rw [Int.natAbs_natCast];exact b2) ?_
 intro g6 x6
 simp only [ext_tuple,pair0,pair1,OP_some,e00,IfP_false]
 exact hk g6 (xg.trans (x3.trans ((st5.ex y1 (Nat.le_refl _)).trans x6)))

end
end Go.Proofs.YtelmdbpaoifmoaaGreat


namespace Go.Proofs.YtelmdbpaoifmoaaGreat
open Go.Sim

theorem foldl_add (l:List Rat):∀a:Rat,l.foldl (·+·) a=a+sumR l:=by
 induction l with
 | nil=>intro a;simp [sumR,Rat.add_zero]
 | cons x l ih=>
  intro a
  unfold sumR
  simp only [List.foldl_cons]
  rw [ih (a+x),ih (0+x),Rat.zero_add,Rat.add_assoc]
theorem sumR_cons (x:Rat) (l:List Rat):sumR (x::l)=x+sumR l:=by
 unfold sumR
 rw [List.foldl_cons,Rat.zero_add,foldl_add]
 rfl
theorem sumR_drop {qs:List Rat} {k:Nat} (hk:k<qs.length):sumR (qs.drop k)=qs.getD k 0+sumR (qs.drop (k+1)):=by
 rw [List.drop_eq_getElem_cons hk,sumR_cons,List.getD_eq_getElem?_getD,List.getElem?_eq_getElem hk,Option.getD_some]

theorem done_eq (qs:List Rat) (w:Int) (age:Nat):∀d:Nat,age+d≤qs.length→(stI qs w age d).done=sumR (qs.drop age)-sumR (qs.drop (age+d))
 | 0,_=>by simp only [Nat.add_zero,stI];grind
 | d+1,hd=>by
  rw [(stI_done qs w age d).1,done_eq qs w age d (by omega),sumR_drop (k:=age+d) (by omega)]
  have:age+(d+1)=age+d+1:=by omega
  rw [this]
  generalize sumR (qs.drop age)=a
  generalize sumR (qs.drop (age+d+1))=b
  generalize qs.getD (age+d) 0=c
  grind

theorem getD_nonneg {qs:List Rat} (h:∀q∈qs,0≤q) (k:Nat):0≤qs.getD k 0:=by
 rw [List.getD_eq_getElem?_getD]
 cases e:qs[k]? with
 | none=>exact Rat.le_refl
 | some q=>exact h q (List.mem_of_getElem? e)

theorem done_nonneg {qs:List Rat} {w:Int} (h:∀q∈qs,0≤q) {age:Nat}:∀d:Nat,0≤(stI qs w age d).done
 | 0=>Rat.le_refl
 | d+1=>by
  rw [(stI_done qs w age d).1]
  exact Rat.add_nonneg (done_nonneg h d) (getD_nonneg h _)

theorem div_nonneg' {a b:Rat} (ha:0≤a) (hb:0<b):0≤a / b:=by
 rw [Rat.div_def]
 exact Rat.mul_nonneg ha (Rat.le_of_lt (Rat.inv_pos.2 hb))

theorem try_nonneg {qs:List Rat} {w:Int} (h:chOk qs w=true) {age d:Nat} (hd:age+(d+1)≤qs.length):0≤tryI qs w age d:=by
 obtain ⟨_,⟨w0,_⟩,_,_,nn,_⟩:=chOk_facts h
 refine div_nonneg' (Rat.mul_nonneg ?_ (done_nonneg nn _)) ((worked_pos h hd).2 (by omega))
 exact_mod_cast w0

theorem stI_most (qs:List Rat) (w:Int) (age:Nat):∀d,(stI qs w age d).most≤d∧(0<d→0<(stI qs w age d).most)
 | 0=>⟨Nat.le_refl _,fun h=>absurd h (by decide)⟩
 | d+1=>by
  obtain ⟨i1,i2⟩:=stI_most qs w age d
  simp only [stI]
  split
  ·simp
  ·rename_i hc
   have:(stI qs w age d).most≠0:=fun e=>hc (.inl e)
   refine ⟨by simp;omega,fun _=>by simp;omega⟩

def bestR (qs:List Rat) (w:Int) (age d:Nat):Rat:=if d=0 then ((-1:Int):Rat) else (stI qs w age d).best

theorem stI_succ (qs:List Rat) (w:Int) (age d:Nat):stI qs w age (d+1)=if (stI qs w age d).most=0∨(stI qs w age d).best<tryI qs w age d then ⟨tryI qs w age d,d+1,(stI qs w age (d+1)).done,(stI qs w age (d+1)).worked⟩ else ⟨(stI qs w age d).best,(stI qs w age d).most,(stI qs w age (d+1)).done,(stI qs w age (d+1)).worked⟩:=by
 unfold tryI
 rw [(stI_done qs w age d).1,(stI_done qs w age d).2]
 rfl

theorem cmp_pos {p q:Rat}:0<cmpR p q↔q<p:=by
 unfold cmpR
 by_cases h:p=q
 ·rw [if_pos h,h];constructor
  ·intro h;omega
  ·intro h;exact absurd h (by grind)
 ·rw [if_neg h]
  by_cases h2:p<q
  ·rw [if_pos h2];constructor
   ·intro h;omega
   ·intro h3;exact absurd h3 (by grind)
  ·rw [if_neg h2];constructor
   ·intro _;grind
   ·intro _;decide

theorem best_step {qs:List Rat} {w:Int} (h:chOk qs w=true) {age d:Nat} (hd:age+(d+1)≤qs.length):
  (0<cmpR (tryI qs w age d) (bestR qs w age d)→bestR qs w age (d+1)=tryI qs w age d∧(stI qs w age (d+1)).most=d+1)∧
  (¬0<cmpR (tryI qs w age d) (bestR qs w age d)→bestR qs w age (d+1)=bestR qs w age d∧(stI qs w age (d+1)).most=(stI qs w age d).most):=by
 have ht:=try_nonneg h hd
 have e:bestR qs w age (d+1)=(stI qs w age (d+1)).best:=rfl
 rw [e,stI_succ,cmp_pos]
 unfold bestR
 by_cases d0:d=0
 ·subst d0
  rw [if_pos rfl]
  have hm:(stI qs w age 0).most=0:=rfl
  have h1:((-1:Int):Rat)<tryI qs w age 0:=by
   have:((-1:Int):Rat)<0:=by decide
   grind
  refine ⟨fun _=>?_,fun hc=>absurd h1 hc⟩
  rw [if_pos (.inl hm)]
  exact ⟨rfl,rfl⟩
 ·have hm:=(stI_most qs w age d).2 (by omega)
  rw [if_neg d0]
  refine ⟨fun hc=>?_,fun hc=>?_⟩
  ·rw [if_pos (.inr hc)];exact ⟨rfl,rfl⟩
  ·rw [if_neg (by rintro (h | h);omega;exact hc h)];exact ⟨rfl,rfl⟩

theorem bestR_sz {qs:List Rat} {w:Int} (h:chOk qs w=true) {age d:Nat} (hd:age+d≤qs.length):szQ 380 (bestR qs w age d):=by
 unfold bestR
 split
 ·have:szQ 1 ((-1:Int):Rat):=by constructor <;> decide
  exact this.le (by decide)
 ·exact stI_best h hd

theorem drop_sz {qs:List Rat} {w:Int} (h:chOk qs w=true) (k:Nat):szQ 41 (sumR (qs.drop k)):=by
 obtain ⟨⟨_,l8⟩,_,hb,_⟩:=chOk_facts h
 have s4:=fits_sz hb
 have hs:=sumR_sz (qs:=qs.drop k) (fun q hq=>s4 q (List.mem_of_mem_drop hq)) _ (Nat.le_refl _)
 rw [List.take_length,List.length_drop] at hs
 exact hs.le (by omega)

end Go.Proofs.YtelmdbpaoifmoaaGreat


namespace Go.Proofs.YtelmdbpaoifmoaaGreat
open Go.Sim

theorem ob37 {g:Heap} {i:Nat} (hi:g[i]?=some (.arr 37 z4)):iObj g (pt i 0)=some (.agg #[.int .i64 37,.bool false,.slice none 0 0,.bool false,.slice none 0 0]):=by
 simp [iObj,idOf,hi,encObj,noId]

section
variable {h : Heap} {K : Value → Heap → Prop}

theorem C15 {vs:Value} {ls:List (List UInt8)} {w:Int} {age:Nat} (hv:SS h vs ls) (hl:∀s∈ls,s.length≤700∧isNum s=true) (hok:chOk (ls.map ratT) w=true) (ha:age<ls.length)
  (hk:∀r h',EX h h'→QV h' r (stI (ls.map ratT) w age (ls.length-age)).best→K (.tuple #[r,I (stI (ls.map ratT) w age (ls.length-age)).most]) h'):CallP Tryz.prog 15 [.agg #[vs,I w],I age] h K:=by
 obtain ⟨⟨_,l8⟩,⟨w0,w50⟩,hb,_⟩:=chOk_facts hok
 rw [List.length_map] at l8
 have hs:∀s∈ls,szQ 4 (ratT s):=fun s h1=>fits_sz hb _ (List.mem_map_of_mem h1)
 have ml:(ls.map ratT).length=ls.length:=List.length_map ..
 refine f15 ?_
 have e1:iBox 24 h (.agg #[vs,I w])=some (pt h.length 0,h++[.arr 24 [vs,I w]]):=rfl
 have e2:∀g:Heap,iAlloc 37 [(.bool false),(.slice none 0 0),(.bool false),(.slice none 0 0)] g=some (pt g.length 0,g++[.arr 37 z4]):=fun _=>rfl
 simp only [T15,e1,e2,OH_some,List.length_append,List.length_cons,List.length_nil,Nat.zero_add]
 have k0:(h++[IObj.arr 24 [vs,I w]]++[IObj.arr 37 z4])[h.length]?=some (.arr 24 [vs,I w]):=by simp
 have k1:(h++[IObj.arr 24 [vs,I w]]++[IObj.arr 37 z4])[h.length+1]?=some (.arr 37 z4):=by simp
 have x1:EX h (h++[IObj.arr 24 [vs,I w]]++[IObj.arr 37 z4]):=(EX.append _ _).push _
 have l1:(h++[IObj.arr 24 [vs,I w]]++[IObj.arr 37 z4]).length=h.length+2:=by simp
 generalize h++[IObj.arr 24 [vs,I w]]++[IObj.arr 37 z4]=h1 at k0 k1 x1 l1⊢
 refine C20u (by decide) ?_
 intro r2 h2 x2 q2
 refine celQ_new q2 ?_
 intro h3 x3 c3 l3
 refine C20u (by decide) ?_
 intro r4 h4 x4 q4
 refine celQ_new q4 ?_
 intro h5 x5 c5 l5
 have x15:=x2.trans (x3.trans (x4.trans x5))
 have m2:h1.length≤h2.length:=x2.1
 have m4:h2.length<h4.length:=by have:=x4.1;omega
 generalize h2.length=b6 at*
 generalize h4.length=b8 at*
 refine loopL (σ:=Nat×Heap) (fun q=>[I (stI (ls.map ratT) w age q.1).most,I ((q.1:Int)+1)]) (fun q=>q.2) (fun q=>age+q.1≤ls.length∧EX h1 q.2∧CelQ q.2 b6 (bestR (ls.map ratT) w age q.1)∧CelQ q.2 b8 (stI (ls.map ratT) w age q.1).worked) (fun q=>ls.length-q.1) (0,h5) rfl rfl
  ⟨by omega,x15,(c3.mono (x4.trans x5)),c5⟩ ?_
 rintro ⟨d,g⟩ ⟨hi,xg,hb6,hb8⟩ L hL
 simp only at hi xg hb6 hb8 hL⊢
 rw [q15z7]
 have ld0:∀{g':Heap},EX g g'→iLoad false 1 g' (pt h.length 0)=some vs:=fun x=>by simp [iLoad,objCells,(xg.trans x).get k0,iPart]
 have ld1:∀{g':Heap},EX g g'→iLoad false 1 g' (pt h.length 1)=some (I w):=fun x=>by simp [iLoad,objCells,(xg.trans x).get k0,iPart]
 have ldc:∀{g':Heap},EX g g'→iLoad true 2 g' (pt h.length 0)=some (.agg #[vs,I w]):=fun x=>load2 ((xg.trans x).get k0)
 have hv1:=hv.mono (x1.trans xg)
 have esub:IntKind.wrap .i64 ((ls.length:Int)-(age:Int))=((ls.length-age:Nat):Int):=by
  rw [wrap64 (by omega) (by omega)];omega
 simp only [fadr_pt,Nat.add_zero,Nat.zero_add,ld0 (EX.refl g),OP_some,hv1.len,bin_sub,esub,bin_leq,IfP_dec,true_and]
 refine ⟨fun hle=>?_,fun hgt=>?_⟩
 rotate_left
 ·have hde:d=ls.length-age:=by omega
  subst hde
  rw [q15z16]
  obtain ⟨v,l1',l2'⟩:=hb6.load
  obtain ⟨g',e1',st⟩:=celQ_store (xg.get k1) l2'
  simp only [l1',OP_some,e1',OH_some]
  obtain ⟨v',n1,n2⟩:=st.cell.load
  simp only [n1,OP_some]
  have:bestR (ls.map ratT) w age (ls.length-age)=(stI (ls.map ratT) w age (ls.length-age)).best:=by unfold bestR;rw [if_neg (by omega)]
  rw [this] at n2
  exact hk v' g' (st.ex (x1.trans xg) (by omega)) n2
 have hdl:age+d<ls.length:=by omega
 have hd1:age+(d+1)≤(ls.map ratT).length:=by rw [ml];omega
 obtain ⟨sz1,sz2⟩:=stI_sz (age:=age) (d:=d) hok (by rw [ml];omega)
 obtain ⟨sz3,sz4⟩:=stI_sz (age:=age) (d:=d+1) hok hd1
 have szb:=bestR_sz (age:=age) (d:=d) hok (by rw [ml];omega)
 have szt:=tryI_sz hok hd1
 have a1:IntKind.wrap .i64 ((age:Int)+((d:Int)+1))=((age+(d+1):Nat):Int):=by rw [wrap64 (by omega) (by omega)];omega
 have a2:IntKind.wrap .i64 (((age+(d+1):Nat):Int)-1)=((age+d:Nat):Int):=by rw [wrap64 (by omega) (by omega)];omega
 obtain ⟨vu,lu,qu⟩:=hb8.load
 simp only [lu,OP_some,ldc (EX.refl g),bin_add,a1,bin_sub,a2]
 refine C50 hv1 (by omega) hl hs (by omega) ?_
 intro r6 g6 x6 q6
 refine ⟨⟨EX.load x6 lu,trivial⟩,?_⟩
 refine C26u ((qu.mono x6).un sz2) (q6.un (drop_sz hok _)) (by omega) ?_
 intro r7 g7 x7 q7
 refine C25u q7 (by omega) ?_
 intro r8 g8 x8 q8
 have ew:(stI (ls.map ratT) w age d).worked+sumR ((ls.map ratT).drop (age+d))=(stI (ls.map ratT) w age (d+1)).worked:=(stI_done _ _ _ _).2.symm
 rw [ew] at q8
 have x68:=x6.trans (x7.trans x8)
 obtain ⟨g9,e9,s9⟩:=(hb8.mono x68).store q8
 have lb8:h1.length≤b8:=by omega
 have x9:EX h1 g9:=s9.ex (xg.trans x68) lb8
 have c6:CelQ g9 b6 _:=s9.keep (by omega) (hb6.mono x68)
 have c8:=s9.cell
 have hv9:=hv.mono (x1.trans x9)
 have k9:=x9.get k0
 have k91:=x9.get k1
 simp only [e9,OH_some,e2]
 have y1:EX g9 (g9++[IObj.arr 37 z4]):=EX.append _ _
 have j1:(g9++[IObj.arr 37 z4])[g9.length]?=some (.arr 37 z4):=get_last
 generalize g9++[IObj.arr 37 z4]=ga at y1 j1⊢
 have lw:∀{g':Heap},EX g9 g'→iLoad false 1 g' (pt h.length 1)=some (I w):=fun x=>by simp [iLoad,objCells,x.get k9,iPart]
 have lc:∀{g':Heap},EX g9 g'→iLoad true 2 g' (pt h.length 0)=some (.agg #[vs,I w]):=fun x=>load2 (x.get k9)
 obtain ⟨vn,ln,qn⟩:=c8.load
 simp only [ob37 j1,OP_some,lw y1,lw (EX.refl g9),true_and]
 refine C20u (by omega) ?_
 intro r10 h10 x10 q10
 have y10:=y1.trans x10
 refine ⟨⟨ob37 (x10.get j1),trivial⟩,?_⟩
 simp only [lc y10,lc (EX.refl g9),lc y1,OP_some,true_and]
 refine C50 (hv9.mono y10) (by omega) hl hs (by omega) ?_
 intro r11 h11 x11 q11
 have y11:=y10.trans x11
 refine ⟨⟨ob37 ((x10.trans x11).get j1),trivial⟩,?_⟩
 simp only [lc y11,lc y10,lc (EX.refl g9),lc y1,OP_some,true_and,a1]
 refine C50 (hv9.mono y11) (by omega) hl hs (by omega) ?_
 intro r12 h12 x12 q12
 have y12:=y11.trans x12
 refine ⟨⟨ob37 ((x10.trans (x11.trans x12)).get j1),trivial⟩,?_⟩
 refine C52u ((q11.mono x12).un (drop_sz hok _)) (q12.un (drop_sz hok _)) (by omega) ?_
 intro r13 h13 x13 q13
 have y13:=y12.trans x13
 refine ⟨⟨ob37 ((x10.trans (x11.trans (x12.trans x13))).get j1),trivial⟩,?_⟩
 refine C27u ((q10.mono (x11.trans (x12.trans x13))).un (w_sz w0 w50)) q13 (by omega) ?_
 intro r14 h14 x14 q14
 have y14:=y13.trans x14
 have lnn:∀{g':Heap},EX g9 g'→iLoad true 4 g' (pt b8 0)=some vn:=fun x=>EX.load x ln
 refine ⟨⟨ob37 ((x10.trans (x11.trans (x12.trans (x13.trans x14)))).get j1),trivial⟩,?_⟩
 simp only [lnn y14,lnn (EX.refl g9),lnn y1,lnn y10,lnn y11,lnn y12,lnn y13,OP_some,true_and]
 have wp:=(worked_pos (age:=age) (d:=d+1) hok hd1).2 (by omega)
 refine C51u q14 ((qn.mono y14).un sz4) wp (by omega) ?_
 intro r15 h15 x15 q15
 have y15:=y14.trans x15
 refine ⟨⟨ob37 ((x10.trans (x11.trans (x12.trans (x13.trans (x14.trans x15))))).get j1),trivial⟩,?_⟩
 refine C25u q15 (by omega) ?_
 intro r16 h16 x16 q16
 have j16:=(x10.trans (x11.trans (x12.trans (x13.trans (x14.trans (x15.trans x16)))))).get j1
 have y16:=y15.trans x16
 refine ⟨⟨ob37 j16,trivial⟩,?_⟩
 have et:(w:Rat)*(sumR ((ls.map ratT).drop age)-sumR ((ls.map ratT).drop (age+(d+1)))) / (stI (ls.map ratT) w age (d+1)).worked=tryI (ls.map ratT) w age d:=by
  unfold tryI
  rw [done_eq _ _ _ _ hd1]
 rw [et] at q16
 obtain ⟨h17,e17,s17⟩:=celQ_store j16 q16
 have g9l:g9.length≤ga.length:=y1.1
 have c6':=c6.mono y16
 have y17:EX g9 h17:=s17.ex y16 (Nat.le_refl _)
 have n6:b6≠g9.length:=by have:=c6.lt;omega
 have n8:b8≠g9.length:=by have:=c8.lt;omega
 obtain ⟨v18,l18,q18⟩:=s17.cell.load
 obtain ⟨v19,l19,q19⟩:=(s17.keep n6 c6').load
 simp only [e17,OH_some,l18,l19,OP_some]
 refine C29u (q18.un szt) (q19.un szb) (by omega) ?_
 intro h20 x20
 obtain ⟨b1,b2⟩:=best_step hok hd1
 have y20:=y17.trans x20
 have stop:∀{g':Heap} (m:Nat),EX h1 g'→CelQ g' b6 (bestR (ls.map ratT) w age (d+1))→CelQ g' b8 (stI (ls.map ratT) w age (d+1)).worked→(stI (ls.map ratT) w age (d+1)).most=m→
   p15z15 Tryz.prog K (I age) (pt h.length 0) (pt (h.length+1) 0) (pt b6 0) (I m) (pt b8 0) (.int .i64 ((d:Int)+1)) L g':=by
  intro g' m hx h6 h8 hm
  rw [q15z15]
  have e:IntKind.wrap .i64 ((d:Int)+1+1)=((d+1:Nat):Int)+1:=by rw [wrap64 (by omega) (by omega)];omega
  simp only [bin_add,OP_some,e,true_and]
  have:=hL (d+1,g') ⟨by show age+(d+1)≤_;omega,hx,h6,h8⟩ (by show ls.length-(d+1)<ls.length-d;omega)
  simp only [hm] at this
  exact this
 simp only [bin_gtr,OP_some,IfP_dec]
 refine ⟨fun hc=>?_,fun hc=>?_⟩
 ·obtain ⟨f1,f2⟩:=b1 hc
  simp only [EX.load x20 l18,OP_some]
  obtain ⟨h21,e21,s21⟩:=((s17.keep n6 c6').mono x20).store (q18.mono x20)
  simp only [e21,OH_some]
  have:=stop (d+1) (s21.ex (x9.trans y20) m2) (by rw [f1];exact s21.cell) (s21.keep (by omega) (c8.mono y20)) f2
  simpa using this
 ·obtain ⟨f1,f2⟩:=b2 hc
  exact stop _ (x9.trans y20) (by rw [f1];exact c6.mono y20) (c8.mono y20) f2

end
end Go.Proofs.YtelmdbpaoifmoaaGreat


namespace Go.Proofs.YtelmdbpaoifmoaaGreat
open Go.Sim

theorem cutT_len (ls:List (List UInt8)):(cutT ls).length≤9:=by unfold cutT;rw [List.length_map,List.length_take];omega
theorem cutT_letters (ls:List (List UInt8)):∀s∈cutT ls,s.length≤20:=by
 intro s hs
 obtain ⟨t,_,rfl⟩:=List.mem_map.1 hs
 rw [List.length_take];omega

theorem errI_of {ls:List (List UInt8)} {w age:Int} (h:errC [(ls,w)]≠0):errI ls w age=errC [(ls,w)]:=by
 have e:formC [(ls,w)]=ls.all isNum:=by simp [formC]
 unfold errC at h⊢
 unfold errI
 rw [e] at h⊢
 by_cases h1:ls.all isNum=false
 ·rw [if_pos h1,if_pos h1]
 ·rw [if_neg h1,if_neg h1]
  rw [if_neg h1] at h
  by_cases h2:argC [(ls,w)]=false
  ·rw [if_pos h2,if_pos (.inl h2)]
  ·rw [if_neg h2] at h;exact absurd rfl h
theorem errI_zero {ls:List (List UInt8)} {w age:Int} (h:errC [(ls,w)]=0):ls.all isNum=true∧argC [(ls,w)]=true∧errI ls w age=if age<0∨(ls.length:Int)≤age then 1 else 0:=by
 have e:formC [(ls,w)]=ls.all isNum:=by simp [formC]
 unfold errC at h
 unfold errI
 rw [e] at h
 cases h1:ls.all isNum with
 | false=>rw [h1,if_pos rfl] at h;exact absurd h (by decide)
 | true=>
  rw [h1,if_neg (by decide)] at h
  cases h2:argC [(ls,w)] with
  | false=>rw [h2,if_pos rfl] at h;exact absurd h (by decide)
  | true=>
   refine ⟨rfl,rfl,?_⟩
   rw [if_neg (by decide)]
   simp

section
variable {h : Heap} {K : Value → Heap → Prop}

theorem C3 {vs:Value} {ls:List (List UInt8)} {w age:Int} (hv:SS h vs ls) (hk:∀h',K (.bool true) h'):CallP Tryz.prog 3 [.agg #[vs,I w],I age] h K:=by
 refine f3 ?_
 have e1:iBox 24 h (.agg #[vs,I w])=some (pt h.length 0,h++[.arr 24 [vs,I w]]):=rfl
 simp only [T3,e1,OH_some]
 have x0:EX h (h++[.arr 24 [vs,I w]]):=EX.append _ _
 have k0:(h++[IObj.arr 24 [vs,I w]])[h.length]?=some (.arr 24 [vs,I w]):=get_last
 generalize h++[IObj.arr 24 [vs,I w]]=g0 at x0 k0⊢
 have mk:iMkSl 24 1 [(.slice none 0 0),(.int .i64 (0))] g0 [(0,2,.agg #[vs,I w])]=some (sl 24 g0.length 0 1,g0++[.arr 24 [vs,I w]]):=rfl
 rw [load2 k0]
 simp only [OP_some,mk,OH_some]
 have x1:EX g0 (g0++[.arr 24 [vs,I w]]):=EX.append _ _
 have k1:(g0++[IObj.arr 24 [vs,I w]])[g0.length]?=some (.arr 24 [vs,I w]):=get_last
 generalize g0++[IObj.arr 24 [vs,I w]]=g1 at x1 k1⊢
 have x01:=x0.trans x1
 have hch:CHL g1 (sl 24 g0.length 0 1) [(ls,w)]:=by
  refine ⟨[[vs,I w]],RS.arr (rows:=[[vs,I w]]) (fun r hr=>by rw [List.mem_singleton.1 hr];rfl) k1,rfl,fun k row c h1 h2=>?_⟩
  cases k with
  | zero=>
   simp only [List.getElem?_cons_zero,Option.some.injEq] at h1 h2
   subst h1 h2
   exact ⟨vs,rfl,hv.mono x01⟩
  | succ k=>simp at h1
 refine C11 hch ?_
 intro v2 g2 x2 hc2
 have ecut:cutC [(ls,w)]=[(cutT ls,w)]:=rfl
 rw [ecut] at hc2
 have l9:=cutT_len ls
 have l20:=cutT_letters ls
 generalize cutT ls=us at*
 obtain ⟨bi,oi,vu,u1,u2,u3⟩:=hc2.get (k:=0) (by simp)
 simp only [List.getElem_cons_zero,Int.natCast_zero,Int.ofNat_zero] at u1 u2 u3
 simp only [u1,u2,OP_some]
 obtain ⟨u4,u5⟩:=load2_parts u2
 -- what is refused
 have bad:∀(g:Heap) (c:Int),c=errI us w age→c≠0→p3z15 Tryz.prog K (I age) v2 (S []) (I 0) (I c) (I c) g:=by
  intro g c _ hc
  rw [q3z15]
  have eS:iBin .eql (S []) (.string ⟨#[]⟩)=some (B true):=rfl
  simp only [bin_neq,OP_some,decide_eq_false hc,Bool.not_false,IfP_true,eS]
  rw [q3z20]
  simp only [GdP_tt,bin_eql,OP_some,Int.ofNat_zero,decide_true]
  rw [q3z22]
  simp only [iPick_t,OP_some]
  rw [q3z24]
  simp only [GdP_tt,bin_eql,OP_some,decide_true]
  rw [q3z26]
  simp only [iPick_t,OP_some]
  rw [q3z28]
  simp only [GdP_tt]
  refine C14 ?_
  rw [q3z30]
  simp only [iPick_t,OP_some]
  exact hk _
 have after:∀(v6 d7:Value) (e:Int) {g:Heap},EX g2 g→e=errI us w age→(∀g',EX g g'→p3z15 Tryz.prog K (I age) v2 v6 d7 (I e) (I (errI us w age)) g')→
   CallP Tryz.prog 13 [v2] g fun x25 h_5=>OP (iBin .eql x25 (.int .i64 (0))) fun x27=>p3z8 Tryz.prog K (I age) v2 v6 d7 (I e) x25 x27 h_5:=by
  intro v6 d7 e g xg he hnext
  refine C13 (hc2.mono xg) (fun c hc=>?_) (by simp) ?_
  ·rw [List.mem_singleton.1 hc]
   exact ⟨by show us.length≤1000;omega,fun s hs=>by have:=l20 s hs;omega⟩
  intro g3 x3
  simp only [bin_eql,OP_some]
  rw [q3z8]
  by_cases h0:errC [(us,w)]=0
  rotate_left
  ·rw [decide_eq_false h0]
   simp only [GdP_ft]
   rw [q3z10]
   simp only [GdP_undef]
   rw [q3z12]
   simp only [GdP_ft]
   rw [q3z14]
   simp only [iPick_f,OP_some,IfP_false]
   have:=hnext g3 x3
   rw [errI_of h0] at this
   exact this
  ·rw [decide_eq_true h0]
   obtain ⟨_,_,e3⟩:=errI_zero (age:=age) h0
   simp only [GdP_tt,bin_lss,OP_some]
   rw [q3z10]
   have x23:=xg.trans x3
   have last:∀x31 x38:Value,iPick x31 (.bool true) x38=some (B (decide (age<0∨(us.length:Int)≤age)))→p3z12 Tryz.prog K (I age) v2 v6 d7 (I e) (I (errC [(us,w)])) (B true) x31 x38 g3:=by
    intro x31 x38 hp
    rw [q3z12]
    simp only [GdP_tt,hp,OP_some]
    rw [q3z14]
    simp only [iPick_t,OP_some,IfP_dec]
    have:=hnext g3 x3
    rw [e3] at this
    refine ⟨fun hc=>?_,fun hc=>?_⟩
    ·rw [if_pos hc] at this;exact this
    ·rw [if_neg hc] at this;rw [h0];exact this
   by_cases hn:age<0
   ·rw [decide_eq_true hn]
    simp only [GdP_tf]
    exact last _ _ (by rw [decide_eq_true (.inl hn)];rfl)
   ·rw [decide_eq_false hn]
    simp only [GdP_ff,u1,OP_some,fadr_pt,Nat.add_zero,EX.load x23 u4,(u3.mono x23).len,bin_geq]
    refine last _ _ ?_
    show some (B (decide ((us.length:Int)≤age)))=_
    congr 2
    rw [decide_eq_decide]
    constructor
    ·exact .inr
    ·rintro (h | h)
     ·exact absurd h hn
     ·exact h
 refine C12 u3 ⟨by omega,fun s hs=>by have:=l20 s hs;omega⟩ (fun hne g3 x3=>?_) (fun hz g3 x3=>?_)
 ·simp only [ext_tuple,pair0,pair1,OP_some]
  have e2:∀a b c:Value,(#[a,b,c]:Array Value)[2]?=some c:=fun _ _ _=>rfl
  have e1':∀a b c:Value,(#[a,b,c]:Array Value)[1]?=some b:=fun _ _ _=>rfl
  have e0':∀a b c:Value,(#[a,b,c]:Array Value)[0]?=some a:=fun _ _ _=>rfl
  simp only [e0',e1',e2,OP_some]
  exact after _ _ _ x3 rfl fun g' _=>bad g' _ rfl hne
 ·have e2:∀a b c:Value,(#[a,b,c]:Array Value)[2]?=some c:=fun _ _ _=>rfl
  have e1':∀a b c:Value,(#[a,b,c]:Array Value)[1]?=some b:=fun _ _ _=>rfl
  have e0':∀a b c:Value,(#[a,b,c]:Array Value)[0]?=some a:=fun _ _ _=>rfl
  simp only [ext_tuple,e0',e1',e2,OP_some]
  refine after _ _ _ x3 hz.symm fun g4 x4=>?_
  rw [hz]
  have hc0:errC [(us,w)]=0:=by
   apply Classical.byContradiction
   intro hc
   rw [errI_of hc] at hz
   exact hc hz
  obtain ⟨hform,harg,e3⟩:=errI_zero (age:=age) hc0
  rw [hz] at e3
  have hage:¬(age<0∨(us.length:Int)≤age):=by
   intro hc
   rw [if_pos hc] at e3
   exact absurd e3 (by decide)
  obtain ⟨a,rfl⟩:∃a:Nat,age=(a:Int):=⟨age.toNat,by omega⟩
  rw [Int.toNat_natCast]
  have x24:=x3.trans x4
  have hok:chOk (us.map ratT) w=true:=by
   unfold argC at harg
   have hjob:jobsOf [(us,w)]=[(us.map ratT,w)]:=rfl
   rw [hjob,Bool.and_eq_true] at harg
   simpa using harg.2
  rw [q3z15]
  have en:iBin .neq (I 0) (.int .i64 (0))=some (B false):=rfl
  simp only [en,OP_some,IfP_false,u1,EX.load x24 u2]
  refine C15 (u3.mono x24) (fun s hs=>⟨by have:=l20 s hs;omega,List.all_eq_true.1 hform s hs⟩) hok (by omega) ?_
  intro r g5 x5 hr
  have hbz:=stI_best (qs:=us.map ratT) (w:=w) (age:=a) (d:=us.length-a) hok (by rw [List.length_map];omega)
  generalize stI (us.map ratT) w a (us.length-a)=st at*
  have e7:iAlloc 37 [(.bool false),(.slice none 0 0),(.bool false),(.slice none 0 0)] g5=some (pt g5.length 0,g5++[.arr 37 z4]):=rfl
  simp only [ext_tuple,pair0,pair1,OP_some,e7,OH_some]
  refine celQ_new hr ?_
  intro g6 x6 c6 _
  obtain ⟨v6,l6,q6⟩:=c6.load
  simp only [l6,OP_some]
  refine C16u (q6.un hbz) (by decide) ?_
  intro g7 x7
  rw [decide_eq_true rfl,q3z34]
  simp only [GdP_tt,bin_eql,OP_some,decide_true]
  rw [q3z36]
  simp only [iPick_t,OP_some]
  rw [q3z38]
  simp only [GdP_tt,bin_eql,OP_some,decide_true]
  rw [q3z40]
  simp only [iPick_t,OP_some]
  rw [q3z42]
  simp only [GdP_tt]
  refine C14 ?_
  rw [q3z44]
  simp only [iPick_t,OP_some]
  exact hk _

end
end Go.Proofs.YtelmdbpaoifmoaaGreat

