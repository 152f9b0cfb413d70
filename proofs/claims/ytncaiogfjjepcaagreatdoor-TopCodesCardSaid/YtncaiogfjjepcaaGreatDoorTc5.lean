/-
  Part 5 of the texts behind a statement of this seat: THCt41, TRd2, THZq1, THZq2, THZq3, TLn1, TW1, TW2, TBr1, Cd5, TSm1, TSm2, TSm3, TSm4, Cd6, TSm5, Cd7, TSm6, TSm7, TW3, TW4, TW5, TSm8, TBr2, TBr3, TBr4, TCl, TW6.
-/
import Derived.Test.YtncaiogfjjepcaaGreatDoorTc4
open Classical (byContradiction)
open Go.Proofs.Tryz (prog)
open Int (natAbs_natCast)
open List (getD_eq_getElem?_getD getElem?_append_left getElem?_append_right getElem?_eq_getElem getElem?_map getElem?_set_ne getElem?_set_self getElem_append_left getElem_map getElem_mem getElem_of_mem length_append length_map length_set length_singleton length_take map_append map_cons mem_append mem_map mem_singleton replicate take_length take_succ_eq_append_getElem)
open Nat (add_zero gcd le_refl not_lt_zero sub_self zero_add zero_le)
open Option (getD_some map_some)
namespace Go.Proofs.YtncaiogfjjepcaaGreatDoor
open Go.Sim
section
def lF (h:ae) (val:Value) (a b:Int):Prop:=∃u w,val=.agg #[B (decide (a<0)),u,B (decide (b<0)),w]/\cS h u a.natAbs/\cS h w b.natAbs
theorem Yr {va:Value} {a:Int} {h:ae} {K:Value->ae->Prop} (ha:cO h va a) (hk:∀r h',EX h h'->lF h' r a 1->K r h'):aw prog 24 [va] h K:=by
 obtain ⟨v,rfl,hv⟩:=ha
 refine f24 ?_
 have e1:cQ 56 h (.agg #[B (decide (a<0)),v])=some (pt h.length 0,h++[.arr 56 [B (decide (a<0)),v]]):=rfl
 have e2:∀g:ae,cH 61 [(.bool false),(.slice none 0 0),(.bool false),(.slice none 0 0)] g=some (pt g.length 0,g++[.arr 61 z4]):=λ_=>rfl
 simp only [Dx,e1,e2,bc,length_append,List.length_cons,List.length_nil]
 have g0:(h++[ax.arr 56 [B (decide (a<0)),v]]++[ax.arr 61 z4])[h.length]?=some (.arr 56 [B (decide (a<0)),v]):=by simp
 have g1:(h++[ax.arr 56 [B (decide (a<0)),v]]++[ax.arr 61 z4])[h.length+1]?=some (.arr 61 z4):=by simp
 have x1:EX h (h++[ax.arr 56 [B (decide (a<0)),v]]++[ax.arr 61 z4]):=(EX.append _ _).push _
 generalize h++[ax.arr 56 [B (decide (a<0)),v]]++[ax.arr 61 z4]=h1 at g0 g1 x1⊢
 rw [er g0]
 simp only [ag,true_and]
 refine sE (by decide) (by decide) ?_
 intro r2 h2 x2 i2
 obtain ⟨w,rfl,hw⟩:=id i2
 refine ⟨⟨EX.load x2 (er g0),trivial⟩,?_⟩
 have wc:=(hv.mono x1).mono x2
 obtain ⟨xs,dx,cx⟩:=id wc
 obtain ⟨ys,dy,cy⟩:=id hw
 rw [Nd dx dy]
 simp only [ag,zero_add]
 have g2:=x2.get g1
 exact Fu g2 (hk _ _ ((x1.trans x2).set (by omega) _) ⟨v,w,rfl,wc.eC g2 _,hw.eC g2 _⟩)
theorem Ln {u w:Value} {s:Bool} {h:ae} {K:Value->ae->Prop} (hw:cS h w 1) (hk:∀h',EX h h'->K (B true) h'):aw prog 45 [.agg #[B s,u,B false,w]] h K:=by
 refine f45 ?_
 have e1:cQ 61 h (.agg #[B s,u,B false,w])=some (pt h.length 0,h++[.arr 61 [B s,u,B false,w]]):=rfl
 simp only [yU,e1,bc]
 have x1:EX h (h++[ax.arr 61 [B s,u,B false,w]]):=EX.append _ _
 have l3:af false 1 (h++[ax.arr 61 [B s,u,B false,w]]) (pt h.length 3)=some w:=nO rfl
 obtain ⟨xs,dx,cx,vx⟩:=hw.mono x1
 have hx1:xs=[1]:=dA.unique (by decide) cx ⟨λy hy=>by simp at hy;subst hy;decide,by simp⟩ (by rw [vx];rfl)
 subst hx1
 obtain ⟨i,g1,g2⟩:=dx.get (j:=0) (by simp)
 have oz:aI 1 w (I 0)=some (pt i 0):=g1
 simp only [kA,zero_add,ag,l3,dx.len,length_singleton,ij,JA]
 rw [cz (show ((1:Nat):Int)=1 by rfl)]
 simp only [hI,ag,oz,g2,ij,JB,fh]
 exact hk _ x1
theorem Ys {va:Value} {a:Int} {h:ae} {K:Value->ae->Prop} (ha:lF h va a 1) (la:a.natAbs<dj) (hk:∀h',EX h h'->K (.tuple #[S (fy a),I 0]) h'):aw prog 25 [va] h K:=by
 obtain ⟨u,w,rfl,hu,hw⟩:=ha
 refine f25 ?_
 have e1:cQ 61 h (.agg #[B (decide (a<0)),u,B (decide ((1:Int)<0)),w])=some (pt h.length 0,h++[.arr 61 [B (decide (a<0)),u,B (decide ((1:Int)<0)),w]]):=rfl
 simp only [yT,e1,bc]
 have x1:EX h (h++[ax.arr 61 [B (decide (a<0)),u,B (decide ((1:Int)<0)),w]]):=EX.append _ _
 have l1:af false 1 (h++[ax.arr 61 [B (decide (a<0)),u,B (decide ((1:Int)<0)),w]]) (pt h.length 1)=some u:=nO rfl
 have l0:af false 1 (h++[ax.arr 61 [B (decide (a<0)),u,B (decide ((1:Int)<0)),w]]) (pt h.length 0)=some (B (decide (a<0))):=nO rfl
 have g0:(h++[ax.arr 61 [B (decide (a<0)),u,B (decide ((1:Int)<0)),w]])[h.length]?=some (.arr 61 [B (decide (a<0)),u,B (decide ((1:Int)<0)),w]):=bP
 generalize h++[ax.arr 61 [B (decide (a<0)),u,B (decide ((1:Int)<0)),w]]=h1 at x1 l1 l0 g0⊢
 obtain ⟨d1,d2,d3,d4,d5⟩:=Aa la
 simp only [kA,zero_add,add_zero,ag,l1]
 refine CH (hu.mono x1) la ?_
 intro h2 x2
 simp only [gX,ag,fY,bN (show ¬((eR a.natAbs).length:Int)>4000 by omega),cN,EX.load x2 l0]
 have last:wU prog K (pt h.length 0) (S (fy a)) h2:=by
  rw [Ww,Hc (x2.get g0)]
  simp only [ag]
  refine Ln ((hw.mono x1).mono x2) ?_
  intro h3 x3
  simp only [fD]
  exact hk _ ((x1.trans x2).trans x3)
 by_cases mG:a<0
 ·rw [cz mG]
  have:fy a=45::eR a.natAbs:=by unfold fy;rw [if_pos mG]
  have ad:ai .add (.string ⟨#[45]⟩) (S (eR a.natAbs))=some (S (fy a)):=by
   rw [this]
   exact l8 (a:=[45]) (b:=eR a.natAbs) (by simp [maxLen];omega)
  simp only [fD,ad,ag]
  exact last
 ·rw [bN mG]
  have:fy a=eR a.natAbs:=by unfold fy;rw [if_neg mG]
  rw [this] at last
  simp only [cN]
  exact last
end
section
theorem YC {s p:Tx} {h:ae} {K:Value->ae->Prop} (hk:K (B (decide (p<:+s))) h) (hs:s.length<4611686018427387904):aw prog 40 [S s,S p] h K:=by
 refine f40 ?_
 unfold DH
 simp only [gX,ag,lG]
 rw [am2]
 by_cases hl:p.length<=s.length
 ·rw [cz (show (p.length:Int)<=s.length by omega)]
  have w:IntKind.wrap .i64 ((s.length:Int)-p.length)=((s.length-p.length:Nat):Int):=by rw [wrap64 (by omega) (by omega)];omega
  simp only [hI,gX,ag,ku,w,XL (a:=s) (n:=s.length-p.length) (by omega) .i64,kN]
  rw [WW]
  simp only [fh,ag]
  have:decide (s.drop (s.length-p.length)=p)=decide (p<:+s):=decide_eq_decide.2 (by rw [List.suffix_iff_eq_drop];exact eq_comm)
  rw [this]
  exact hk
 ·rw [bN (show ¬(p.length:Int)<=s.length by omega)]
  simp only [jz]
  rw [WW]
  simp only [dO,ag]
  have:decide (p<:+s)=false:=bN λh=>hl h.length_le
  rw [this] at hk
  exact hk
def wy:Value->Bool
 | .int .u32 _=>true
 | _=>false
theorem YZ.cI {e:TypeId} {h h':ae} {v:Value} {xs:List Nat} (x:KP wy h h') (p:DS e .u32 h v xs):DS e .u32 h' v xs:=by
 refine p.imp id λ⟨i,a,b⟩=>⟨i,a,?_⟩
 cases xs with
 | nil=>exact .inl rfl
 | cons y ys=>
  obtain ⟨r,c⟩:=b.resolve_left (by simp)
  exact .inr ⟨r,x i _ _ c rfl⟩
theorem cS.cI {h h':ae} {v:Value} {n:Nat} (x:KP wy h h') (p:cS h v n):cS h' v n:=let ⟨xs,a,b,c⟩:=p;⟨xs,YZ.cI x a,b,c⟩
theorem cO.cI {h h':ae} {v:Value} {a:Int} (x:KP wy h h') (p:cO h v a):cO h' v a:=let ⟨u,e,m⟩:=p;⟨u,e,m.cI x⟩
def jB (b:Nat) (h:ae) (v:Value) (zs:List Nat):Prop:=
 ∃rows,jC b h 56 2 v rows/\rows.length=zs.length/\(∀r∈rows,∃s t,r=.bool s::t)/\∀(k:Nat) (row:List Value) (z:Nat),rows[k]?=some row->zs[k]?=some z->cO h (.agg row.toArray) z
theorem agc {rows:List (List Value)} (h:∀r∈rows,∃s t,r=.bool s::t):∀c r,rows.flatten=c::r->wy c=false:=by
 intro c r hc
 cases rows with
 | nil=>simp at hc
 | cons x xs=>
  obtain ⟨s,t,rfl⟩:=h x (by simp)
  simp at hc
  rw [<-hc.1];rfl
theorem jB.ex {b:Nat} {h h':ae} {v:Value} {zs:List Nat} (x:EX h h') (o:jB b h v zs):jB b h' v zs:=
 let ⟨rows,a,c,e,d⟩:=o;⟨rows,a.ex x,c,e,λk r q h1 h2=>(d k r q h1 h2).mono x⟩
theorem jB.set {b:Nat} {h:ae} {v:Value} {zs:List Nat} {j:Nat} {e:TypeId} {s:Bool} {r:List Value} (o:jB b h v zs) (hj:h[j]?=some (.arr e (.bool s::r))) (aU:∀n,v≠sl 56 j 0 n) (ob:ax):jB b (h.set j ob) v zs:=
 let ⟨rows,a,c,e',d⟩:=o
 ⟨rows,a.cI λd' n hv _=>getElem?_set_ne λhjd=>by subst hjd;exact aU n hv,c,e',λk r q h1 h2=>(d k r q h1 h2).eC hj ob⟩
theorem jB.get {b:Nat} {h:ae} {v:Value} {zs:List Nat} (p:jB b h v zs) {k:Nat} (hk:k<zs.length):∃i o r,aI 2 v (I k)=some (pt i o)/\af true 2 h (pt i o)=some r/\cO h r zs[k]:=by
 obtain ⟨rows,a,b,_,c⟩:=p
 have bO:k<rows.length:=by omega
 obtain ⟨i,o,cs,g1,g2,g3,g4⟩:=a.rs.get bO
 exact ⟨i,o,_,g1,aot g2 g3 g4,c k _ _ (getElem?_eq_getElem bO) (getElem?_eq_getElem hk)⟩
theorem cO.cells {h:ae} {v:Value} {a:Int} (p:cO h v a):de v=true/\∃s u,v=.agg #[B s,u]/\bK v=[B s,u]:=by
 obtain ⟨u,rfl,_⟩:=p
 exact ⟨rfl,_,_,rfl,rfl⟩
theorem jB.app {h0 h:ae} {v x:Value} {a:Nat} {zs:List Nat} {z0:List Value} {K:Value->ae->Prop} (o:jB h0.length h v zs) (hex:EX h0 h) (hx:cO h x a) (hz:z0.length=2) (hl:zs.length<=10000)
  (hk:∀v' h',EX h0 h'->jB h0.length h' v' (zs++[a])->K v' h'):OH (bq 56 1 z0 h [(0,2,x)]) λy h2=>OH (cE 56 2 32 h2 v y) K:=by
 obtain ⟨rows,o1,o2,o3,o4⟩:=o
 obtain ⟨t1,s,u,e1,e2⟩:=hx.cells
 refine o1.app hex hz t1 e2 rfl (by omega) (by simp [maxLen];omega) ?_
 intro v' h' x' ef o'
 have kp:KP wy h h':=o1.kp (agc o3) ef
 refine hk v' h' x' ⟨_,o',by simp [o2],λr hr=>?_,λk row q h1 h2=>?_⟩
 ·rcases mem_append.1 hr with hr | hr
  ·exact o3 r hr
  ·rw [mem_singleton.1 hr];exact ⟨s,_,rfl⟩
 ·by_cases hk:k<rows.length
  ·rw [getElem?_append_left hk] at h1
   rw [getElem?_append_left (by omega)] at h2
   exact (o4 k row q h1 h2).cI kp
  ·rw [getElem?_append_right (by omega)] at h1
   rw [getElem?_append_right (by omega),<-o2] at h2
   have h0:k-rows.length=0:=by
    have:=(ba h1).1
    simp at this;omega
   rw [h0] at h1 h2
   simp only [List.getElem?_cons_zero,Option.some.injEq] at h1 h2
   subst h1 h2
   rw [<-e1]
   exact hx.cI kp
theorem JZ {n i:Nat} (hi:i<=200) (h:n<=12^i):n<dj:=by
 have h1:12^i<=16^200:=Nat.le_trans (Nat.pow_le_pow_left (by omega) i) (Nat.pow_le_pow_right (by omega) hi)
 have h2:(16:Nat)^200=4294967296^25:=by rw [show (4294967296:Nat)=16^8 by decide,<-Nat.pow_mul]
 have h3:(4294967296:Nat)^25<4294967296^100:=Nat.pow_lt_pow_right (by decide) (by decide)
 unfold dj
 omega
theorem C8 {v:Value} {W:List Tx} {s:Tx} {h:ae} {K:Value->ae->Prop} (hv:SV h v W) (hl:W.length<1000000) (hw:∀w∈W,w.length<4611686018427387904) (vX:s.length<4611686018427387904)
  (he:iC W s≠0->∀h',EX h h'->K (.tuple #[S [],I (iC W s)]) h')
  (hk:iC W s=0->∀h',EX h h'->K (.tuple #[S (fy (r8 W s s.length:Nat)),I 0]) h'):aw prog 8 [v,S s] h K:=by
 refine f8 (CF hv hl hw vX ?_)
 intro h1 x1
 simp only [jW,ag,uO]
 refine ⟨λhc=>he hc h1 x1,λhc=>?_⟩
 have hk:=hk hc
 have ok:s.length<=200/\Ok W:=by
  unfold iC at hc
  split at hc
  ·cases hc
  ·rename_i g1
   split at hc
   ·cases hc
   ·split at hc
    ·rename_i g3
     exact ⟨by omega,⟨g3.1,λw hw=>(g3.2 w hw).1,λw hw=>(g3.2 w hw).2.1,λw hw=>(g3.2 w hw).2.2,by omega⟩⟩
    ·cases hc
 obtain ⟨sl,ok⟩:=ok
 have gF:=ok.gF
 have hs:=hv.ss.mono x1
 refine sE (by omega) (by omega) ?_
 intro r1 h2 x2 q1
 have start:OH (bq 56 1 [(.bool false),(.slice none 0 0)] h2 [(0,2,r1)]) λbo h_3=>bM [bo,(.int .i64 (1))] h_3 λL1 xs hx=>I5 prog K v (S s) L1 xs hx:=by
  obtain ⟨t1,sb,u,e1,e2⟩:=q1.cells
  have e0:bq 56 1 [(.bool false),(.slice none 0 0)] h2 [(0,2,r1)]=some (Go.Sim.sl 56 h2.length 0 1,h2++[.arr 56 [B sb,u]]):=by
   simp [bq,fE,dt,t1,e2,setAt]
  rw [e0]
  simp only [bc]
  have x3:EX h1 (h2++[.arr 56 [B sb,u]]):=x2.trans (EX.append _ _)
  have HF:jB h1.length (h2++[.arr 56 [B sb,u]]) (Go.Sim.sl 56 h2.length 0 1) [1]:=
   ⟨[[B sb,u]],⟨λr hr=>by rw [mem_singleton.1 hr];rfl,.inr ⟨h2.length,x2.1,rfl,by simp⟩⟩,rfl,λr hr=>by rw [mem_singleton.1 hr];exact ⟨_,_,rfl⟩,λk row z g1 g2=>by
    have Gd:k=0:=by have:=(ba g1).1;simp at this;omega
    subst Gd
    simp at g1 g2
    subst g1 g2
    have:=q1.mono (EX.append h2 [.arr 56 [B sb,u]])
    rw [e1] at this
    exact this⟩
  refine cG (σ:=Nat×Value×ae) (λq=>[q.2.1,I ((q.1:Int)+1)]) (λq=>q.2.2) (λq=>q.1<=s.length/\EX h1 q.2.2/\jB h1.length q.2.2 q.2.1 (hC W s q.1)) (λq=>s.length-q.1) (0,_,_) rfl rfl ⟨zero_le _,x3,HF⟩ ?_
  rintro ⟨i,vo,g⟩ ⟨hi,xg,own⟩ L hL
  simp only at hi xg own hL⊢
  have le:=Xa (W:=W) gF s i
  have ll:=Xb W s i
  rw [an1]
  simp only [gX,ag,M6,bL]
  refine ⟨λar=>?_,λcY=>?_⟩
  ·have ar:i<s.length:=by omega
   refine sE (by omega) (by omega) ?_
   intro r2 g1 y1 z1
   obtain ⟨t2,XD,u2,f1,f2⟩:=z1.cells
   have al:cH 56 [(.bool false),(.slice none 0 0)] g1=some (pt g1.length 0,g1++[.arr 56 [(.bool false),(.slice none 0 0)]]):=rfl
   have kj:(g1++[ax.arr 56 [(.bool false),(.slice none 0 0)]])[g1.length]?=some (.arr 56 [(.bool false),(.slice none 0 0)]):=bP
   have st:∀{g:ae} {c1 c2:Value} {x:Value} {sb u},g[g1.length]?=some (.arr 56 [c1,c2])->x=.agg #[B sb,u]->bE 2 g (pt g1.length 0) x=some (undef,g.set g1.length (.arr 56 [B sb,u])):=by
    intro g c1 c2 x sb u hg hx
    subst hx
    simp [bE,oT,hg,de,bK,setAt,Value.cells]
   have QY:EX g (g1++[ax.arr 56 [(.bool false),(.slice none 0 0)]]):=y1.trans (EX.append _ _)
   simp only [al,bc,st kj f1,hs.len,ag]
   have SH:∀n,vo≠Go.Sim.sl 56 g1.length 0 n:=λn hv=>by
    obtain ⟨rows,a,_⟩:=own
    have:=(a.lt hv).2.1
    have:=y1.1
    omega
   -- je words one after je other
   refine cG (σ:=Nat×ae) (λq=>[I q.1]) (λq=>q.2) (λq=>q.1<=W.length/\EX g q.2/\jB h1.length q.2 vo (hC W s i)/\∃sb u,q.2[g1.length]?=some (.arr 56 [B sb,u])/\cO q.2 (.agg #[B sb,u]) (mZ s (hC W s i) (i+1) (W.take q.1):Nat)) (λq=>W.length-q.1) (0,_) rfl rfl ⟨zero_le _,QY.set y1.1 _,(own.ex QY).set kj SH _,XD,u2,lC kj,?_⟩ ?_
   ·have:=(z1.mono (EX.append g1 [ax.arr 56 [(.bool false),(.slice none 0 0)]])).eC kj (.arr 56 [B XD,u2])
    rw [f1] at this
    simpa [mZ] using this
   rintro ⟨j,ga⟩ ⟨hj,xa,wT,XE,u3,k3,i3⟩ L2 eK
   simp only at hj xa wT k3 i3 eK⊢
   have ld:af true 2 ga (pt g1.length 0)=some (.agg #[B XE,u3]):=by simp [af,bn,k3,cU]
   rw [an2]
   simp only [cb,ag,bL]
   refine ⟨λdT=>?_,λahb=>?_⟩
   ·have dT:j<W.length:=by omega
    obtain ⟨bb,o,a1,a2⟩:=hs.get j dT
    have mem:=getElem_mem dT
    have wl:=ok.le _ mem
    have wn:=List.length_pos_iff.2 (ok.ne _ mem)
    have a3:=EX.load (xg.trans xa) a2
    have tk:gh (S s) none (some (I ((i:Int)+1)))=some (S (s.take (i+1))):=by
     have:=Cc (a:=s) (n:=i+1) (by omega) .i64
     simpa using this
    have sn:=apx (s:=s) (cs:=hC W s i) (i:=i+1) (W.take j) W[j]
    rw [<-take_succ_eq_append_getElem dT] at sn
    have nx:∀gb sb u,EX ga gb∨True->EX g gb->jB h1.length gb vo (hC W s i)->gb[g1.length]?=some (.arr 56 [B sb,u])->cO gb (.agg #[B sb,u]) (mZ s (hC W s i) (i+1) (W.take (j+1)):Nat)->BN prog K v (S s) vo (I ((i:Int)+1)) (pt g1.length 0) v (I W.length) (I j) L L2 gb:=by
     intro gb sb u _ xb ob kb ib
     rw [an3]
     simp only [cD,ag,mP j (by omega),true_and]
     exact eK (j+1,gb) ⟨dT,xb,ob,sb,u,kb,ib⟩ (by show W.length-(j+1)<W.length-j;omega)
    simp only [a1,a3,ag,tk]
    refine f22 (YC ?_ (by rw [length_take];omega))
    cases hb:decide (W[j]<:+s.take (i+1)) with
    | false=>
     have hQ:nV s (i+1) W[j]=false:=hb
     rw [hQ] at sn
     simp only [Bool.false_eq_true,if_false,add_zero] at sn
     simp only [cN]
     exact nx ga XE u3 (.inr trivial) xa wT k3 (by rw [sn];exact i3)
    | true=>
     have hQ:nV s (i+1) W[j]=true:=hb
     rw [hQ] at sn
     simp only [if_true] at sn
     have suf:=(of_decide_eq_true hb).length_le
     rw [length_take] at suf
     have w:IntKind.wrap .i64 ((i:Int)+1-W[j].length)=((i+1-W[j].length:Nat):Int):=by rw [wrap64 (by omega) (by omega)];omega
     have du:i+1-W[j].length<(hC W s i).length:=by omega
     obtain ⟨p,o2,r4,b1,b2,b3⟩:=wT.get du
     have ge:(hC W s i)[i+1-W[j].length]=(hC W s i).getD (i+1-W[j].length) 0:=by simp [du]
     simp only [fD,ld,ag,gX,ku,w,b1,b2,true_and]
     have l1:mZ s (hC W s i) (i+1) (W.take j)<=12*12^i:=XT (by rw [length_take];omega) le
     have l2:=le _ (getElem_mem du)
     have p12:12*12^i=12^(i+1):=by rw [Nat.pow_succ,Nat.mul_comm]
     refine Lh i3 b3 (by rw [natAbs_natCast];exact JZ (i:=i+1) (by omega) (by omega)) (by rw [natAbs_natCast];exact JZ (i:=i+1) (by omega) (by omega)) ?_
     intro r5 gb xb q5
     obtain ⟨t5,XF,u5,f5,_⟩:=q5.cells
     have kb:=xb.get k3
     rw [st kb f5]
     simp only [bc]
     have hgb:g.length<=g1.length:=y1.1
     refine nx _ XF u5 (.inr trivial) ((xa.trans xb).set hgb _) ((wT.ex xb).set kb SH _) (lC kb) ?_
     have:=q5.eC kb (.arr 56 [B XF,u5])
     rw [f5] at this
     rw [sn]
     rw [<-ge]
     simpa using this
   ·have hjw:j=W.length:=by omega
    subst hjw
    rw [take_length] at i3
    rw [an4]
    simp only [ld,ag]
    refine jB.app wT (xg.trans xa) i3 rfl (by omega) ?_
    intro v' gc xc alr
    rw [an5]
    have w:IntKind.wrap .i64 ((i:Int)+1+1)=((i+1:Nat):Int)+1:=by rw [wrap64 (by omega) (by omega)];omega
    simp only [cD,ag,w,true_and]
    exact hL (i+1,v',gc) ⟨ar,xc,alr⟩ (by show s.length-(i+1)<s.length-i;omega)
  ·have hie:i=s.length:=by omega
   subst hie
   have du:s.length<(hC W s s.length).length:=by omega
   obtain ⟨p,o2,r4,b1,b2,b3⟩:=own.get du
   have ge:(hC W s s.length)[s.length]=r8 W s s.length:=by simp [r8,du]
   rw [an6]
   simp only [gX,ag,b1,b2]
   refine Yr b3 ?_
   intro r5 g5 x5 q5
   have l2:=le _ (getElem_mem du)
   refine Ys q5 (by rw [natAbs_natCast];exact JZ sl l2) ?_
   intro g6 x6
   simp only [hP,hX,hY,ag]
   rw [ge]
   exact hk g6 (x1.trans (xg.trans (x5.trans x6)))
 exact start
end
section
theorem xo {b:Nat} (h:b<4294967296):b<dj:=Ss (Nat.lt_of_lt_of_le h (by decide))
theorem XG {a b:Nat}:p8 a b<0↔a<b:=by
 unfold p8
 constructor
 ·intro h
  apply byContradiction
  intro hn
  rw [if_neg hn] at h
  split at h <;> omega
 ·intro h;rw [if_pos h];decide
theorem Lt {va vb:Value} {a b:Nat} {h:ae} {K:Value->ae->Prop} (ha:cS h va a) (hb:cS h vb b) (la:a<dj) (b0:0<b) (lb:b<4294967296) (hk:∀q r h',EX h h'->cS h' q (a / b)->cS h' r (a%b)->K (.tuple #[q,r]) h'):
  aw prog 89 [va,vb] h K:=by
 refine f89 ?_
 unfold Ee
 refine Ll ha hb la (xo lb) ?_
 simp only [cb,ag,bL]
 refine ⟨λar=>?_,λcY=>?_⟩
 ·have j2:=XG.1 ar
  have Ax:=ha
  obtain ⟨xs,d,c,rfl⟩:=ha
  obtain ⟨s1,s2⟩:=d.cells
  have lx:=nw c la
  have hq:∀g,cS g (.slice none 0 0) (val 4294967296 xs / b):=λg=>⟨[],DS.nil _ _ _,⟨λx hx=>by simp at hx,by simp⟩,by rw [Nat.div_eq_of_lt j2];rfl⟩
  by_cases h0:xs.length=0
  ·have e:cE 79 1 4 h (.slice none 0 0) va=some (.slice none 0 0,h):=by
    simp only [cE,s1,s2]
    rw [if_pos h0]
   simp only [e,bc]
   have:xs=[]:=List.length_eq_zero_iff.1 h0
   subst this
   exact hk _ _ h (EX.refl h) (hq h) ⟨[],DS.nil _ _ _,c,by rw [Nat.mod_eq_of_lt j2]⟩
  ·have e:cE 79 1 4 h (.slice none 0 0) va=some (sl 79 h.length 0 xs.length,h++[.arr 79 (xs.map λd:Nat=>Value.int .u32 (d:Int))]):=by
    simp only [cE,s1,s2]
    rw [if_neg h0,if_pos ⟨by omega,by unfold maxLen;omega⟩]
   simp only [e,bc]
   refine hk _ _ _ (EX.append _ _) (hq _) ⟨xs,.inr ⟨h.length,rfl,.inr ⟨[],?_⟩⟩,c,by rw [Nat.mod_eq_of_lt j2]⟩
   simp [bn]
 ·have j2:b<=a:=by
   apply byContradiction
   intro hc
   exact cY (XG.2 (by omega))
  obtain ⟨ys,d,c,hy⟩:=id hb
  have hlen:ys.length=1:=by
   have h1:ys.length<=1:=c.len (k:=1) (by decide) (by rw [hy];simpa using lb)
   have h2:ys≠[]:=by rintro rfl;simp [val] at hy;omega
   have:0<ys.length:=List.length_pos_iff.2 h2
   omega
  obtain ⟨y,rfl⟩:∃y,ys=[y]:=by
   match ys,hlen with
   | [y],_=>exact ⟨y,rfl⟩
  have hyb:y=b:=by simpa [val] using hy
  subst hyb
  obtain ⟨i,g1,g2⟩:=d.get (j:=0) (by simp)
  have oz:aI 1 vb (.int .i64 (0))=some (pt i 0):=g1
  have Bc:aZ vb=some (I 1):=d.len
  simp only [Bc,ag,ij,decide_true,fD,oz,g2,List.getElem_cons_zero]
  refine Lr ha la b0 lb ?_
  intro q h2 x2 hq
  have mk:∀(g:ae) (r:Nat),bq 79 1 [(.int .u32 (0))] g [(0,1,.int .u32 (r:Int))]=some (sl 79 g.length 0 1,g++[.arr 79 [.int .u32 (r:Int)]]):=λ_ _=>rfl
  simp only [hP,hX,hY,ag,mk,bc]
  have x3:EX h2 (h2++[.arr 79 [.int .u32 ((a%y:Nat):Int)]]):=EX.append _ _
  have dr:DS 79 .u32 (h2++[.arr 79 [.int .u32 ((a%y:Nat):Int)]]) (sl 79 h2.length 0 1) [a%y]:=.inr ⟨h2.length,rfl,.inr ⟨[],by simp [bn]⟩⟩
  have hm:a%y<y:=Nat.mod_lt _ b0
  refine sF dr (λx hx=>by rw [mem_singleton.1 hx];omega) (by simp) ?_
  intro v' jL
  have e:val 4294967296 [a%y]=a%y:=by simp [val]
  rw [e] at jL
  exact hk _ _ _ (x2.trans x3) (hq.mono x3) jL
theorem YV {va:Value} {a:Int} {h:ae} {K:Value->ae->Prop} (ha:cO h va a) (hk:∀h',EX h h'->K (I (if a=0 then 0 else if a<0 then -1 else 1)) h'):aw prog 91 [va] h K:=by
 obtain ⟨v,rfl,hv⟩:=ha
 refine f91 ?_
 have e1:cQ 56 h (.agg #[B (decide (a<0)),v])=some (pt h.length 0,h++[.arr 56 [B (decide (a<0)),v]]):=rfl
 have x1:EX h (h++[.arr 56 [B (decide (a<0)),v]]):=EX.append _ _
 have l1:af false 1 (h++[ax.arr 56 [B (decide (a<0)),v]]) (pt h.length 1)=some v:=nO rfl
 have l0:af false 1 (h++[ax.arr 56 [B (decide (a<0)),v]]) (pt h.length 0)=some (B (decide (a<0))):=nO rfl
 obtain ⟨l,e2,e3⟩:=hv.oW
 simp only [Eg,e1,bc,kA,zero_add,add_zero,ag,l1,l0,e2,ij,bL]
 refine ⟨λhz=>?_,λhz=>⟨λhn=>?_,λhn=>?_⟩⟩
 ·have:=hk _ x1
  rw [if_pos (by omega)] at this
  exact this
 ·have:=hk _ x1
  rw [if_neg (by omega),if_pos hn] at this
  exact this
 ·have:=hk _ x1
  rw [if_neg (by omega),if_neg hn] at this
  exact this
theorem YO {va vb:Value} {a b:Int} {h:ae} {K:Value->ae->Prop} (ha:cO h va a) (hb:cO h vb b) (la:a.natAbs<dj) (lb:b.natAbs<dj) (hk:∀h',EX h h'->K (I (if a-b=0 then 0 else if a-b<0 then -1 else 1)) h'):aw prog 66 [va,vb] h K:=by
 have Ax:=ha
 have tg:=hb
 obtain ⟨v,rfl,hv⟩:=ha
 obtain ⟨w,rfl,hw⟩:=hb
 refine f66 ?_
 have e1:∀(g:ae) (s:Bool) (v:Value),cQ 56 g (.agg #[B s,v])=some (pt g.length 0,g++[.arr 56 [B s,v]]):=λ_ _ _=>rfl
 simp only [D9,e1,bc]
 have g0:(h++[ax.arr 56 [B (decide (a<0)),v]]++[ax.arr 56 [B (decide (b<0)),w]])[h.length]?=some (.arr 56 [B (decide (a<0)),v]):=by simp
 have g1:(h++[ax.arr 56 [B (decide (a<0)),v]]++[ax.arr 56 [B (decide (b<0)),w]])[(h++[ax.arr 56 [B (decide (a<0)),v]]).length]?=some (.arr 56 [B (decide (b<0)),w]):=bP
 have x1:EX h (h++[ax.arr 56 [B (decide (a<0)),v]]++[ax.arr 56 [B (decide (b<0)),w]]):=(EX.append _ _).push _
 generalize h++[ax.arr 56 [B (decide (a<0)),v]]++[ax.arr 56 [B (decide (b<0)),w]]=h1 at g0 g1 x1⊢
 rw [er g0,er g1]
 simp only [ag]
 refine YU (Ax.mono x1) (tg.mono x1) la lb ?_
 intro r h2 x2 hr
 exact YV hr λh3 x3=>hk h3 (x1.trans (x2.trans x3))
theorem cO.nat {h:ae} {v:Value} {n:Nat} (p:cS h v n):cO h (.agg #[B false,v]) (n:Int):=⟨v,by rw [bN (by omega)],by rwa [natAbs_natCast]⟩
theorem YN {va vb:Value} {a b:Int} {h:ae} {K:Value->ae->Prop} (ha:cO h va a) (hb:cO h vb b) (la:a.natAbs<dj) (lb:b.natAbs<4294967296) (hk:∀r h',EX h h'->cO h' r (gcd a.natAbs b.natAbs:Nat)->K r h'):aw prog 65 [va,vb] h K:=by
 obtain ⟨v,rfl,hv⟩:=ha
 obtain ⟨w,rfl,hw⟩:=hb
 refine f65 ?_
 unfold D8
 refine yY ?_
 intro h3 x
 simp only [kA,zero_add,ag,x.a1,x.b1,true_and]
 refine cG (σ:=Value×Value×Nat×Nat×ae) (λq=>[q.1,q.2.1]) (λq=>q.2.2.2.2) (λq=>(cS q.2.2.2.2 q.1 q.2.2.1/\cS q.2.2.2.2 q.2.1 q.2.2.2.1)/\(q.2.2.1<dj/\q.2.2.2.1<4294967296)/\gcd q.2.2.1 q.2.2.2.1=gcd a.natAbs b.natAbs/\EX h3 q.2.2.2.2) (λq=>q.2.2.2.1)
  (v,w,a.natAbs,b.natAbs,h3) rfl rfl ⟨⟨hv.mono x.ex,hw.mono x.ex⟩,⟨la,lb⟩,rfl,EX.refl _⟩ ?_
 rintro ⟨vx,vy,m,n,g⟩ ⟨⟨hm,hn⟩,⟨lm,ln⟩,hg,xg⟩ L hL
 simp only at hm hn lm ln hg xg hL⊢
 rw [anH]
 obtain ⟨l,e1,e2⟩:=hn.oW
 simp only [e1,ag,fY,bL]
 refine ⟨λhp=>?_,λhz=>?_⟩
 ·have n0:0<n:=e2.1 (by omega)
  refine Lt hm hn lm n0 ln ?_
  intro q r g2 x2 hq hr
  simp only [hP,hX,hY,ag,true_and]
  have oL:m%n<n:=Nat.mod_lt _ n0
  refine hL (vy,r,n,m%n,g2) ⟨⟨hn.mono x2,hr⟩,⟨xo ln,by show m%n<_;omega⟩,?_,xg.trans x2⟩ oL
  show gcd n (m%n)=_
  rw [<-hg,Nat.gcd_comm m n,Nat.gcd_rec n m,Nat.gcd_comm]
 ·have n0:n=0:=by
   apply byContradiction
   intro aU
   have:=e2.2 (by omega)
   omega
  subst n0
  rw [anG]
  rw [Nat.gcd_zero_right] at hg
  refine n7 hm ?_
  intro h5 x5
  have g':=(xg.trans x5).get x.out
  rw [Bool.false_and]
  refine kP g' (hk _ _ (((x.ex.trans xg).trans x5).set (by omega) _) ?_)
  rw [<-hg]
  exact (cO.nat (hm.mono x5)).eC g' _
end
section
theorem Ls {va vb:Value} {a b:Int} {h:ae} {K:Value->ae->Prop} (ha:cO h va a) (hb:cO h vb b) (la:a.natAbs<dj) (b0:0<b) (lb:b.natAbs<4294967296) (hd:b ∣ a) (hk:∀r s h',EX h h'->cO h' r (a / b)->cO h' s 0->K (.tuple #[r,s]) h'):aw prog 67 [va,vb] h K:=by
 obtain ⟨v,rfl,hv⟩:=ha
 obtain ⟨w,rfl,hw⟩:=hb
 have mI:decide (b<0)=false:=bN (by omega)
 obtain ⟨c,rfl⟩:=hd
 have vF:b*c / b=c:=Int.mul_ediv_cancel_left c (by omega)
 rw [vF] at hk
 have j2:(b*c).natAbs=b.natAbs*c.natAbs:=Int.natAbs_mul b c
 have tg:0<b.natAbs:=by omega
 have hq:(b*c).natAbs / b.natAbs=c.natAbs:=by rw [j2];exact Nat.mul_div_cancel_left _ tg
 have hr:(b*c).natAbs%b.natAbs=0:=by rw [j2];exact Nat.mul_mod_right _ _
 have mG:(decide (b*c<0)&&decide (0<c.natAbs))=decide (c<0):=by
  by_cases hc:c<0
  ·rw [cz hc,cz (show 0<c.natAbs by omega),cz (Int.mul_neg_of_pos_of_neg b0 hc)];rfl
  ·have:0<=b*c:=Int.mul_nonneg (by omega) (by omega)
   rw [bN hc,bN (by omega)];rfl
 refine f67 ?_
 have e1:∀(g:ae) (s:Bool) (v:Value),cQ 56 g (.agg #[B s,v])=some (pt g.length 0,g++[.arr 56 [B s,v]]):=λ_ _ _=>rfl
 have e2:∀(g:ae),cH 56 [(.bool false),(.slice none 0 0)] g=some (pt g.length 0,g++[.arr 56 [(.bool false),(.slice none 0 0)]]):=λ_=>rfl
 have ob:∀{g:ae} {i:Nat},g[i]?=some (.arr 56 [(.bool false),(.slice none 0 0)])->cF g (pt i 0)=some (.agg #[.int .i64 56,.bool false,.slice none 0 0]):=by
  intro g i hi
  simp [cF,rG,hi,jY]
 rw [mI]
 simp only [Ea,e1,e2,bc]
 have q0:EX h (h++[.arr 56 [B (decide (b*c<0)),v]]):=EX.append _ _
 have p0:(h++[ax.arr 56 [B (decide (b*c<0)),v]])[h.length]?=some (.arr 56 [B (decide (b*c<0)),v]):=bP
 generalize h++[ax.arr 56 [B (decide (b*c<0)),v]]=ga at q0 p0⊢
 have q1:EX ga (ga++[.arr 56 [B false,w]]):=EX.append _ _
 have p1:(ga++[ax.arr 56 [B false,w]])[ga.length]?=some (.arr 56 [B false,w]):=bP
 generalize ga++[ax.arr 56 [B false,w]]=gb at q1 p1⊢
 have q2:EX gb (gb++[.arr 56 [(.bool false),(.slice none 0 0)]]):=EX.append _ _
 have p2:(gb++[ax.arr 56 [(.bool false),(.slice none 0 0)]])[gb.length]?=some (.arr 56 [(.bool false),(.slice none 0 0)]):=bP
 generalize gb++[ax.arr 56 [(.bool false),(.slice none 0 0)]]=gc at q2 p2⊢
 have q3:EX gc (gc++[.arr 56 [(.bool false),(.slice none 0 0)]]):=EX.append _ _
 have p3:(gc++[ax.arr 56 [(.bool false),(.slice none 0 0)]])[gc.length]?=some (.arr 56 [(.bool false),(.slice none 0 0)]):=bP
 generalize gc++[ax.arr 56 [(.bool false),(.slice none 0 0)]]=gd at q3 p3⊢
 have Wr:=q1.trans (q2.trans q3)
 have w7:=q0.trans Wr
 have k0:=Wr.get p0
 have k1:=(q2.trans q3).get p1
 have k2:=q3.get p2
 have la1:∀{g:ae},EX gd g->af false 1 g (pt h.length 1)=some v:=λx=>by simp [af,bn,x.get k0,cU]
 have A8:∀{g:ae},EX gd g->af false 1 g (pt h.length 0)=some (B (decide (b*c<0))):=λx=>by simp [af,bn,x.get k0,cU]
 have lb1:∀{g:ae},EX gd g->af false 1 g (pt ga.length 1)=some w:=λx=>by simp [af,bn,x.get k1,cU]
 have G4:∀{g:ae},EX gd g->af false 1 g (pt ga.length 0)=some (B false):=λx=>by simp [af,bn,x.get k1,cU]
 simp only [kA,zero_add,add_zero,ag,la1 (EX.refl gd),lb1 (EX.refl gd)]
 refine Lt (hv.mono w7) (hw.mono w7) la tg lb ?_
 intro q r g5 x5 mq mr
 rw [hq] at mq
 rw [hr] at mr
 simp only [hP,hX,hY,ag]
 have y1:EX g5 (g5++[.arr 56 [(.bool false),(.slice none 0 0)]]):=EX.append _ _
 have s1:(g5++[ax.arr 56 [(.bool false),(.slice none 0 0)]])[g5.length]?=some (.arr 56 [(.bool false),(.slice none 0 0)]):=bP
 have XK:(g5++[ax.arr 56 [(.bool false),(.slice none 0 0)]]).length=g5.length+1:=by simp
 generalize g5++[ax.arr 56 [(.bool false),(.slice none 0 0)]]=g6 at y1 s1 XK⊢
 have y2:EX g6 (g6++[.arr 56 [(.bool false),(.slice none 0 0)]]):=EX.append _ _
 have s2:(g6++[ax.arr 56 [(.bool false),(.slice none 0 0)]])[g6.length]?=some (.arr 56 [(.bool false),(.slice none 0 0)]):=bP
 generalize g6++[ax.arr 56 [(.bool false),(.slice none 0 0)]]=g7 at y2 s2⊢
 have sj:=y2.get s1
 have yg:=y1.trans y2
 have z5:=x5
 have z6:=x5.trans y1
 have z7:=x5.trans yg
 simp only [ob s1,ob sj,ob s2,ag,true_and,A8 z5,A8 z6,A8 z7,G4 z5,G4 z6,G4 z7,Fh,if_true]
 have hx:(!(decide (b*c<0)==false))=decide (b*c<0):=by cases decide (b*c<0) <;> rfl
 rw [hx]
 refine n7 (mq.mono yg) ?_
 intro g8 x8
 rw [mG]
 simp only [ob (x8.get sj),ob (x8.get s2),true_and,A8 (z7.trans x8),ag]
 refine n7 ((mr.mono yg).mono x8) ?_
 intro g9 x9
 have pq:=x8.trans x9
 have t1:=pq.get sj
 have t2:=pq.get s2
 have aU:g5.length≠g6.length:=by omega
 simp only [ob t1,ob t2,true_and,bN (show ¬(0<0) by decide),Bool.and_false]
 rw [ki t1]
 simp only [bc]
 have Ci:(g9.set g5.length (.arr 56 [B (decide (c<0)),q]))[g6.length]?=some (.arr 56 [(.bool false),(.slice none 0 0)]):=by rw [getElem?_set_ne aU];exact t2
 rw [ki Ci]
 simp only [bc]
 obtain ⟨l,l1,l2⟩:=mr.oW
 have l0:l=0:=by
  apply byContradiction
  intro hc
  have:=l2.1 (by omega)
  omega
 subst l0
 simp only [l1,ag,fY]
 rw [bN (show ¬((0:Int)<((0:Nat):Int)) by decide)]
 rw [anJ]
 simp only [jz]
 rw [anK]
 have pk:cA (B false) undef (.bool false)=some (B false):=rfl
 simp only [pk,ag,cN]
 rw [anI]
 have u1:((g9.set g5.length (.arr 56 [B (decide (c<0)),q])).set g6.length (.arr 56 [B false,r]))[g5.length]?=some (.arr 56 [B (decide (c<0)),q]):=by
  rw [getElem?_set_ne (λe=>aU e.symm)];exact lC t1
 have u2:((g9.set g5.length (.arr 56 [B (decide (c<0)),q])).set g6.length (.arr 56 [B false,r]))[g6.length]?=some (.arr 56 [B false,r]):=lC Ci
 have hgd:gd.length<=g5.length:=x5.1
 have AX:EX h ((g9.set g5.length (.arr 56 [B (decide (c<0)),q])).set g6.length (.arr 56 [B false,r])):=
  (((w7.trans z7).trans pq).set (by have:=w7.1;omega) _).set (by have:=w7.1;omega) _
 have lgb:gb.length<gd.length:=by
  have:=(ba k2).1;exact this
 have lgc:gc.length<gd.length:=(ba p3).1
 have w2:((g9.set g5.length (.arr 56 [B (decide (c<0)),q])).set g6.length (.arr 56 [B false,r]))[gb.length]?=some (.arr 56 [(.bool false),(.slice none 0 0)]):=by
  rw [getElem?_set_ne (by omega),getElem?_set_ne (by omega)];exact (z7.trans pq).get k2
 have w3:((g9.set g5.length (.arr 56 [B (decide (c<0)),q])).set g6.length (.arr 56 [B false,r]))[gc.length]?=some (.arr 56 [(.bool false),(.slice none 0 0)]):=by
  rw [getElem?_set_ne (by omega),getElem?_set_ne (by omega)];exact (z7.trans pq).get p3
 have SE:cS ((g9.set g5.length (.arr 56 [B (decide (c<0)),q])).set g6.length (.arr 56 [B false,r])) q c.natAbs:=(((mq.mono yg).mono pq).eC t1 _).eC Ci _
 have SF:cS ((g9.set g5.length (.arr 56 [B (decide (c<0)),q])).set g6.length (.arr 56 [B false,r])) r 0:=(((mr.mono yg).mono pq).eC t1 _).eC Ci _
 generalize (g9.set g5.length (.arr 56 [B (decide (c<0)),q])).set g6.length (.arr 56 [B false,r])=gz at u1 u2 AX w2 w3 SE SF⊢
 rw [er u1,er u2]
 simp only [ag,true_and]
 rw [ki w2]
 simp only [bc]
 have QN:gb.length≠gc.length:=by
  have:=(ba p2).1;omega
 have u2':(gz.set gb.length (.arr 56 [B (decide (c<0)),q]))[g6.length]?=some (.arr 56 [B false,r]):=by rw [getElem?_set_ne (by omega)];exact u2
 have Cq:(gz.set gb.length (.arr 56 [B (decide (c<0)),q]))[gc.length]?=some (.arr 56 [(.bool false),(.slice none 0 0)]):=by rw [getElem?_set_ne QN];exact w3
 rw [er u2',ki Cq]
 simp only [true_and,bc]
 have n2:((gz.set gb.length (.arr 56 [B (decide (c<0)),q])).set gc.length (.arr 56 [B false,r]))[gb.length]?=some (.arr 56 [B (decide (c<0)),q]):=by
  rw [getElem?_set_ne (λe=>QN e.symm)];exact lC w2
 rw [er n2,er (lC Cq)]
 simp only [ag]
 have pQ:h.length<=gb.length:=(q0.trans q1).1
 refine hk _ _ _ ((AX.set pQ _).set (by have:=(ba p2).1;omega) _) ⟨q,rfl,(SE.eC w2 _).eC Cq _⟩ ⟨r,rfl,(SF.eC w2 _).eC Cq _⟩
theorem lF.mono {h h':ae} {v:Value} {a b:Int} (x:EX h h') (p:lF h v a b):lF h' v a b:=let ⟨u,w,e,m,n⟩:=p;⟨u,w,e,m.mono x,n.mono x⟩
theorem Fg {h h':ae} {j:Nat} {va vb:Value} {a b:Int} {K:Value->ae->Prop} (ha:cO h' va a) (hb:cO h' vb b) (x:EX h h') (hj:h.length<=j) (hg:h'[j]?=some (.arr 61 z4)) (hk:∀r h',EX h h'->lF h' r a b->K r h'):
  OP (jo [(.bool false),(.slice none 0 0),(.bool false),(.slice none 0 0)] [(0,2,va),(2,2,vb)]) λaV=>OH (bE 4 h' (pt j 0) aV) λ_ h_6=>OP (af true 4 h_6 (pt j 0)) λr0=>K r0 h_6:=by
 obtain ⟨v,rfl,hv⟩:=ha
 obtain ⟨w,rfl,hw⟩:=hb
 obtain ⟨xs,dx,_⟩:=id hv
 obtain ⟨ys,dy,_⟩:=id hw
 rw [Nd dx dy]
 simp only [ag]
 exact Fu hg (hk _ _ (x.set hj _) ⟨v,w,rfl,hv.eC hg _,hw.eC hg _⟩)
theorem Li {n:Int} {h:ae} {K:Value->ae->Prop} (h1: -9223372036854775808<=n) (h2:n<9223372036854775808) (hk:∀r h',EX h h'->lF h' r n 1->K r h'):aw prog 30 [I n] h K:=by
 refine f30 ?_
 have e1:cH 61 [(.bool false),(.slice none 0 0),(.bool false),(.slice none 0 0)] h=some (pt h.length 0,h++[.arr 61 z4]):=rfl
 simp only [DC,e1,bc]
 have x0:EX h (h++[.arr 61 z4]):=EX.append _ _
 have g0:(h++[ax.arr 61 z4])[h.length]?=some (.arr 61 z4):=bP
 generalize h++[ax.arr 61 z4]=ga at x0 g0⊢
 refine sE h1 h2 ?_
 intro r h3 x3 i3
 refine sE (by decide) (by decide) ?_
 intro s h4 x4 i4
 exact Fg (i3.mono x4) i4 (x0.trans (x3.trans x4)) (le_refl _) ((x3.trans x4).get g0) hk
theorem agh {a b:Int} (b0:0<b):0<(gcd a.natAbs b.natAbs:Int)/\(gcd a.natAbs b.natAbs:Int)<=b:=by
 have h1:0<gcd a.natAbs b.natAbs:=Nat.gcd_pos_of_pos_right _ (by omega)
 have h2:gcd a.natAbs b.natAbs<=b.natAbs:=Nat.gcd_le_right _ (by omega)
 omega
theorem YI {va vb:Value} {a b:Int} {h:ae} {K:Value->ae->Prop} (ha:cO h va a) (hb:cO h vb b) (la:a.natAbs<dj) (b0:0<b) (lb:b.natAbs<4294967296)
  (hk:∀r h',EX h h'->lF h' r (a / (gcd a.natAbs b.natAbs:Int)) (b / (gcd a.natAbs b.natAbs:Int))->K r h'):aw prog 51 [va,vb] h K:=by
 obtain ⟨v,rfl,hv⟩:=ha
 obtain ⟨w,rfl,hw⟩:=hb
 have mI:decide (b<0)=false:=bN (by omega)
 obtain ⟨Qo,arB⟩:=agh (a:=a) b0
 have hda:(gcd a.natAbs b.natAbs:Int) ∣ a:=Int.gcd_dvd_left ..
 have hdb:(gcd a.natAbs b.natAbs:Int) ∣ b:=Int.gcd_dvd_right ..
 refine f51 ?_
 have e1:∀(g:ae) (s:Bool) (v:Value),cQ 56 g (.agg #[B s,v])=some (pt g.length 0,g++[.arr 56 [B s,v]]):=λ_ _ _=>rfl
 have e2:∀(g:ae),cH 56 [(.bool false),(.slice none 0 0)] g=some (pt g.length 0,g++[.arr 56 [(.bool false),(.slice none 0 0)]]):=λ_=>rfl
 have e3:∀(g:ae),cH 61 [(.bool false),(.slice none 0 0),(.bool false),(.slice none 0 0)] g=some (pt g.length 0,g++[.arr 61 z4]):=λ_=>rfl
 simp only [DT,e1,e3,bc]
 have q0:EX h (h++[.arr 56 [B (decide (a<0)),v]]):=EX.append _ _
 have p0:(h++[ax.arr 56 [B (decide (a<0)),v]])[h.length]?=some (.arr 56 [B (decide (a<0)),v]):=bP
 generalize h++[ax.arr 56 [B (decide (a<0)),v]]=ga at q0 p0⊢
 have q1:EX ga (ga++[.arr 56 [B (decide (b<0)),w]]):=EX.append _ _
 have p1:(ga++[ax.arr 56 [B (decide (b<0)),w]])[ga.length]?=some (.arr 56 [B (decide (b<0)),w]):=bP
 generalize ga++[ax.arr 56 [B (decide (b<0)),w]]=gb at q1 p1⊢
 have q2:EX gb (gb++[.arr 61 z4]):=EX.append _ _
 have p2:(gb++[ax.arr 61 z4])[gb.length]?=some (.arr 61 z4):=bP
 generalize gb++[ax.arr 61 z4]=gc at q2 p2⊢
 have k0:=(q1.trans q2).get p0
 have k1:=q2.get p1
 have x0:=q0.trans (q1.trans q2)
 have pQ:h.length<=gb.length:=(q0.trans q1).1
 have G6:∀{g:ae},EX gc g->af true 2 g (pt h.length 0)=some (.agg #[B (decide (a<0)),v]):=λx=>er (x.get k0)
 have G5:∀{g:ae},EX gc g->af true 2 g (pt ga.length 0)=some (.agg #[B (decide (b<0)),w]):=λx=>er (x.get k1)
 have GZ:∀{g:ae},EX gc g->cO g (.agg #[B (decide (a<0)),v]) a:=λx=>⟨v,rfl,hv.mono (x0.trans x)⟩
 have G0:∀{g:ae},EX gc g->cO g (.agg #[B (decide (b<0)),w]) b:=λx=>⟨w,rfl,hw.mono (x0.trans x)⟩
 have l1:af false 1 gc (pt ga.length 0)=some (B (decide (b<0))):=by simp [af,bn,k1,cU]
 simp only [kA,add_zero,ag,l1]
 rw [mI]
 simp only [cN]
 rw [ant]
 rw [G6 (EX.refl gc),G5 (EX.refl gc)]
 simp only [ag]
 refine YN (GZ (EX.refl gc)) (G0 (EX.refl gc)) la lb ?_
 intro r g3 x3 ir
 simp only [e2,bc]
 have y4:EX g3 (g3++[.arr 56 [(.bool false),(.slice none 0 0)]]):=EX.append _ _
 have s4:(g3++[ax.arr 56 [(.bool false),(.slice none 0 0)]])[g3.length]?=some (.arr 56 [(.bool false),(.slice none 0 0)]):=bP
 generalize g3++[ax.arr 56 [(.bool false),(.slice none 0 0)]]=g4 at y4 s4⊢
 obtain ⟨u,rfl,hu⟩:=ir
 have Rx:=(hu.mono y4).eC s4 (.arr 56 [B (decide ((gcd a.natAbs b.natAbs:Int)<0)),u])
 rw [ki s4]
 simp only [bc]
 have F8:gc.length<=g3.length:=x3.1
 have x5:EX gc (g4.set g3.length (.arr 56 [B (decide ((gcd a.natAbs b.natAbs:Int)<0)),u])):=(x3.trans y4).set F8 _
 have s5:(g4.set g3.length (.arr 56 [B (decide ((gcd a.natAbs b.natAbs:Int)<0)),u]))[g3.length]?=some (.arr 56 [B (decide ((gcd a.natAbs b.natAbs:Int)<0)),u]):=lC s4
 generalize g4.set g3.length (.arr 56 [B (decide ((gcd a.natAbs b.natAbs:Int)<0)),u])=g5 at x5 s5 Rx⊢
 have ig:∀{g:ae},EX g5 g->cO g (.agg #[B (decide ((gcd a.natAbs b.natAbs:Int)<0)),u]) (gcd a.natAbs b.natAbs:Int):=λx=>⟨u,rfl,Rx.mono x⟩
 rw [er s5]
 simp only [ag,true_and]
 refine sE (by decide) (by decide) ?_
 intro one g6 x6 i1
 rw [er (x6.get s5)]
 simp only [true_and]
 have Hb:((gcd a.natAbs b.natAbs:Int)).natAbs<4294967296:=by rw [natAbs_natCast];have:=Nat.gcd_le_right a.natAbs (show 0<b.natAbs by omega);omega
 refine YO (ig x6) i1 (xo Hb) (by rw [show (1:Int).natAbs=1 from rfl];exact xo (by decide)) ?_
 intro g7 x7
 have cR:=x6.trans x7
 have pv:=x5.trans cR
 simp only [ij,ag,bL]
 refine ⟨λh1=>?_,λh1=>?_⟩
 ·have hg1:(gcd a.natAbs b.natAbs:Int)=1:=by
   split at h1
   ·omega
   ·split at h1 <;> omega
  rw [G6 pv,G5 pv]
  simp only [ag]
  rw [hg1,Int.ediv_one,Int.ediv_one] at hk
  exact Fg (GZ pv) (G0 pv) (x0.trans pv) pQ (pv.get p2) hk
 ·rw [G6 pv,er (cR.get s5)]
  simp only [ag]
  refine Ls (GZ pv) (ig cR) la Qo Hb hda ?_
  intro rn sn g8 x8 irn isn
  simp only [hP,hX,hY,ag]
  have y9:EX g8 (g8++[.arr 56 [(.bool false),(.slice none 0 0)]]):=EX.append _ _
  have s9:(g8++[ax.arr 56 [(.bool false),(.slice none 0 0)]])[g8.length]?=some (.arr 56 [(.bool false),(.slice none 0 0)]):=bP
  generalize g8++[ax.arr 56 [(.bool false),(.slice none 0 0)]]=g9 at y9 s9⊢
  have K6:EX g9 (g9++[.arr 56 [(.bool false),(.slice none 0 0)]]):=EX.append _ _
  have XA:(g9++[ax.arr 56 [(.bool false),(.slice none 0 0)]])[g9.length]?=some (.arr 56 [(.bool false),(.slice none 0 0)]):=bP
  generalize g9++[ax.arr 56 [(.bool false),(.slice none 0 0)]]=oA at K6 XA⊢
  have JU:=K6.get s9
  obtain ⟨qn,rfl,kY⟩:=irn
  obtain ⟨zn,rfl,hzn⟩:=isn
  have QE:g8.length≠g9.length:=by have:=(ba s9).1;omega
  rw [ki JU]
  simp only [bc]
  have t10:(oA.set g8.length (.arr 56 [B (decide (a / (gcd a.natAbs b.natAbs:Int)<0)),qn]))[g9.length]?=some (.arr 56 [(.bool false),(.slice none 0 0)]):=by rw [getElem?_set_ne QE];exact XA
  have t9:(oA.set g8.length (.arr 56 [B (decide (a / (gcd a.natAbs b.natAbs:Int)<0)),qn]))[g8.length]?=some (.arr 56 [B (decide (a / (gcd a.natAbs b.natAbs:Int)<0)),qn]):=lC JU
  have Yb:=y9.trans K6
  have Ro:=(kY.mono Yb).eC JU (.arr 56 [B (decide (a / (gcd a.natAbs b.natAbs:Int)<0)),qn])
  have K4:=pv.trans x8
  have kl:=cR.trans x8
  have Yd:EX g8 (oA.set g8.length (.arr 56 [B (decide (a / (gcd a.natAbs b.natAbs:Int)<0)),qn])):=Yb.set (le_refl _) _
  generalize oA.set g8.length (.arr 56 [B (decide (a / (gcd a.natAbs b.natAbs:Int)<0)),qn])=FE at t10 t9 Ro Yd⊢
  rw [ki t10]
  simp only [bc]
  have XX:(FE.set g9.length (.arr 56 [B (decide ((0:Int)<0)),zn]))[g8.length]?=some (.arr 56 [B (decide (a / (gcd a.natAbs b.natAbs:Int)<0)),qn]):=by rw [getElem?_set_ne (λe=>QE e.symm)];exact t9
  have Rp:=Ro.eC t10 (.arr 56 [B (decide ((0:Int)<0)),zn])
  have h89:g8.length<=g9.length:=by have:=(ba s9).1;omega
  have uF:EX g8 (FE.set g9.length (.arr 56 [B (decide ((0:Int)<0)),zn])):=Yd.set h89 _
  generalize FE.set g9.length (.arr 56 [B (decide ((0:Int)<0)),zn])=g12 at XX Rp uF⊢
  rw [G5 (K4.trans uF),er ((kl.trans uF).get s5)]
  simp only [ag]
  refine Ls (G0 (K4.trans uF)) (ig (kl.trans uF)) (xo lb) Qo Hb hdb ?_
  intro rd sd jZ aN ird isd
  simp only [hP,hX,hY,ag]
  have Yf:EX jZ (jZ++[.arr 56 [(.bool false),(.slice none 0 0)]]):=EX.append _ _
  have B7:(jZ++[ax.arr 56 [(.bool false),(.slice none 0 0)]])[jZ.length]?=some (.arr 56 [(.bool false),(.slice none 0 0)]):=bP
  generalize jZ++[ax.arr 56 [(.bool false),(.slice none 0 0)]]=mf at Yf B7⊢
  have K7:EX mf (mf++[.arr 56 [(.bool false),(.slice none 0 0)]]):=EX.append _ _
  have XB:(mf++[ax.arr 56 [(.bool false),(.slice none 0 0)]])[mf.length]?=some (.arr 56 [(.bool false),(.slice none 0 0)]):=bP
  generalize mf++[ax.arr 56 [(.bool false),(.slice none 0 0)]]=Ao at K7 XB⊢
  have JS:=K7.get B7
  obtain ⟨qd,rfl,hqd⟩:=ird
  obtain ⟨zd,rfl,hzd⟩:=isd
  have QA:jZ.length≠mf.length:=by have:=(ba B7).1;omega
  rw [ki JS]
  simp only [bc]
  have X5:=Yf.trans K7
  have t15:(Ao.set jZ.length (.arr 56 [B (decide (b / (gcd a.natAbs b.natAbs:Int)<0)),qd]))[mf.length]?=some (.arr 56 [(.bool false),(.slice none 0 0)]):=by rw [getElem?_set_ne QA];exact XB
  have t14:(Ao.set jZ.length (.arr 56 [B (decide (b / (gcd a.natAbs b.natAbs:Int)<0)),qd]))[jZ.length]?=some (.arr 56 [B (decide (b / (gcd a.natAbs b.natAbs:Int)<0)),qd]):=lC JS
  have Rl:=(hqd.mono X5).eC JS (.arr 56 [B (decide (b / (gcd a.natAbs b.natAbs:Int)<0)),qd])
  have Ye:EX jZ (Ao.set jZ.length (.arr 56 [B (decide (b / (gcd a.natAbs b.natAbs:Int)<0)),qd])):=X5.set (le_refl _) _
  generalize Ao.set jZ.length (.arr 56 [B (decide (b / (gcd a.natAbs b.natAbs:Int)<0)),qd])=FF at t15 t14 Rl Ye⊢
  rw [ki t15]
  simp only [bc]
  have XW:(FF.set mf.length (.arr 56 [B (decide ((0:Int)<0)),zd]))[jZ.length]?=some (.arr 56 [B (decide (b / (gcd a.natAbs b.natAbs:Int)<0)),qd]):=by rw [getElem?_set_ne (λe=>QA e.symm)];exact t14
  have Rn:=Rl.eC t15 (.arr 56 [B (decide ((0:Int)<0)),zd])
  have h13:jZ.length<=mf.length:=by have:=(ba B7).1;omega
  have CC:EX jZ (FF.set mf.length (.arr 56 [B (decide ((0:Int)<0)),zd])):=Ye.set h13 _
  generalize FF.set mf.length (.arr 56 [B (decide ((0:Int)<0)),zd])=g17 at XW Rn CC⊢
  rw [er ((aN.trans CC).get XX),er XW]
  simp only [ag]
  have Yc:=K4.trans (uF.trans (aN.trans CC))
  exact Fg ⟨qn,rfl,Rp.mono (aN.trans CC)⟩ ⟨qd,rfl,Rn⟩ (x0.trans Yc) pQ (Yc.get p2) hk
end
section
theorem Yx {va vb:Value} {a b c d:Int} {h:ae} {K:Value->ae->Prop} (ha:lF h va a b) (hb:lF h vb c d) (la:a.natAbs<dj) (lb:b.natAbs<dj) (lc:c.natAbs<dj) (ld:d.natAbs<dj) (lad:(a*d).natAbs<dj) (b0:0<b*c) (lbc:(b*c).natAbs<4294967296)
  (hk:∀r h',EX h h'->lF h' r (a*d / (gcd (a*d).natAbs (b*c).natAbs:Int)) (b*c / (gcd (a*d).natAbs (b*c).natAbs:Int))->K r h'):aw prog 31 [va,vb] h K:=by
 obtain ⟨u,w,rfl,hu,hw⟩:=ha
 obtain ⟨u2,w2,rfl,hu2,wm⟩:=hb
 refine f31 ?_
 have e1:∀(g:ae) (s t:Bool) (v w:Value),cQ 61 g (.agg #[B s,v,B t,w])=some (pt g.length 0,g++[.arr 61 [B s,v,B t,w]]):=λ_ _ _ _ _=>rfl
 have e3:∀(g:ae),cH 61 [(.bool false),(.slice none 0 0),(.bool false),(.slice none 0 0)] g=some (pt g.length 0,g++[.arr 61 z4]):=λ_=>rfl
 simp only [DD,e1,e3,bc]
 have q0:EX h (h++[.arr 61 [B (decide (a<0)),u,B (decide (b<0)),w]]):=EX.append _ _
 have p0:(h++[ax.arr 61 [B (decide (a<0)),u,B (decide (b<0)),w]])[h.length]?=some (.arr 61 [B (decide (a<0)),u,B (decide (b<0)),w]):=bP
 generalize h++[ax.arr 61 [B (decide (a<0)),u,B (decide (b<0)),w]]=ga at q0 p0⊢
 have q1:EX ga (ga++[.arr 61 [B (decide (c<0)),u2,B (decide (d<0)),w2]]):=EX.append _ _
 have p1:(ga++[ax.arr 61 [B (decide (c<0)),u2,B (decide (d<0)),w2]])[ga.length]?=some (.arr 61 [B (decide (c<0)),u2,B (decide (d<0)),w2]):=bP
 generalize ga++[ax.arr 61 [B (decide (c<0)),u2,B (decide (d<0)),w2]]=gb at q1 p1⊢
 have q2:EX gb (gb++[.arr 61 z4]):=EX.append _ _
 have p2:(gb++[ax.arr 61 z4])[gb.length]?=some (.arr 61 z4):=bP
 generalize gb++[ax.arr 61 z4]=gc at q2 p2⊢
 have k0:=(q1.trans q2).get p0
 have k1:=q2.get p1
 have x0:=q0.trans (q1.trans q2)
 have pQ:h.length<=gb.length:=(q0.trans q1).1
 simp only [kA,zero_add,ag]
 rw [Hd k0,He k1]
 simp only [ag,true_and]
 refine Lq (a:=a) (b:=d) ⟨u,rfl,hu.mono x0⟩ ⟨w2,rfl,wm.mono x0⟩ la ld ?_
 intro r1 g4 x4 i1
 rw [He (x4.get k0),Hd (x4.get k1)]
 simp only [He k0,Hd k1,ag,true_and]
 refine Lq (a:=b) (b:=c) ⟨w,rfl,(hw.mono x0).mono x4⟩ ⟨u2,rfl,(hu2.mono x0).mono x4⟩ lb lc ?_
 intro r2 g5 x5 i2
 refine YI (i1.mono x5) i2 lad b0 lbc ?_
 intro r g6 x6 ir
 have gr:=x4.trans (x5.trans x6)
 have g2:=gr.get p2
 obtain ⟨y,z,rfl,hy,hz⟩:=ir
 exact Fu g2 (hk _ _ ((x0.trans gr).set pQ _) ⟨y,z,rfl,hy.eC g2 _,hz.eC g2 _⟩)
theorem YE {u w:Value} {s:Bool} {b:Nat} {h:ae} {K:Value->ae->Prop} (hw:cS h w b) (lb:b<dj) (hk:∀h',EX h h'->K (B (decide (b=1))) h'):aw prog 45 [.agg #[B s,u,B false,w]] h K:=by
 by_cases h1:b=1
 ·subst h1
  exact Ln hw hk
 rw [bN h1] at hk
 refine f45 ?_
 have e1:cQ 61 h (.agg #[B s,u,B false,w])=some (pt h.length 0,h++[.arr 61 [B s,u,B false,w]]):=rfl
 simp only [yU,e1,bc]
 have x1:EX h (h++[ax.arr 61 [B s,u,B false,w]]):=EX.append _ _
 have l3:af false 1 (h++[ax.arr 61 [B s,u,B false,w]]) (pt h.length 3)=some w:=nO rfl
 obtain ⟨xs,dx,cx,vx⟩:=hw.mono x1
 simp only [kA,zero_add,ag,l3,dx.len,ij]
 by_cases hl:xs.length=1
 ·obtain ⟨y,rfl⟩:∃y,xs=[y]:=by
   match xs,hl with
   | [y],_=>exact ⟨y,rfl⟩
  have hy:y=b:=by simpa [val] using vx
  subst hy
  obtain ⟨i,g1,g2⟩:=dx.get (j:=0) (by simp)
  have oz:aI 1 w (.int .i64 (0))=some (pt i 0):=g1
  rw [cz (show ((([y]:List Nat).length:Nat):Int)=1 from rfl),JA]
  simp only [hI,kA,zero_add,ag,l3,oz,g2,List.getElem_cons_zero,ij]
  rw [bN (show ¬((y:Int)=1) by omega),JB]
  simp only [fh,ag]
  exact hk _ x1
 ·rw [bN (show ¬((xs.length:Int)=1) by omega),JA]
  simp only [jz]
  rw [JB]
  simp only [dO,ag]
  exact hk _ x1
def ue (a b:Int):List UInt8:=if b=1 then fy a else fy a++47::eR b.natAbs
theorem ak1 {a:Int} (la:a.natAbs<dj):(fy a).length<=1001:=by
 have:=(Aa la).2.2.1
 unfold fy
 split <;> simp <;> omega
theorem Yt {va:Value} {a b:Int} {h:ae} {K:Value->ae->Prop} (ha:lF h va a b) (b0:0<b) (la:a.natAbs<dj) (lb:b.natAbs<dj) (hk:∀h',EX h h'->K (.tuple #[S (ue a b),I 0]) h'):aw prog 25 [va] h K:=by
 obtain ⟨u,w,rfl,hu,hw⟩:=ha
 have mI:decide (b<0)=false:=bN (by omega)
 rw [mI]
 refine f25 ?_
 have e1:cQ 61 h (.agg #[B (decide (a<0)),u,B false,w])=some (pt h.length 0,h++[.arr 61 [B (decide (a<0)),u,B false,w]]):=rfl
 simp only [yT,e1,bc]
 have x1:EX h (h++[ax.arr 61 [B (decide (a<0)),u,B false,w]]):=EX.append _ _
 have l1:af false 1 (h++[ax.arr 61 [B (decide (a<0)),u,B false,w]]) (pt h.length 1)=some u:=nO rfl
 have l0:af false 1 (h++[ax.arr 61 [B (decide (a<0)),u,B false,w]]) (pt h.length 0)=some (B (decide (a<0))):=nO rfl
 have g0:(h++[ax.arr 61 [B (decide (a<0)),u,B false,w]])[h.length]?=some (.arr 61 [B (decide (a<0)),u,B false,w]):=bP
 generalize h++[ax.arr 61 [B (decide (a<0)),u,B false,w]]=h1 at x1 l1 l0 g0⊢
 obtain ⟨d1,d2,d3,d4,d5⟩:=Aa la
 obtain ⟨c1,c2,c3,c4,c5⟩:=Aa lb
 simp only [kA,zero_add,add_zero,ag,l1]
 refine CH (hu.mono x1) la ?_
 intro h2 x2
 simp only [gX,ag,fY,bN (show ¬((eR a.natAbs).length:Int)>4000 by omega),cN,EX.load x2 l0]
 have last:wU prog K (pt h.length 0) (S (fy a)) h2:=by
  rw [Ww,Hc (x2.get g0)]
  simp only [ag]
  refine YE ((hw.mono x1).mono x2) lb ?_
  intro h3 x3
  simp only [bL]
  refine ⟨λh9=>?_,λh9=>?_⟩
  ·have e:ue a b=fy a:=by unfold ue;rw [if_pos (by omega)]
   rw [<-e]
   exact hk _ ((x1.trans x2).trans x3)
  ·have l3:af false 1 h3 (pt h.length 3)=some w:=by simp [af,bn,(x2.trans x3).get g0,cU]
   simp only [kA,zero_add,ag,l3]
   refine CH (((hw.mono x1).mono x2).mono x3) lb ?_
   intro h4 x4
   have nl:=ak1 la
   have a1:ai .add (S (fy a)) (.string ⟨#[47]⟩)=some (S (fy a++[47])):=l8 (a:=fy a) (b:=[47]) (by simp [maxLen];omega)
   have a2:ai .add (S (fy a++[47])) (S (eR b.natAbs))=some (S (fy a++[47]++eR b.natAbs)):=l8 (a:=fy a++[47]) (b:=eR b.natAbs) (by simp [maxLen];omega)
   simp only [gX,ag,fY,bN (show ¬((eR b.natAbs).length:Int)>4000 by omega),cN,a1,a2]
   have e:ue a b=fy a++[47]++eR b.natAbs:=by unfold ue;rw [if_neg (by omega)];simp
   rw [<-e]
   exact hk _ ((x1.trans x2).trans (x3.trans x4))
 by_cases mG:a<0
 ·rw [cz mG]
  have:fy a=45::eR a.natAbs:=by unfold fy;rw [if_pos mG]
  have ad:ai .add (.string ⟨#[45]⟩) (S (eR a.natAbs))=some (S (fy a)):=by
   rw [this]
   exact l8 (a:=[45]) (b:=eR a.natAbs) (by simp [maxLen];omega)
  simp only [fD,ad,ag]
  exact last
 ·rw [bN mG]
  have:fy a=eR a.natAbs:=by unfold fy;rw [if_neg mG]
  rw [this] at last
  simp only [cN]
  exact last
end
section
theorem apA {ls:List Nat} {i:Nat} (h:i<ls.length):((ls.take (i+1)).map iO).sum=((ls.take i).map iO).sum+iO ls[i]:=by
 rw [take_succ_eq_append_getElem h]
 simp only [map_append,List.sum_append,map_cons,List.map_nil,List.sum_cons,List.sum_nil,add_zero]
theorem XU {ls:List Nat} (aC:rO ls):(ls.map iO).sum<=512*ls.length:=by
 induction ls with
 | nil=>simp
 | cons l ls ih=>
  have h1:=aC l (by simp)
  have:=(JJ h1.1 h1.2).2
  have:=ih λx hx=>aC x (by simp [hx])
  simp;omega
theorem apz {ls:List Nat} (aC:rO ls) (h0:0<ls.length):0<(ls.map iO).sum:=by
 cases ls with
 | nil=>simp at h0
 | cons l ls=>
  have h1:=aC l (by simp)
  have:=(JJ h1.1 h1.2).1
  simp;omega
theorem aks {ls:List Nat} (aC:rO ls) (i:Nat):rO (ls.take i):=λx hx=>aC x (List.mem_of_mem_take hx)
def wB (s:Nat):List UInt8:=ue ((s:Int) / (gcd s 1024:Int)) ((1024:Int) / (gcd s 1024:Int))
theorem Yl {v:Value} {ls:List Nat} {h:ae} {K:Value->ae->Prop} (hv:NS h v .i64 (ls.map λl:Nat=>(l:Int))) (hl:ls.length<=12) (h0:0<ls.length) (aC:rO ls)
  (hk:∀h',EX h h'->K (.tuple #[S (wB (ls.map iO).sum),I 0]) h'):aw prog 10 [v] h K:=by
 refine f10 (Yv hv (by rw [length_map];omega) ?_)
 simp only [akr hl h0 aC,jW,ag,decide_true,Bool.not_true,cN,hv.pY]
 refine cG (σ:=Nat) (λi=>[I (((ls.take i).map iO).sum:Nat),I i]) (λ_=>h) (λi=>i<=ls.length) (λi=>ls.length-i) 0 rfl rfl (zero_le _) ?_
 intro i hi L hL
 rw [alM]
 simp only [ag,cb,bL]
 refine ⟨λar=>?_,λcY=>?_⟩
 ·have ar:i<ls.length:=by omega
  obtain ⟨b,o,a1,a2⟩:=hv.s7 ar
  have h1:=aC _ (getElem_mem ar)
  have bd:=XU (aks aC i)
  rw [length_take] at bd
  have rp:=JJ h1.1 h1.2
  have w:IntKind.wrap .i64 ((((ls.take i).map iO).sum:Nat)+(iO ls[i]:Nat):Int)=(((ls.take (i+1)).map iO).sum:Nat):=by rw [apA ar,wrap64 (by omega) (by omega)];omega
  simp only [a1,a2,ag]
  refine Yw h1.1 h1.2 ?_
  simp only [cD,w,ag,mP i (by omega),true_and]
  exact hL (i+1) ar (by omega)
 ·have:i=ls.length:=by omega
  subst this
  rw [take_length]
  have sp:=apz aC h0
  have sb:=XU aC
  unfold wB at hk
  generalize (ls.map iO).sum=s at hk sp sb
  have sb:s<=6144:=by omega
  rw [alN]
  refine Li (by omega) (by omega) ?_
  intro r1 g1 x1 q1
  refine Li (by omega) (by omega) ?_
  intro r2 g2 x2 q2
  have qE:∀n:Nat,n<4294967296->n<dj:=λn hn=>Ss (Nat.lt_of_lt_of_le hn (Nat.le_self_pow (by decide) _))
  have e1:((s:Int)*1).natAbs=s:=by omega
  have e2:((1:Int)*1024).natAbs=1024:=rfl
  refine Yx (q1.mono x2) q2 (qE _ (by omega)) (qE _ (by decide)) (qE _ (by decide)) (qE _ (by decide)) (by rw [e1];exact qE _ (by omega)) (by decide) (by decide) ?_
  intro r3 g3 x3 q3
  rw [e1,e2,Int.mul_one,Int.one_mul] at q3
  have gp:0<gcd s 1024:=Nat.gcd_pos_of_pos_left _ sp
  have gle:gcd s 1024<=1024:=Nat.gcd_le_right _ (by decide)
  have d1:(1024:Int) / (gcd s 1024:Int)=((1024 / gcd s 1024:Nat):Int):=rfl
  have d2:(s:Int) / (gcd s 1024:Int)=((s / gcd s 1024:Nat):Int):=rfl
  have p1:0<1024 / gcd s 1024:=Nat.div_pos gle gp
  refine Yt q3 (by rw [d1];omega) (by rw [d2,natAbs_natCast];exact qE _ (Nat.lt_of_le_of_lt (Nat.div_le_self _ _) (by omega))) (by rw [d1,natAbs_natCast];exact qE _ (Nat.lt_of_le_of_lt (Nat.div_le_self _ _) (by decide))) ?_
  intro g4 x4
  simp only [hP,hX,hY,ag]
  exact hk g4 (x1.trans (x2.trans (x3.trans x4)))
end
section
theorem akV {W:List Tx} (nb:uQ W) {a t:Tx} (r:Rc W a t):False:=by
 induction r with
 | @init v w hv hw aU hp=>
  obtain ⟨i,hi,rfl⟩:=getElem_of_mem hv
  obtain ⟨j,hj,rfl⟩:=getElem_of_mem hw
  exact nb i j hi hj (by rintro rfl;exact aU rfl) hp
 | fwd _ _ _ _ ih=>exact ih
 | bwd _ _ _ _ ih=>exact ih
theorem M9 {t:Tx} (h:∀c∈t,c=48∨c=49):kv t=true:=by
 unfold kv
 rw [List.all_eq_true]
 intro c hc
 rcases h c hc with rfl | rfl <;> rfl
variable {W St : List Tx}
theorem Wl (q:fS W):Ok W:=⟨q.p.nd,q.p.ne,q.p.le,λw hw=>M9 (q.p.bt w hw),by have:=q.hi;omega⟩
theorem Wk (q:fS W):W≠[]:=λe=>by have:=q.lo;rw [e] at this;simp at this
theorem Jb (q:fS W):uQ W:=λi j hi hj aU hp=>by
 have e:=q.p.nb _ (getElem_mem hi) _ (getElem_mem hj) hp
 rcases Nat.lt_or_gt_of_ne aU with h | h
 ·exact List.pairwise_iff_getElem.1 q.p.nd i j hi hj h e
 ·exact List.pairwise_iff_getElem.1 q.p.nd j i hj hi h e.symm
theorem alA (q:fS W) (t:Tx):¬uJ W t:=λh=>by
 obtain ⟨t',r,_⟩:=uJ.rc q.p.ne h
 exact akV (Jb q) r
theorem alz (q:fS W):iC W []=0:=aeG (Wl q) (Wk q)
theorem alE (q:fS W) {t:Tx} (hb:∀c∈t,c=48∨c=49) (hl:t.length<=200):iC W t=0:=by
 have ok:=Wl q
 have:=ok.gF
 unfold iC
 rw [if_neg (by omega),if_neg (by simp [Wk q,M9 hb]),if_pos ⟨ok.nd,λw hw=>⟨ok.ne w hw,ok.le w hw,ok.bt w hw⟩⟩]
theorem alC (q:fS W) (p:iB W St) {t:Tx} (hb:∀c∈t,c=48∨c=49):r8 W t t.length=if fX (bV W St) (gN St) 0 (dQ t)=true then 1 else 0:=by
 by_cases c:fX (bV W St) (gN St) 0 (dQ t)=true
 ·rw [if_pos c]
  obtain ⟨x,h1,h2⟩:=(MV q.p p hb).1 c
  exact aob q.p.nd q.p.ne h1 h2 (alA q t)
 ·rw [if_neg c,Xc]
  apply byContradiction
  intro h
  obtain ⟨x,hx⟩:=List.exists_mem_of_length_pos (Nat.pos_of_ne_zero h)
  rw [JL q.p.ne t.length (le_refl _) t.length (le_refl _)] at hx
  rw [take_length] at hx
  exact c ((MV q.p p hb).2 ⟨x,hx.1,hx.2⟩)
theorem akZ:fy ((0:Nat):Int)=[48]:=by decide+kernel
theorem ak0:fy ((1:Nat):Int)=[49]:=by decide+kernel
theorem Sd:wB 1024=[49]:=by decide+kernel
theorem aok {l:Nat} (h:l<=10):iO l=2^(10-l):=by
 unfold iO
 have:l=0∨l=1∨l=2∨l=3∨l=4∨l=5∨l=6∨l=7∨l=8∨l=9∨l=10:=by omega
 rcases this with rfl | rfl | rfl | rfl | rfl | rfl | rfl | rfl | rfl | rfl | rfl <;> rfl
theorem alD (q:fS W):((W.map List.length).map iO).sum=(W.map λw=>2^(10-w.length)).sum:=by
 rw [List.map_map]
 congr 1
 exact List.map_congr_left λw hw=>aok (q.p.le w hw)
theorem alB (q:fS W):rO (W.map List.length):=λl hl=>by
 obtain ⟨w,hw,rfl⟩:=mem_map.1 hl
 exact ⟨List.length_pos_iff.2 (q.p.ne w hw),q.p.le w hw⟩
end
section
variable {W : List Tx} {h0 : ae} {K : Value -> ae -> Prop} {y lv : Value}
theorem J2 {s:Tx} {n:Nat} (h:n<=s.length):gh (S s) none (some (I n))=some (S (s.take n)):=by
 have:=Cc (a:=s) (n:=n) h .i64
 simpa using this
theorem akd {St:List Tx} {v:Value} {g:ae} {i k n:Nat} {L1 L2:List Value->ae->Prop} (sv:SS g lv W) (hv:SS g v St) (hk:k<W.length) (hn:n+1<=W[k].length) (hs:St.length<=50) (hl:W[k].length<=10)
  (hq:Iz prog K y lv v (I i) (I k) (I n) (B (decide (W[k].take (n+1)∈St))) L1 L2 g):
  bM [(.bool false),(.int .i64 (0))] g λL3 xs hx=>BF prog K y lv v (I i) (I k) (I n) L1 L2 L3 xs hx:=by
 refine cG (σ:=Nat) (λj=>[B (decide (W[k].take (n+1)∈St.take j)),I j]) (λ_=>g) (λj=>j<=St.length) (λj=>St.length-j) 0 (by simp) rfl (zero_le _) ?_
 intro j hj L hL
 rw [amJ]
 simp only [hv.len,ag,cb,bL]
 refine ⟨λar=>?_,λcY=>?_⟩
 ·have ar:j<St.length:=by omega
  have nx:=hL (j+1) ar (by show St.length-(j+1)<St.length-j;omega)
  have e:decide (W[k].take (n+1)∈St.take (j+1))=(decide (W[k].take (n+1)∈St.take j)||decide (St[j]=W[k].take (n+1))):=by
   rw [take_succ_eq_append_getElem ar]
   simp only [mem_append,mem_singleton,Bool.decide_or]
   congr 1
   simp [eq_comm]
  rw [e] at nx
  cases hc:decide (W[k].take (n+1)∈St.take j) with
  | true=>
   rw [hc] at nx
   simp only [Bool.true_or] at nx
   simp only [kK,fh,ag,cD,true_and]
   rw [dW j (by simp [maxLen];omega)]
   exact nx
  | false=>
   rw [hc] at nx
   simp only [Bool.false_or] at nx
   obtain ⟨b1,o1,a1,a2⟩:=hv.get j ar
   obtain ⟨b2,o2,c1,c2⟩:=sv.get k hk
   have add:ai .add (I n) (.int .i64 (1))=some (I (n+1:Nat)):=by
    rw [cD,dW n (by simp [maxLen];omega)]
   simp only [gK,a1,a2,c1,c2,ag,add,J2 hn,kN,dO,true_and]
   simp only [cD,ag]
   rw [dW j (by simp [maxLen];omega)]
   exact nx
 ·have:j=St.length:=by omega
  subst this
  rw [take_length]
  exact hq
theorem aps (pb:fS W) (sv:SV h0 lv W)
  (hk:∀St v g,EX h0 g->iB W St->cK h0.length g 9 v (St.map S)->St.length<=50->BG prog K y lv v g):
  OH (bq 9 1 [(.string ⟨#[]⟩)] h0 [(0,1,(.string ⟨#[]⟩))]) λeE h_2=>bM [eE,(.int .i64 (0))] h_2 λL1 xs hx=>IC prog K y lv L1 xs hx:=by
 have mk:bq 9 1 [(.string ⟨#[]⟩)] h0 [(0,1,(.string ⟨#[]⟩))]=some (sl 9 h0.length 0 1,h0++[.arr 9 ([([]:Tx)].map S)]):=by
  simp [bq,fE,dt,setAt,de,bK,Value.cells,S]
 simp only [mk,bc]
 refine cG (σ:=List Tx×Nat×Value×ae) (λq=>[q.2.2.1,I q.2.1]) (λq=>q.2.2.2) (λq=>jE W q.1 q.2.1 0/\q.2.1<=q.1.length/\EX h0 q.2.2.2/\cK h0.length q.2.2.2 9 q.2.2.1 (q.1.map S)) (λq=>50-q.2.1)
  ([[]],0,sl 9 h0.length 0 1,h0++[.arr 9 ([([]:Tx)].map S)]) rfl rfl ⟨jE.start pb,zero_le _,EX.append _ _,.inr ⟨h0.length,le_refl _,rfl,bP⟩⟩ ?_
 rintro ⟨St,i,v,g⟩ ⟨pr,hi,xg,own⟩ L hL
 simp only at pr hi xg own hL⊢
 rw [amS]
 have hss:=HI own
 simp only [hss.len,ag,cb,bL]
 refine ⟨λar=>?_,λcY=>?_⟩
 ·have ar:i<St.length:=by omega
  refine cG (σ:=List Tx×Nat×Value×ae) (λq=>[q.2.2.1,I q.2.1]) (λq=>q.2.2.2) (λq=>jE W q.1 i q.2.1/\i<q.1.length/\q.2.1<=W.length/\EX h0 q.2.2.2/\cK h0.length q.2.2.2 9 q.2.2.1 (q.1.map S)) (λq=>W.length-q.2.1)
   (St,0,v,g) rfl rfl ⟨pr,ar,zero_le _,xg,own⟩ ?_
  rintro ⟨S1,k,v1,g1⟩ ⟨ud,nJ,Q7,x1,lR⟩ L2 eK
  simp only at ud nJ Q7 x1 lR eK⊢
  have gF:=ud.gF pb
  have wh:=pb.hi
  have uu:=(sv.mono x1).ss
  have fO:=HI lR
  rw [amI]
  simp only [uu.len,ag,cb,bL]
  refine ⟨λrh=>?_,λarF=>?_⟩
  ·have rh:k<W.length:=by omega
   have wl:=pb.p.le _ (getElem_mem rh)
   obtain ⟨b1,o1,a1,a2⟩:=fO.get i nJ
   obtain ⟨b2,o2,c1,c2⟩:=uu.get k rh
   have XK:S1[i].length<=10:=by
    obtain ⟨w,w1,w2,w3⟩:=ud.pre _ (getElem_mem nJ)
    have:=pb.p.le _ w1;omega
   have add:ai .add (I S1[i].length) (.int .i64 (1))=some (I (S1[i].length+1:Nat)):=by
    rw [cD,dW _ (by simp [maxLen];omega)]
   have st:=ud.step nJ rh
   have Qe:=st.gF pb
   have es:S1.getD i []=S1[i]:=by rw [getD_eq_getElem?_getD,getElem?_eq_getElem nJ,getD_some]
   have ew:W.getD k []=W[k]:=by rw [getD_eq_getElem?_getD,getElem?_eq_getElem rh,getD_some]
   have next:∀v' g',EX h0 g'->cK h0.length g' 9 v' ((qa W S1 i k).map S)->tZ prog K y lv v' (I i) (I k) L L2 g':=by
    intro v' g' x' wS
    rw [amL]
    simp only [cD,ag,true_and]
    rw [dW k (by simp [maxLen];omega)]
    have:=apr W S1 i k
    exact eK (qa W S1 i k,k+1,v',g') ⟨st,by show i<(qa W S1 i k).length;omega,rh,x',wS⟩ (by show W.length-(k+1)<W.length-k;omega)
   unfold qa at next
   rw [es,ew] at next
   simp only [a1,a2,c1,c2,ag,gX,add,fY,true_and]
   by_cases h1:S1[i].length+1<W[k].length
   ·rw [cz (show ((S1[i].length+1:Nat):Int)<W[k].length by omega)]
    simp only [hI,J2 (show S1[i].length<=W[k].length by omega),ag,kN,fh,bL]
    refine ⟨λh2=>?_,λh2=>?_⟩
    ·rw [if_pos ⟨h1,h2⟩] at next
     refine akd uu fO rh (by omega) (by omega) wl ?_
     rw [amK]
     simp only [jf,ag,uO]
     refine ⟨λh3=>?_,λh3=>?_⟩
     ·rw [if_neg h3] at next
      have rN:(S1.map S).length+1<=51:=by rw [length_map];omega
      simp only [c1,c2,ag,add,J2 (show S1[i].length+1<=W[k].length by omega)]
      refine M1 lR x1 (by omega) (by simp [maxLen];omega) rfl rfl ?_
      intro v' g' x' wS
      refine next v' g' x' ?_
      rw [map_append];exact wS
     ·rw [if_pos h3] at next
      exact next v1 g1 x1 lR
    ·rw [if_neg λc=>h2 c.2] at next
     exact next v1 g1 x1 lR
   ·rw [bN (show ¬((S1[i].length+1:Nat):Int)<W[k].length by omega)]
    rw [if_neg λc=>h1 c.1] at next
    simp only [jz,dO,ag,cN]
    exact next v1 g1 x1 lR
  ·have hkW:k=W.length:=by omega
   subst hkW
   have gF:=ud.gF pb
   rw [amM]
   simp only [cD,ag,true_and]
   rw [dW i (by simp [maxLen];omega)]
   exact hL (S1,i+1,v1,g1) ⟨ud.next,nJ,x1,lR⟩ (by show 50-(i+1)<50-i;omega)
 ·exact hk St v g xg (pr.done (by omega)) own (pr.gF pb)
end
section
structure LL (h:ae) (v:Value) (ll:List (List Nat)):Prop where
 len:aZ v=some (I ll.length)
 get:∀i (hi:i<ll.length),∃b o w,aI 1 v (I i)=some (pt b o)/\af false 1 h (pt b o)=some w/\NS h w .i64 (ll[i].map λi:Nat=>(i:Int))
theorem LL.mono {h h':ae} {v:Value} {ll:List (List Nat)} (x:EX h h') (p:LL h v ll):LL h' v ll:=
 ⟨p.len,λi hi=>let ⟨b,o,w,a,c,d⟩:=p.get i hi;⟨b,o,w,a,EX.load x c,d.mono x⟩⟩
structure BL (h:ae) (v:Value) (bs:List Bool):Prop where
 len:aZ v=some (I bs.length)
 get:∀i (hi:i<bs.length),∃b o,aI 1 v (I i)=some (pt b o)/\af false 1 h (pt b o)=some (B bs[i])
theorem BL.mono {h h':ae} {v:Value} {bs:List Bool} (x:EX h h') (p:BL h v bs):BL h' v bs:=
 ⟨p.len,λi hi=>let ⟨b,o,a,c⟩:=p.get i hi;⟨b,o,a,EX.load x c⟩⟩
structure MB (h:ae) (v:Value) (n k:Nat) (N:List (List Nat)) (G:List Bool):Prop where
 br:gy n k N
 gl:G.length=n
 n1:1<=n
 n6:n<=6
 k1:1<=k
 k3:k<=3
 mem:∃a g,v=.agg #[a,g]/\LL h a N/\BL h g G/\(de a=true/\bK a=[a])/\(de g=true/\bK g=[g])
theorem MB.mono {h h':ae} {v:Value} {n k:Nat} {N:List (List Nat)} {G:List Bool} (x:EX h h') (p:MB h v n k N G):MB h' v n k N G:=
 ⟨p.br,p.gl,p.n1,p.n6,p.k1,p.k3,let ⟨a,g,e,l,b,c,d⟩:=p.mem;⟨a,g,e,l.mono x,b.mono x,c,d⟩⟩
theorem qG {h:ae} {a g:Value} (_:de a=true/\bK a=[a]) (_:de g=true/\bK g=[g]):cQ 28 h (.agg #[a,g])=some (pt h.length 0,h++[.arr 28 [a,g]]):=by
 simp [*,cQ,de,bK]
 exact ⟨rfl,rfl⟩
theorem kR {h:ae} {i:Nat} {e:TypeId} {a g:Value} (hi:h[i]?=some (.arr e [a,g])):af false 1 h (pt i 0)=some a:=by simp [af,bn,hi,cU]
theorem me {h:ae} {i:Nat} {e:TypeId} {a g:Value} (hi:h[i]?=some (.arr e [a,g])):af false 1 h (pt i 1)=some g:=by simp [af,bn,hi,cU]
theorem gM (i o k:Nat):bD k (pt i o)=some (pt i (o+k)):=rfl
theorem abP {e:Nat} {v p:Value} {kd:IntKind} {x:Int} (h:aI e v (I x)=some p):aI e v (.int kd x)=some p:=by
 unfold aI at h
 split at h
 ·rename_i h1
  cases h1
  exact h
 ·cases h
variable {h : ae} {v : Value} {n k : Nat} {N : List (List Nat)} {G : List Bool} {K : Value -> ae -> Prop}
theorem CG (m:MB h v n k N G) (hk:K (B true) h):aw prog 26 [v] h K:=by
 refine vd (fW.dF rfl) (f26 ?_) hk
 obtain ⟨a,g,rfl,hl,hb,ha,hg⟩:=m.mem
 have n1:=m.n1;have n6:=m.n6;have k1:=m.k1;have k3:=m.k3
 unfold Dy
 rw [qG ha hg]
 have x0:EX h (h++[.arr 28 [a,g]]):=EX.append _ _
 have c0:(h++[ax.arr 28 [a,g]])[h.length]?=some (.arr 28 [a,g]):=bP
 generalize h++[ax.arr 28 [a,g]]=h1 at x0 c0⊢
 have mC:=hl.mono x0
 have Az:=hb.mono x0
 have f0:=kR c0
 have f1:=me c0
 have len:=mC.len
 rw [m.br.len] at len
 have Bc:=Az.len
 rw [m.gl] at Bc
 simp only [bc,gM,ag,f0,len,cb,zero_add]
 rw [bN (show ¬(n:Int)<1 by omega),amg]
 simp only [gK,fY,ag]
 rw [bN (show ¬(6:Int)<n by omega),amh]
 simp only [dO,ag]
 rw [al7]
 simp only [gK,gM,ag,f1,Bc,jW,decide_true,Bool.not_true,zero_add]
 rw [al8]
 obtain ⟨b0,o0,w0,r1,r2,r3⟩:=mC.get 0 (by rw [m.br.len];omega)
 have xd:aI 1 a (.int .i64 (0))=some (pt b0 o0):=r1
 have lw:=r3.pY
 rw [m.br.row 0 _] at lw
 simp only [dO,ag,cN,gM,f0,xd,r2,lw,cb,zero_add]
 rw [bN (show ¬(k:Int)<1 by omega),al9]
 simp only [gK,fY,ag]
 rw [bN (show ¬(3:Int)<k by omega),ama]
 simp only [dO,ag,cN,gM,f0,len,zero_add]
 refine cG (σ:=Nat) (λi=>[I i]) (λ_=>h1) (λi=>i<=n) (λi=>n-i) 0 rfl rfl (zero_le _) ?_
 intro i hi L hL
 rw [amb]
 simp only [cb,ag,bL]
 refine ⟨λar=>?_,λ_=>⟨trivial,x0⟩⟩
 have ar:i<n:=by omega
 have q9:i<N.length:=by rw [m.br.len];exact ar
 obtain ⟨b,o,w,s1,s2,s3⟩:=mC.get i q9
 have Sv:=s3.pY
 have eT:=m.br.row i q9
 rw [eT] at Sv
 have iI:∀x∈(N[i].map λi:Nat=>(i:Int)),0<=x/\x<n:=by
  intro x hx
  obtain ⟨y,hy,rfl⟩:=mem_map.1 hx
  have:=m.br.ma i q9 y hy
  omega
 simp only [s1,s2,ag,Sv,jW,decide_true,Bool.not_true]
 rw [amc]
 simp only [gK]
 refine Lo s3 (by rw [length_map,eT];omega) (by rw [length_map,eT];omega) ?_
 intro mn hmn _
 simp only [cb,ag]
 rw [bN (show ¬mn<0 by have:=(iI _ hmn).1;omega),amd]
 simp only [dO,ag]
 rw [ame]
 simp only [gK]
 refine Lp s3 (by rw [length_map,eT];omega) (by rw [length_map,eT];omega) ?_
 intro mx hmx _
 simp only [lG,ag]
 rw [bN (show ¬(n:Int)<=mx by have:=(iI _ hmx).2;omega),amf]
 simp only [dO,ag,cN,cD,true_and]
 rw [dW i (by simp [maxLen];omega)]
 exact hL (i+1) ar (by show n-(i+1)<n-i;omega)
def Cr (k:Nat) (w:List UInt8):Prop:=∀c∈w,97<=c.toNat/\c.toNat<97+k
def iQ (w:List UInt8):List Nat:=w.map λc=>c.toNat-97
theorem XS {c:UInt8} (h:97<=c.toNat):ai .sub (cv c) (.int .u8 97)=some (.int .u8 ((c.toNat-97:Nat):Int)):=by
 have hc:=c.toNat_lt
 show ai .sub (.int .u8 (c.toNat:Int)) (.int .u8 97)=_
 rw [ku]
 have:IntKind.wrap .u8 ((c.toNat:Int)-97)=((c.toNat-97:Nat):Int):=by
  rw [Cv (by omega) (by omega)];omega
 rw [this]
theorem Ha {w:List UInt8} {i:Nat} (hi:i<w.length):ja (S w) (I i)=some (cv w[i]):=GU w hi .i64
theorem Yp {w:List UInt8} (m:MB h v n k N G) (hw:Cr k w) (hl:w.length<=200) (hk:K (I 0) h):aw prog 19 [v,S w] h K:=by
 refine vd (fW.dF rfl) (f19 ?_) hk
 obtain ⟨a,g,e,kU,hb,ha,hg⟩:=m.mem
 subst e
 have k3:=m.k3;have n1:=m.n1
 unfold Dt
 rw [qG ha hg]
 have x0:EX h (h++[.arr 28 [a,g]]):=EX.append _ _
 have c0:(h++[ax.arr 28 [a,g]])[h.length]?=some (.arr 28 [a,g]):=bP
 generalize h++[ax.arr 28 [a,g]]=h1 at x0 c0⊢
 simp only [bc,er c0,ag]
 refine CG (m.mono x0) ?_
 have mC:=kU.mono x0
 simp only [jf,Bool.not_true,ag,cN,gX,fY]
 rw [bN (show ¬(200:Int)<w.length by omega)]
 simp only [cN]
 refine cG (σ:=Nat) (λi=>[I i]) (λ_=>h1) (λi=>i<=w.length) (λi=>w.length-i) 0 rfl rfl (zero_le _) ?_
 intro i hi L hL
 rw [al3]
 simp only [cb,ag,bL]
 refine ⟨λar=>?_,λ_=>⟨trivial,x0⟩⟩
 have ar:i<w.length:=by omega
 obtain ⟨c1,c2⟩:=hw _ (getElem_mem ar)
 have hc:=(w[i]).toNat_lt
 have e1:ai .lss (cv w[i]) (.int .u8 97)=some (B false):=by
  show ai .lss (.int .u8 ((w[i]).toNat:Int)) (.int .u8 97)=_
  rw [cb,bN (by omega)]
 obtain ⟨b0,o0,w0,r1,r2,r3⟩:=mC.get 0 (by rw [m.br.len];omega)
 have xd:aI 1 a (.int .i64 (0))=some (pt b0 o0):=r1
 have lw:=r3.pY
 rw [m.br.row 0 _] at lw
 simp only [Ha ar,ag,e1,gK,XS c1,jX,gM,zero_add,kR c0,xd,r2,lw,lG,true_and]
 rw [wrap64 (by omega) (by omega),bN (show ¬(k:Int)<=(((w[i]).toNat-97:Nat):Int) by omega)]
 simp only [dO,ag,cN,cD]
 rw [dW i (by simp [maxLen];omega)]
 exact hL (i+1) ar (by show w.length-(i+1)<w.length-i;omega)
theorem Yq {w:List UInt8} {s:Nat} (m:MB h v n k N G) (hs:s<n) (hw:Cr k w) (hl:w.length<=200) (hk:K (I (cg N s (iQ w))) h):aw prog 20 [v,I s,S w] h K:=by
 refine vd (fW.dF rfl) (f20 ?_) hk
 obtain ⟨a,g,e,kU,hb,ha,hg⟩:=m.mem
 subst e
 have k3:=m.k3;have n1:=m.n1
 unfold Du
 rw [qG ha hg]
 have x0:EX h (h++[.arr 28 [a,g]]):=EX.append _ _
 have c0:(h++[ax.arr 28 [a,g]])[h.length]?=some (.arr 28 [a,g]):=bP
 generalize h++[ax.arr 28 [a,g]]=h1 at x0 c0⊢
 have mC:=kU.mono x0
 simp only [bc,gX,ag]
 refine cG (σ:=Nat) (λi=>[I (cg N s (iQ (w.take i))),I i]) (λ_=>h1) (λi=>i<=w.length) (λi=>w.length-i) 0 rfl rfl (zero_le _) ?_
 intro i hi L hL
 rw [al5]
 simp only [cb,ag,bL]
 have wl:∀x∈iQ (w.take i),x<k:=by
  intro x hx
  obtain ⟨c,hc,rfl⟩:=mem_map.1 hx
  have:=hw c (List.mem_of_mem_take hc)
  omega
 have rl:=m.br.uh hs wl
 refine ⟨λar=>?_,λcY=>?_⟩
 ·have ar:i<w.length:=by omega
  obtain ⟨c1,c2⟩:=hw _ (getElem_mem ar)
  have q9:cg N s (iQ (w.take i))<N.length:=by rw [m.br.len];exact rl
  obtain ⟨b0,o0,w0,r1,r2,r3⟩:=mC.get _ q9
  have eT:=m.br.row _ q9
  obtain ⟨b1,o1,s1,s2⟩:=r3.s7 (i:=(w[i]).toNat-97) (by rw [eT];omega)
  have sj:aI 1 w0 (.int .u8 (((w[i]).toNat-97:Nat):Int))=some (pt b1 o1):=abP s1
  simp only [gM,ag,kR c0,r1,r2,Ha ar,XS c1,sj,s2,zero_add,true_and,cD]
  rw [dW i (by simp [maxLen];omega)]
  have e2:cg N s (iQ (w.take (i+1)))=(N[cg N s (iQ (w.take i))])[(w[i]).toNat-97]'(by rw [eT];omega):=by
   have e4:iQ (w.take (i+1))=iQ (w.take i)++[(w[i]).toNat-97]:=by
    rw [take_succ_eq_append_getElem ar]
    exact map_append
   rw [e4,pc]
   have e3:N.getD (cg N s (iQ (w.take i))) []=N[cg N s (iQ (w.take i))]:=by rw [getD_eq_getElem?_getD,getElem?_eq_getElem q9,getD_some]
   show (N.getD (cg N s (iQ (w.take i))) []).getD ((w[i]).toNat-97) 0=_
   rw [e3,getD_eq_getElem?_getD,getElem?_eq_getElem (by rw [eT];omega),getD_some]
  have:=hL (i+1) ar (by show w.length-(i+1)<w.length-i;omega)
  rw [e2] at this
  exact this
 ·rw [al4,List.take_of_length_le (by omega)]
  exact ⟨rfl,x0⟩
theorem C7 {w:List UInt8} (m:MB h v n k N G) (hw:Cr k w) (hl:w.length<=200) (hk:K (.tuple #[B (fX N G 0 (iQ w)),I 0]) h):aw prog 7 [v,S w] h K:=by
 refine vd (fW.tuple (l:=[λ_=>B (fX N G 0 (iQ w)),λ_=>I 0]) (.cons (fW.dF rfl) (.cons (fW.dF rfl) .nil))) (f7 ?_) hk
 obtain ⟨a,g,e,kU,hb,ha,hg⟩:=m.mem
 subst e
 have n1:=m.n1
 unfold T7
 rw [qG ha hg]
 have x0:EX h (h++[.arr 28 [a,g]]):=EX.append _ _
 have c0:(h++[ax.arr 28 [a,g]])[h.length]?=some (.arr 28 [a,g]):=bP
 generalize h++[ax.arr 28 [a,g]]=h1 at x0 c0⊢
 simp only [bc,er c0,ag]
 refine Yp (m.mono x0) hw hl ?_
 simp only [jW,ag,decide_true,Bool.not_true,cN,gM,zero_add,me c0,er c0,true_and]
 refine Yq (s:=0) (m.mono x0) (by omega) hw hl ?_
 have rl:cg N 0 (iQ w)<n:=m.br.uh (by omega) λx hx=>by
  obtain ⟨c,hc,rfl⟩:=mem_map.1 hx
  have:=hw c hc
  omega
 have rg:cg N 0 (iQ w)<G.length:=by rw [m.gl];exact rl
 obtain ⟨b,o,s1,s2⟩:=(hb.mono x0).get _ rg
 have e:fX N G 0 (iQ w)=G[cg N 0 (iQ w)]:=by
  unfold fX
  rw [getD_eq_getElem?_getD,getElem?_eq_getElem rg,getD_some]
 simp only [me c0,s1,s2,ag,true_and,e]
 exact x0
end
end Go.Proofs.YtncaiogfjjepcaaGreatDoor
namespace Go.Sim
section
def dG (D:List (List Bool)) (i j:Nat):Bool:=(D.getD i []).getD j true
def Sq (n:Nat) (D:List (List Bool)):Prop:=D.length=n/\∀i (hi:i<D.length),D[i].length=n
def mV (D:List (List Bool)) (i j:Nat):List (List Bool):=D.set i ((D.getD i []).set j true)
def gj (n:Nat) (G:List Bool):List (List Bool):=(List.range n).map λi=>(List.range n).map λj=> !decide (G.getD i false=G.getD j false)
theorem Sq.row {n:Nat} {D:List (List Bool)} (q:Sq n D) {i:Nat} (hi:i<n):D[i]?=some (D.getD i [])/\(D.getD i []).length=n:=by
 have h1:i<D.length:=by rw [q.1];exact hi
 have e:D.getD i []=D[i]:=by rw [getD_eq_getElem?_getD,getElem?_eq_getElem h1,getD_some]
 rw [e]
 exact ⟨getElem?_eq_getElem h1,q.2 i h1⟩
theorem Sq.set {n:Nat} {D:List (List Bool)} (q:Sq n D) {i j:Nat} (hi:i<n):Sq n (mV D i j):=by
 refine ⟨by unfold mV;rw [length_set];exact q.1,λk hk=>?_⟩
 unfold mV at hk⊢
 rw [length_set] at hk
 rw [List.getElem_set]
 split
 ·rw [length_set];exact (q.row hi).2
 ·exact q.2 k hk
theorem zY {n:Nat} {D:List (List Bool)} (q:Sq n D) {i j a b:Nat} (hi:i<n) (hj:j<n):dG (mV D i j) a b=if a=i/\b=j then true else dG D a b:=by
 have h1:i<D.length:=by rw [q.1];exact hi
 have hl:=(q.row hi).2
 unfold dG mV
 by_cases ha:a=i
 ·subst ha
  have e:(D.set a ((D.getD a []).set j true)).getD a []=(D.getD a []).set j true:=by
   rw [getD_eq_getElem?_getD,getElem?_set_self h1,getD_some]
  rw [e]
  by_cases hb:b=j
  ·subst hb
   rw [if_pos ⟨rfl,rfl⟩,getD_eq_getElem?_getD,getElem?_set_self (by omega),getD_some]
  ·rw [if_neg λc=>hb c.2,getD_eq_getElem?_getD,getElem?_set_ne (λc=>hb c.symm),<-getD_eq_getElem?_getD]
 ·rw [if_neg λc=>ha c.1]
  have e:(D.set i ((D.getD i []).set j true)).getD a []=D.getD a []:=by
   rw [getD_eq_getElem?_getD,getElem?_set_ne (λc=>ha c.symm),getD_eq_getElem?_getD]
  rw [e]
theorem ai3 (n:Nat) (G:List Bool):Sq n (gj n G):=by
 refine ⟨by simp [gj],λi hi=>?_⟩
 simp [gj]
theorem RU {n:Nat} {G:List Bool} {i j:Nat} (hi:i<n) (hj:j<n):dG (gj n G) i j= !decide (G.getD i false=G.getD j false):=by
 unfold dG gj
 have e:((List.range n).map λi=>(List.range n).map λj=> !decide (G.getD i false=G.getD j false)).getD i []=(List.range n).map λj=> !decide (G.getD i false=G.getD j false):=by
  rw [getD_eq_getElem?_getD,getElem?_map,List.getElem?_range hi];rfl
 rw [e,getD_eq_getElem?_getD,getElem?_map,List.getElem?_range hj];rfl
def qJ (n:Nat) (D:List (List Bool)):Nat:=((List.range n).map λi=>((List.range n).map λj=>if dG D i j then 0 else 1).sum).sum
theorem J0 {f g:Nat->Nat}:∀{l:List Nat},(∀x∈l,f x<=g x)->(l.map f).sum<=(l.map g).sum
 | [],_=>le_refl _
 | a::l,h=>by
  have:=J0 (l:=l) λx hx=>h x (List.mem_cons_of_mem _ hx)
  have:=h a List.mem_cons_self
  simp only [map_cons,List.sum_cons];omega
theorem J1 {f g:Nat->Nat}:∀{l:List Nat},(∀x∈l,f x<=g x)->(∃x∈l,f x<g x)->(l.map f).sum<(l.map g).sum
 | [],_,h=>by obtain ⟨x,hx,_⟩:=h;cases hx
 | a::l,h,h2=>by
  obtain ⟨x,hx,ar⟩:=h2
  have h1:=h a List.mem_cons_self
  have hl:∀x∈l,f x<=g x:=λx hx=>h x (List.mem_cons_of_mem _ hx)
  simp only [map_cons,List.sum_cons]
  rcases List.mem_cons.1 hx with rfl | hx
  ·have:=J0 hl;omega
  ·have:=J1 hl ⟨x,hx,ar⟩;omega
theorem aeH {n:Nat} {D:List (List Bool)} (q:Sq n D) {i j:Nat} (hi:i<n) (hj:j<n) (h:dG D i j=false):qJ n (mV D i j)<qJ n D:=by
 have key:∀a b,(if dG (mV D i j) a b then 0 else 1)<=(if dG D a b then 0 else 1):=by
  intro a b
  rw [zY q hi hj]
  by_cases c:a=i/\b=j
  ·rw [if_pos c];exact zero_le _
  ·rw [if_neg c];exact le_refl _
 refine J1 (λa _=>J0 λb _=>key a b) ⟨i,List.mem_range.2 hi,J1 (λb _=>key i b) ⟨j,List.mem_range.2 hj,?_⟩⟩
 have e:dG (mV D i j) i j=true:=by rw [zY q hi hj];simp
 rw [e,h];decide
structure DI (n k:Nat) (N:List (List Nat)) (G:List Bool) (D:List (List Bool)):Prop where
 sq:Sq n D
 g:∀i j,i<n->j<n->dG D i j=false->G.getD i false=G.getD j false
 r:∀i,i<n->dG D i i=false
theorem DI.start (n k:Nat) (N:List (List Nat)) (G:List Bool):DI n k N G (gj n G) where
 sq:=ai3 n G
 g:=by
  intro i j hi hj h
  rw [RU hi hj] at h
  simpa using h
 r:=λi hi=>by rw [RU hi hi];simp
theorem DI.step {n k:Nat} {N:List (List Nat)} {G:List Bool} {D:List (List Bool)} (p:DI n k N G D) (b:gy n k N) {i j a:Nat} (hi:i<n) (hj:j<n) (ha:a<k) (h:dG D i j=false) (hd:dG D (bS N i a) (bS N j a)=true):
  DI n k N G (mV D i j) where
 sq:=p.sq.set hi
 g:=by
  intro x y hx hy h'
  rw [zY p.sq hi hj] at h'
  by_cases c:x=i/\y=j
  ·rw [if_pos c] at h';cases h'
  ·rw [if_neg c] at h';exact p.g x y hx hy h'
 r:=by
  intro x hx
  rw [zY p.sq hi hj]
  by_cases c:x=i/\x=j
  ·exfalso
   obtain ⟨rfl,rfl⟩:=c
   rw [p.r _ (b.kG hi ha)] at hd
   cases hd
  ·rw [if_neg c];exact p.r x hx
end
end Go.Sim
namespace Go.Proofs.YtncaiogfjjepcaaGreatDoor
open Go.Sim
section
structure ML (g:ae) (v:Value) (D:List (List Bool)):Prop where
 len:aZ v=some (I D.length)
 get:∀i (hi:i<D.length),∃b o w,aI 1 v (I i)=some (pt b o)/\af false 1 g (pt b o)=some w/\BL g w D[i]
theorem ML.mono {h h':ae} {v:Value} {D:List (List Bool)} (x:EX h h') (p:ML h v D):ML h' v D:=
 ⟨p.len,λi hi=>let ⟨b,o,w,a,c,d⟩:=p.get i hi;⟨b,o,w,a,EX.load x c,d.mono x⟩⟩
theorem ML.at {g:ae} {v:Value} {D:List (List Bool)} {n i j:Nat} (p:ML g v D) (q:Sq n D) (hi:i<n) (hj:j<n):∃b o w b2 o2,aI 1 v (I i)=some (pt b o)/\af false 1 g (pt b o)=some w/\aI 1 w (I j)=some (pt b2 o2)/\af false 1 g (pt b2 o2)=some (B (dG D i j)):=by
 have dE:i<D.length:=by rw [q.1];exact hi
 obtain ⟨b,o,w,a1,a2,a3⟩:=p.get i dE
 have dH:j<D[i].length:=by rw [q.2 i dE];exact hj
 obtain ⟨b2,o2,c1,c2⟩:=a3.get j dH
 refine ⟨b,o,w,b2,o2,a1,a2,c1,?_⟩
 have e:dG D i j=D[i][j]:=by
  have e1:D.getD i []=D[i]:=by rw [getD_eq_getElem?_getD,getElem?_eq_getElem dE,getD_some]
  unfold dG
  rw [e1,getD_eq_getElem?_getD,getElem?_eq_getElem dH,getD_some]
 rw [e];exact c2
variable {h g : ae} {n : Nat} {K : Value -> ae -> Prop} {D : List (List Bool)}
theorem YH {s t db sb:Nat} {v:Value} (hd:af false 1 g (pt db 0)=some v) (hs:af false 1 g (pt sb 0)=some (I s)) (m:ML g v D) (q:Sq n D) (s1:s<n) (t1:t<n) (hk:K (B (!dG D s t)) g):aw prog 50 [I t,pt db 0,pt sb 0] g K:=by
 refine f50 ?_
 unfold DR
 obtain ⟨b,o,w,b2,o2,a1,a2,a3,a4⟩:=m.at q s1 t1
 simp only [hd,hs,ag,a1,a2,a3,a4,jf]
 exact hk
theorem YG {v f:Value} {S:List Nat} {p:Nat->Bool} (hv:NS g v .i64 (S.map λi:Nat=>(i:Int))) (hl:S.length<=1000) (hf:∀t∈S,∀{K:Value->ae->Prop},K (B (p t)) g->nj prog f [I t] g K)
  (lg:∀j (hj:j<S.length),p S[j]=true->(∀j' (dH:j'<S.length),j'<j->p S[j']=false)->K (I j) g) (cL:(∀j (hj:j<S.length),p S[j]=false)->K (I (-1)) g):aw prog 49 [v,f] g K:=by
 refine f49 ?_
 unfold DQ
 simp only [hv.pY,ag]
 refine cG (σ:=Nat) (λi=>[I i]) (λ_=>g) (λi=>i<=S.length/\∀j' (dH:j'<S.length),j'<i->p S[j']=false) (λi=>S.length-i) 0 rfl rfl ⟨zero_le _,λ_ _ h=>by omega⟩ ?_
 rintro i ⟨hi,hp⟩ L hL
 rw [ano]
 simp only [cb,ag,bL]
 refine ⟨λar=>?_,λcY=>cL λj hj=>hp j hj (by omega)⟩
 have ar:i<S.length:=by omega
 obtain ⟨b,o,a1,a2⟩:=hv.s7 ar
 simp only [a1,a2,ag]
 refine hf _ (getElem_mem ar) ?_
 cases hc:p S[i] with
 | true=>
  simp only [fD]
  exact lg i ar hc hp
 | false=>
  simp only [cN,cD,ag,true_and]
  rw [dW i (by simp [maxLen];omega)]
  refine hL (i+1) ⟨ar,λj' dH h'=>?_⟩ (by show S.length-(i+1)<S.length-i;omega)
  rcases Nat.lt_succ_iff_lt_or_eq.1 h' with h' | h'
  ·exact hp j' dH h'
  ·subst h';exact hc
theorem YF {s sb db b:Nat} {v vs:Value} {S:List Nat} (hd:af false 1 g (pt db 0)=some v) (m:ML g v D) (q:Sq n D) (s1:s<n) (hS:∀t∈S,t<n) (hl:S.length<=100) (_:b<=g.length)
  (mI:g[sb]?=some (.arr 29 [vs])) (own:cK b g 3 vs (S.map λx:Nat=>I x))
  (ef:∀j (hj:j<S.length),dG D s S[j]=false->∀g',EX g g'->K (I j) g')
  (gf:(∀j (hj:j<S.length),dG D s S[j]=true)->∀v' g',(∀d,d<g.length->d≠sb->(∀k,vs≠sl 3 d 0 k)->g'[d]?=g[d]?)->g.length<=g'.length->g'[sb]?=some (.arr 29 [v'])->cK g.length g' 3 v' ((S++[s]).map λx:Nat=>I x)->K (I S.length) g'):
  aw prog 48 [I s,pt sb 0,pt db 0] g K:=by
 refine f48 ?_
 unfold DP
 have e1:cQ 3 g (I s)=some (pt g.length 0,g++[.arr 3 [I s]]):=rfl
 simp only [e1,bc]
 have x1:EX g (g++[.arr 3 [I s]]):=EX.append _ _
 have c1:(g++[ax.arr 3 [I s]])[g.length]?=some (.arr 3 [I s]):=bP
 have akq:(g++[ax.arr 3 [I s]]).length=g.length+1:=by simp
 generalize g++[ax.arr 3 [I s]]=g1 at x1 c1 akq⊢
 have ls:af false 1 g1 (pt g.length 0)=some (I s):=tU (by simp [bn,c1])
 have rR:af false 1 g1 (pt sb 0)=some vs:=tU (by simp [bn,x1.get mI])
 have ld:=EX.load x1 hd
 have lR:cK b g1 3 vs (S.map λx:Nat=>I x):=own.cI λd k hv _=>x1.2 d (own.lt hv).2.1
 have pR:NS g1 vs .i64 (S.map λi:Nat=>(i:Int)):=by
  exact Bv lR (by omega)
 simp only [rR,ag]
 refine YG (p:=λt=> !dG D s t) pR (by omega) (λt ht=>?_) (λj hj hp _=>?_) (λgP=>?_)
 ·intro K hk
  refine PQ (by kernel_rfl) ?_
  show aw prog 50 [I t,pt db 0,pt g.length 0] g1 K
  exact YH ld ls (m.mono x1) q s1 (hS t ht) hk
 ·simp only [cb,ag]
  rw [bN (show ¬(j:Int)<0 by omega)]
  simp only [cN]
  rw [WY]
  exact ef j hj (by simpa using hp) g1 x1
 ·simp only [cb,ag]
  have en:decide ((-1:Int)<0)=true:=rfl
  rw [en]
  have hlen:aZ vs=some (I S.length):=by rw [alp lR,length_map]
  simp only [fD,rR,ls,ag,hlen]
  refine yW lR (by simp;omega) (by simp [maxLen];omega) rfl rfl ?_
  intro _ g2 _ arJ Ri ahL
  have Rq:g1[sb]?=some (.arr 29 [vs]):=x1.get mI
  have ar:=(ba mI).1
  have Rs:g2[sb]?=some (.arr 29 [vs]):=by
   rw [Ri sb (by omega) λk hv=>?_]
   ·exact Rq
   ·have:=(lR.lt hv).2.2
    rw [Rq] at this
    cases this
  simp only [bc,lU Rs (show 0<[vs].length by simp) (show de (sl 3 (g1.length+1) 0 ((S.map λx:Nat=>I x).length+1))=true from rfl) (show bK (sl 3 (g1.length+1) 0 ((S.map λx:Nat=>I x).length+1))=[sl 3 (g1.length+1) 0 ((S.map λx:Nat=>I x).length+1)] from rfl)]
  rw [WY]
  have mD:=(ba Rs).1
  refine gf (λj hj=>by have:=gP j hj;simpa using this) (sl 3 (g1.length+1) 0 ((S.map λx:Nat=>I x).length+1)) _ (λd hd aU wg=>?_) (by rw [length_set];omega) ?_ (.inr ⟨g1.length+1,?_,by simp,?_⟩)
  ·rw [getElem?_set_ne (Ne.symm aU),Ri d (by omega) wg,x1.2 d hd]
  ·rw [getElem?_set_self mD];rfl
  ·omega
  ·rw [getElem?_set_ne (by omega),ahL]
   simp
end
section
def ug (n r:Nat):Value:=sl 4 r 0 n
structure MX (h:ae) (ib ir im id:Nat) (a gg:Value) (n:Nat) (R:List Nat) (D:List (List Bool)) (g:ae):Prop where
 ex:EX h g
 hb:g[ib]?=some (.arr 28 [a,gg])
 hr:g[ir]?=some (.arr 28 [.slice none 0 0,.slice none 0 0])
 hd:g[id]?=some (.arr 86 [sl 26 im 0 n])
 hm:g[im]?=some (.arr 26 (R.map (ug n)++replicate (n-R.length) (.slice none 0 0)))
 rl:R.length=D.length
 rn:R.length<=n
 row:∀i (hi:i<R.length),g[R[i]]?=some (.arr 4 ((D.getD i []).map B))
 dl:∀i,i<R.length->(D.getD i []).length=n
 nd:R.Nodup
 lo:∀r∈R,id<r
 o1:h.length<=ib
 o2:ib<ir
 o3:ir<im
 o4:im<id
variable {h g : ae} {ib ir im id n : Nat} {a gg : Value} {R : List Nat} {D : List (List Bool)}
theorem MX.push {g':ae} (m:MX h ib ir im id a gg n R D g) (x:EX g g'):MX h ib ir im id a gg n R D g':=
 ⟨m.ex.trans x,x.get m.hb,x.get m.hr,x.get m.hd,x.get m.hm,m.rl,m.rn,λi hi=>x.get (m.row i hi),m.dl,m.nd,m.lo,m.o1,m.o2,m.o3,m.o4⟩
theorem MX.store (m:MX h ib ir im id a gg n R D g) {i j:Nat} (hi:i<R.length) (hj:j<n) (x:Bool):
  ∃g',bE 1 g (pt R[i] j) (B x)=some (undef,g')/\MX h ib ir im id a gg n R (D.set i ((D.getD i []).set j x)) g'/\g'.length=g.length:=by
 have eT:=m.row i hi
 have pM:=m.dl i hi
 have dX:=m.lo _ (getElem_mem hi)
 have o1:=m.o1;have o2:=m.o2;have o3:=m.o3;have o4:=m.o4
 have ar:=(ba eT).1
 have QF:i<D.length:=by rw [<-m.rl];exact hi
 refine ⟨g.set R[i] (.arr 4 (((D.getD i []).set j x).map B)),?_,⟨?_,?_,?_,?_,?_,?_,m.rn,?_,?_,m.nd,m.lo,o1,o2,o3,o4⟩,by rw [length_set]⟩
 ·have:=lU eT (o:=j) (v:=B x) (by rw [length_map,pM];exact hj) rfl rfl
  rw [this,<-List.map_set]
 ·exact ⟨by rw [length_set];exact m.ex.1,λd hd=>by rw [getElem?_set_ne (by omega)];exact m.ex.2 d hd⟩
 ·rw [getElem?_set_ne (by omega)];exact m.hb
 ·rw [getElem?_set_ne (by omega)];exact m.hr
 ·rw [getElem?_set_ne (by omega)];exact m.hd
 ·rw [getElem?_set_ne (by omega)];exact m.hm
 ·rw [length_set];exact m.rl
 ·intro k hk
  by_cases c:k=i
  ·subst c
   have e:(D.set k ((D.getD k []).set j x)).getD k []=(D.getD k []).set j x:=by rw [getD_eq_getElem?_getD,getElem?_set_self QF,getD_some]
   rw [getElem?_set_self ar,e]
  ·have aU:R[i]≠R[k]:=λe=>by
    rcases Nat.lt_or_gt_of_ne c with c' | c'
    ·exact (List.pairwise_iff_getElem.1 m.nd) k i hk hi c' e.symm
    ·exact (List.pairwise_iff_getElem.1 m.nd) i k hi hk c' e
   rw [getElem?_set_ne aU,getD_eq_getElem?_getD,getElem?_set_ne (Ne.symm c),<-getD_eq_getElem?_getD]
   exact m.row k hk
 ·intro k hk
  by_cases c:k=i
  ·subst c
   rw [getD_eq_getElem?_getD,getElem?_set_self QF,getD_some,length_set]
   exact pM
  ·rw [getD_eq_getElem?_getD,getElem?_set_ne (Ne.symm c),<-getD_eq_getElem?_getD]
   exact m.dl k hk
theorem MX.ld (m:MX h ib ir im id a gg n R D g):af false 1 g (pt id 0)=some (sl 26 im 0 n):=tU (by simp [bn,m.hd])
theorem MX.at (m:MX h ib ir im id a gg n R D g) {i:Nat} (hi:i<R.length):aI 1 (sl 26 im 0 n) (I i)=some (pt im i)/\af false 1 g (pt im i)=some (sl 4 R[i] 0 n):=by
 have:=m.rn
 refine ⟨by simp [aI,sl];omega,?_⟩
 simp [af,bn,m.hm,cU,getElem?_append_left,hi,ug]
theorem MX.ml (m:MX h ib ir im id a gg n R D g) (hn:R.length=n):ML g (sl 26 im 0 n) D/\Sq n D:=by
 have QG:D.length=n:=by rw [<-m.rl];exact hn
 have gd:∀i (hi:i<D.length),D.getD i []=D[i]:=λi hi=>by rw [getD_eq_getElem?_getD,getElem?_eq_getElem hi,getD_some]
 refine ⟨⟨by rw [QG];rfl,λi hi=>?_⟩,QG,λi hi=>?_⟩
 ·obtain ⟨p1,p2⟩:=m.at (show i<R.length by omega)
  have hl:=m.dl i (by omega)
  have hr:=m.row i (by omega)
  rw [gd i hi] at hl hr
  refine ⟨im,i,_,p1,p2,by rw [hl];rfl,λj hj=>⟨R[i]'(by omega),j,by simp [aI,sl];omega,?_⟩⟩
  simp [af,bn,hr,cU,hj]
 ·have hl:=m.dl i (by omega)
  rwa [gd i hi] at hl
theorem MX.new (m:MX h ib ir im id a gg n R D g) (hl:R.length<n):
  ∃g',bE 1 (g++[.arr 4 (replicate n (.bool false))]) (pt im R.length) (sl 4 g.length 0 n)=some (undef,g')/\MX h ib ir im id a gg n (R++[g.length]) (D++[replicate n false]) g'/\g'.length=g.length+1:=by
 have x:EX g (g++[.arr 4 (replicate n (.bool false))]):=EX.append _ _
 have m1:=m.push x
 have o1:=m.o1;have o2:=m.o2;have o3:=m.o3;have o4:=m.o4
 have eS:=(ba m.hd).1
 have arH:=(ba m.hm).1
 have cells:(R.map (ug n)++replicate (n-R.length) (Value.slice none 0 0)).set R.length (sl 4 g.length 0 n)=(R++[g.length]).map (ug n)++replicate (n-(R++[g.length]).length) (Value.slice none 0 0):=by
  rw [List.set_append_right _ _ (by simp),length_map,sub_self]
  obtain ⟨q,hq⟩:∃q,n-R.length=q+1:=⟨n-R.length-1,by omega⟩
  have tC:n-(R++[g.length]).length=q:=by simp;omega
  rw [hq,tC,List.replicate_succ,List.set_cons_zero,map_append]
  simp [ug]
 have gl:(g++[ax.arr 4 (replicate n (.bool false))])[g.length]?=some (.arr 4 (replicate n (.bool false))):=bP
 refine ⟨(g++[ax.arr 4 (replicate n (.bool false))]).set im (ax.arr 26 ((R++[g.length]).map (ug n)++replicate (n-(R++[g.length]).length) (Value.slice none 0 0))),?_,⟨?_,?_,?_,?_,?_,?_,?_,?_,?_,?_,?_,o1,o2,o3,o4⟩,by simp⟩
 ·have:=lU m1.hm (o:=R.length) (v:=sl 4 g.length 0 n) (by simp;omega) rfl rfl
  rw [this,cells]
 ·exact ⟨by rw [length_set];exact m1.ex.1,λd hd=>by rw [getElem?_set_ne (by omega)];exact m1.ex.2 d hd⟩
 ·rw [getElem?_set_ne (by omega)];exact m1.hb
 ·rw [getElem?_set_ne (by omega)];exact m1.hr
 ·rw [getElem?_set_ne (by omega)];exact m1.hd
 ·rw [getElem?_set_self (by simp;omega)]
 ·simp [m.rl]
 ·simp;omega
 ·intro k hk
  rw [length_append,length_singleton] at hk
  by_cases c:k=R.length
  ·subst c
   rw [List.getElem_append_right (le_refl _)]
   simp only [sub_self,List.getElem_singleton]
   rw [getElem?_set_ne (by omega),gl,getD_eq_getElem?_getD,getElem?_append_right (by rw [m.rl];exact le_refl _),m.rl,sub_self]
   simp
  ·have bO:k<R.length:=by omega
   have:=m.lo _ (getElem_mem bO)
   have e:(D++[replicate n false]).getD k []=D.getD k []:=by
    rw [getD_eq_getElem?_getD,getElem?_append_left (by rw [<-m.rl];exact bO),<-getD_eq_getElem?_getD]
   rw [getElem_append_left bO,getElem?_set_ne (by omega),e]
   exact m1.row k bO
 ·intro k hk
  rw [length_append,length_singleton] at hk
  by_cases c:k=R.length
  ·subst c
   rw [getD_eq_getElem?_getD,getElem?_append_right (by rw [m.rl];exact le_refl _),m.rl,sub_self]
   simp
  ·have bO:k<R.length:=by omega
   rw [getD_eq_getElem?_getD,getElem?_append_left (by rw [<-m.rl];exact bO),<-getD_eq_getElem?_getD]
   exact m.dl k bO
 ·rw [List.nodup_append]
  refine ⟨m.nd,by simp,λr hr s hs e=>?_⟩
  rw [mem_singleton] at hs
  subst hs e
  obtain ⟨k,hk,e⟩:=getElem_of_mem hr
  have:=(ba (m.row k hk)).1
  omega
 ·intro r hr
  rcases mem_append.1 hr with hr | hr
  ·exact m.lo r hr
  ·rw [mem_singleton] at hr;omega
end
section
def lA (n:Nat) (G:List Bool) (i j:Nat):List Bool:=(List.range n).map λx=>decide (x<j)&& !decide (G.getD i false=G.getD x false)
theorem aos (n:Nat) (G:List Bool) (i:Nat):lA n G i 0=replicate n false:=by
 unfold lA
 rw [List.eq_replicate_iff]
 refine ⟨by simp,λb hb=>?_⟩
 obtain ⟨x,_,rfl⟩:=mem_map.1 hb
 simp
theorem aor {n:Nat} {G:List Bool} {i j:Nat}:(lA n G i j).set j (!decide (G.getD i false=G.getD j false))=lA n G i (j+1):=by
 apply List.ext_getElem?
 intro x
 unfold lA
 by_cases c:x=j
 ·subst c
  by_cases hx:x<n
  ·rw [getElem?_set_self (by simpa using hx),getElem?_map,List.getElem?_range hx]
   simp
  ·rw [List.getElem?_eq_none (by simp;omega),List.getElem?_eq_none (by simp;omega)]
 ·rw [getElem?_set_ne (Ne.symm c),getElem?_map,getElem?_map]
  by_cases hx:x<n
  ·rw [List.getElem?_range hx]
   simp only [map_some,Option.some.injEq]
   have:decide (x<j)=decide (x<j+1):=by rw [decide_eq_decide];omega
   rw [this]
  ·rw [List.getElem?_eq_none (by simp;omega)];rfl
theorem aoq {n:Nat} {G:List Bool} {i:Nat} (hi:i<n):(gj n G).take i++[lA n G i n]=(gj n G).take (i+1):=by
 have hl:i<(gj n G).length:=by simpa [gj] using hi
 have e:(gj n G)[i]=(List.range n).map λj=> !decide (G.getD i false=G.getD j false):=by simp [gj]
 have e2:lA n G i n=(List.range n).map λj=> !decide (G.getD i false=G.getD j false):=by
  refine List.map_congr_left λx hx=>?_
  have:=List.mem_range.1 hx
  simp [this]
 rw [take_succ_eq_append_getElem hl,e,e2]
theorem afW (x y:Bool):lk true (B x) (B y)=some (B (!decide (x=y))):=by cases x <;> cases y <;> rfl
theorem akH (g:ae) {n:Nat} (hn:n<=6):jM 4 1 [(.bool false)] g (I n) (I n)=some (sl 4 g.length 0 n,g++[.arr 4 (replicate n (.bool false))]):=by
 have:n=0∨n=1∨n=2∨n=3∨n=4∨n=5∨n=6:=by omega
 rcases this with rfl | rfl | rfl | rfl | rfl | rfl | rfl <;> rfl
theorem akG (g:ae) {n:Nat} (hn:n<=6):jM 26 24 [(.slice none 0 0)] g (I n) (I n)=some (sl 26 g.length 0 n,g++[.arr 26 (replicate n (.slice none 0 0))]):=by
 have:n=0∨n=1∨n=2∨n=3∨n=4∨n=5∨n=6:=by omega
 rcases this with rfl | rfl | rfl | rfl | rfl | rfl | rfl <;> rfl
variable {h : ae} {n k : Nat} {N : List (List Nat)} {G : List Bool} {K : Value -> ae -> Prop}
theorem ai2 {a gg:Value} {ib ir im id:Nat} {g:ae} (n6:n<=6) (gl:G.length=n) (hb:BL h gg G) (m:MX h ib ir im id a gg n [] [] g)
  (hk:∀R g',R.length=n->MX h ib ir im id a gg n R (gj n G) g'->Bz prog K (pt ib 0) (pt ir 0) (I n) (pt id 0) g'):
  bM [(.int .i64 (0))] g λL1 xs hx=>HY prog K (pt ib 0) (pt ir 0) (I n) (pt id 0) (I n) L1 xs hx:=by
 have oD:∀i,i<n->∀g',EX h g'->∃b o,aI 1 gg (I i)=some (pt b o)/\af false 1 g' (pt b o)=some (B (G.getD i false)):=by
  intro i hi g' x
  have Q4:i<G.length:=by rw [gl];exact hi
  obtain ⟨b,o,p1,p2⟩:=(hb.mono x).get i Q4
  exact ⟨b,o,p1,by rw [p2,getD_eq_getElem?_getD,getElem?_eq_getElem Q4,getD_some]⟩
 refine cG (σ:=Nat×List Nat×ae) (λq=>[I q.1]) (λq=>q.2.2) (λq=>q.1<=n/\q.2.1.length=q.1/\MX h ib ir im id a gg n q.2.1 ((gj n G).take q.1) q.2.2) (λq=>n-q.1) (0,[],g) rfl rfl ⟨zero_le _,rfl,m⟩ ?_
 rintro ⟨i,R,g1⟩ ⟨hi,hR,m1⟩ L hL
 simp only at hi hR m1 hL⊢
 rw [amu]
 simp only [cb,ag,bL]
 refine ⟨λar=>?_,λcY=>?_⟩
 ·have ar:i<n:=by omega
  have il:(gj n G).length=n:=by simp [gj]
  have tl:((gj n G).take i).length=i:=by rw [length_take,il];omega
  obtain ⟨g2,s1,m2,_⟩:=m1.new (by omega)
  rw [hR] at s1
  have ad:aI 1 (sl 26 im 0 n) (I i)=some (pt im i):=by simp [aI,sl];omega
  have ld1:af false 1 (g1++[.arr 4 (replicate n (.bool false))]) (pt id 0)=some (sl 26 im 0 n):=(m1.push (EX.append _ _)).ld
  simp only [m1.ld,ag,akH g1 n6,bc,ld1,ad,s1,true_and,and_self]
  rw [<-aos n G i] at m2
  refine cG (σ:=Nat×ae) (λq=>[I q.1]) (λq=>q.2) (λq=>q.1<=n/\MX h ib ir im id a gg n (R++[g1.length]) ((gj n G).take i++[lA n G i q.1]) q.2) (λq=>n-q.1) (0,g2) rfl rfl ⟨zero_le _,m2⟩ ?_
  rintro ⟨j,g3⟩ ⟨hj,m3⟩ L2 eK
  simp only at hj m3 eK⊢
  rw [ami]
  simp only [cb,ag,bL]
  refine ⟨λlJ=>?_,λahc=>?_⟩
  ·have lJ:j<n:=by omega
   have eS:i<(R++[g1.length]).length:=by rw [length_append,hR];simp
   obtain ⟨p1,p2⟩:=m3.at eS
   obtain ⟨b1,o1,c1,c2⟩:=oD i ar g3 m3.ex
   obtain ⟨b2,o2,d1,d2⟩:=oD j lJ g3 m3.ex
   obtain ⟨g4,s4,m4,_⟩:=m3.store eS lJ (!decide (G.getD i false=G.getD j false))
   have yV:aI 1 (sl 4 ((R++[g1.length])[i]) 0 n) (I j)=some (pt ((R++[g1.length])[i]) j):=by simp [aI,sl];omega
   have eD:((gj n G).take i++[lA n G i j]).set i ((((gj n G).take i++[lA n G i j]).getD i []).set j (!decide (G.getD i false=G.getD j false)))=(gj n G).take i++[lA n G i (j+1)]:=by
    have e1:((gj n G).take i++[lA n G i j]).getD i []=lA n G i j:=by
     rw [getD_eq_getElem?_getD,getElem?_append_right (by omega),tl,sub_self];rfl
    rw [e1,List.set_append_right _ _ (by omega),tl,sub_self,List.set_cons_zero,aor]
   rw [eD] at m4
   simp only [m3.ld,ag,p1,p2,gM,zero_add,me m3.hb,c1,c2,d1,d2,afW,yV,s4,bc,true_and,cD]
   rw [dW j (by simp [maxLen];omega)]
   exact eK (j+1,g4) ⟨lJ,m4⟩ (by show n-(j+1)<n-j;omega)
  ·have mB:j=n:=by omega
   subst mB
   rw [aoq ar] at m3
   rw [amj]
   simp only [cD,ag,true_and]
   rw [dW i (by simp [maxLen];omega)]
   exact hL (i+1,R++[g1.length],g3) ⟨ar,by rw [length_append,hR];rfl,m3⟩ (by show j-(i+1)<j-i;omega)
 ·have gS:i=n:=by omega
  have il:(gj n G).length=n:=by simp [gj]
  rw [gS,List.take_of_length_le (by omega)] at m1
  exact hk R g1 (by omega) m1
end
section
def Pr (i j a x y z:Nat):Prop:=x<i∨(x=i/\(y<j∨(y=j/\z<a)))
structure PI (n k:Nat) (N:List (List Nat)) (G:List Bool) (D0:List (List Bool)) (more:Bool) (D:List (List Bool)) (i j a:Nat):Prop where
 di:DI n k N G D
 dec:more=true->qJ n D<qJ n D0
 same:more=false->D=D0/\∀x y z,x<n->y<n->z<k->Pr i j a x y z->dG D x y=false->dG D (bS N x z) (bS N y z)=false
def yj (n k:Nat) (N:List (List Nat)) (D:List (List Bool)):Prop:=∀x y,x<n->y<n->dG D x y=false->∀z,z<k->dG D (bS N x z) (bS N y z)=false
variable {n k : Nat} {N : List (List Nat)} {G : List Bool} {D0 D : List (List Bool)} {more : Bool} {i j a : Nat}
theorem PI.start (d:DI n k N G D0):PI n k N G D0 false D0 0 0 0:=
 ⟨d,λh=>(by cases h),λ_=>⟨rfl,λx y z _ _ _ h=>by unfold Pr at h;omega⟩⟩
theorem PI.to (p:PI n k N G D0 more D i j a) {i' j' a':Nat} (h:∀x y z,x<n->y<n->z<k->Pr i' j' a' x y z->Pr i j a x y z):PI n k N G D0 more D i' j' a':=
 ⟨p.di,p.dec,λhm=>⟨(p.same hm).1,λx y z hx hy hz hp=>(p.same hm).2 x y z hx hy hz (h x y z hx hy hz hp)⟩⟩
theorem PI.cI (p:PI n k N G D0 more D i j a) (h:dG D i j=false->dG D (bS N i a) (bS N j a)=false):PI n k N G D0 more D i j (a+1):=
 ⟨p.di,p.dec,λhm=>⟨(p.same hm).1,λx y z hx hy hz hp=>by
  by_cases c:x=i/\y=j/\z=a
  ·obtain ⟨rfl,rfl,rfl⟩:=c;exact h
  ·exact (p.same hm).2 x y z hx hy hz (by unfold Pr at hp⊢;omega)⟩⟩
theorem PI.mark (p:PI n k N G D0 more D i j a) (b:gy n k N) (hi:i<n) (hj:j<n) (ha:a<k) (h:dG D i j=false) (hd:dG D (bS N i a) (bS N j a)=true):PI n k N G D0 true (mV D i j) i j (a+1):=
 ⟨p.di.step b hi hj ha h hd,λ_=>by
  have h1:=aeH p.di.sq hi hj h
  cases hm:more with
  | true=>have:=p.dec hm;omega
  | false=>rw [(p.same hm).1] at h1⊢;exact h1,λh=>by cases h⟩
theorem PI.end (p:PI n k N G D0 more D n 0 0) (hm:more=false):yj n k N D:=
 λx y hx hy h z hz=>(p.same hm).2 x y z hx hy hz (.inl hx) h
theorem LL.at {g:ae} {v:Value} {s c:Nat} (l:LL g v N) (b:gy n k N) (hs:s<n) (hc:c<k):∃b0 o0 w b2 o2,aI 1 v (I s)=some (pt b0 o0)/\af false 1 g (pt b0 o0)=some w/\aZ w=some (I k)/\aI 1 w (I c)=some (pt b2 o2)/\af false 1 g (pt b2 o2)=some (I (bS N s c)):=by
 have hN:s<N.length:=by rw [b.len];exact hs
 obtain ⟨b0,o0,w,r1,r2,r3⟩:=l.get s hN
 have eT:=b.row s hN
 obtain ⟨b2,o2,s1,s2⟩:=r3.s7 (i:=c) (by rw [eT];exact hc)
 have e2:N[s][c]'(by rw [eT];exact hc)=bS N s c:=by
  unfold bS
  have e3:N.getD s []=N[s]:=by rw [getD_eq_getElem?_getD,getElem?_eq_getElem hN,getD_some]
  rw [e3,getD_eq_getElem?_getD,getElem?_eq_getElem (by rw [eT];exact hc),getD_some]
 have lw:=r3.pY
 rw [eT] at lw
 rw [e2] at s2
 exact ⟨b0,o0,w,b2,o2,r1,r2,lw,s1,s2⟩
variable {h : ae} {K : Value -> ae -> Prop}
theorem agb {av gg:Value} {ib ir im id:Nat} {R:List Nat} {g:ae} (b:gy n k N) (n6:n<=6) (k1:1<=k) (k3:k<=3) (hl:LL h av N) (hR:R.length=n) (m:MX h ib ir im id av gg n R D0 g) (d:DI n k N G D0)
  (hk:∀D g',MX h ib ir im id av gg n R D g'->DI n k N G D->yj n k N D->BA prog K (pt ib 0) (pt ir 0) (pt id 0) g'):
  Bz prog K (pt ib 0) (pt ir 0) (I n) (pt id 0) g:=by
 rw [amk]
 refine cG (σ:=Bool×List (List Bool)×ae) (λq=>[B q.1]) (λq=>q.2.2) (λq=>MX h ib ir im id av gg n R q.2.1 q.2.2/\DI n k N G q.2.1/\(q.1=false->yj n k N q.2.1)) (λq=>2*qJ n q.2.1+(if q.1 then 1 else 0)) (true,D0,g) rfl rfl ⟨m,d,λh=>by cases h⟩ ?_
 rintro ⟨mo,D1,g1⟩ ⟨m1,d1,cl⟩ L hL
 simp only at m1 d1 cl hL⊢
 rw [aml]
 cases mo with
 | false=>
  simp only [cN]
  exact hk D1 g1 m1 d1 (cl rfl)
 | true=>
  simp only [fD]
  refine cG (σ:=Bool×Nat×List (List Bool)×ae) (λq=>[B q.1,I q.2.1]) (λq=>q.2.2.2) (λq=>q.2.1<=n/\MX h ib ir im id av gg n R q.2.2.1 q.2.2.2/\PI n k N G D1 q.1 q.2.2.1 q.2.1 0 0) (λq=>n-q.2.1) (false,0,D1,g1) rfl rfl ⟨zero_le _,m1,PI.start d1⟩ ?_
  rintro ⟨Bk,i,D2,g2⟩ ⟨hi,m2,p2⟩ L2 eK
  simp only at hi m2 p2 eK⊢
  rw [amm]
  simp only [cb,ag,bL,true_and]
  refine ⟨λar=>?_,λcY=>?_⟩
  ·have ar:i<n:=by omega
   refine cG (σ:=Bool×Nat×List (List Bool)×ae) (λq=>[B q.1,I q.2.1]) (λq=>q.2.2.2) (λq=>q.2.1<=n/\MX h ib ir im id av gg n R q.2.2.1 q.2.2.2/\PI n k N G D1 q.1 q.2.2.1 i q.2.1 0) (λq=>n-q.2.1) (Bk,0,D2,g2) rfl rfl ⟨zero_le _,m2,p2⟩ ?_
   rintro ⟨SD,j,D3,g3⟩ ⟨hj,m3,p3⟩ L3 vw
   simp only at hj m3 p3 vw⊢
   rw [amn]
   simp only [cb,ag,bL]
   refine ⟨λlJ=>?_,λahc=>?_⟩
   ·have lJ:j<n:=by omega
    obtain ⟨b0,o0,w0,_,_,r1,r2,r3,_,_⟩:=(hl.mono m3.ex).at b ar (show 0<k by omega)
    simp only [gM,zero_add,ag,kR m3.hb,r1,r2,r3]
    refine cG (σ:=Bool×Nat×List (List Bool)×ae) (λq=>[B q.1,I q.2.1]) (λq=>q.2.2.2) (λq=>q.2.1<=k/\MX h ib ir im id av gg n R q.2.2.1 q.2.2.2/\PI n k N G D1 q.1 q.2.2.1 i j q.2.1) (λq=>k-q.2.1) (SD,0,D3,g3) rfl rfl ⟨zero_le _,m3,p3⟩ ?_
    rintro ⟨Hj,a,D4,g4⟩ ⟨ha,m4,p4⟩ L4 QH
    simp only at ha m4 p4 QH⊢
    rw [amo]
    simp only [cb,ag,bL]
    refine ⟨λrf=>?_,λarD=>?_⟩
    ·have rf:a<k:=by omega
     have next:∀Bl D5 g5,MX h ib ir im id av gg n R D5 g5->PI n k N G D1 Bl D5 i j (a+1)->tY prog K (pt ib 0) (pt ir 0) (I n) (pt id 0) (B Bl) (I i) (I j) (I n) (I i) (I n) (I j) (I k) (I a) L L2 L3 L4 g5:=by
      intro Bl D5 g5 m5 p5
      rw [amp]
      simp only [cD,ag,true_and]
      rw [dW a (by simp [maxLen];omega)]
      exact QH (Bl,a+1,D5,g5) ⟨rf,m5,p5⟩ (by show k-(a+1)<k-a;omega)
     obtain ⟨ml,sq⟩:=m4.ml hR
     obtain ⟨c0,c1,cw,c2,c3,e1,e2,e3,e4⟩:=ml.at sq ar lJ
     have tw:i<R.length:=by omega
     obtain ⟨v1,v2⟩:=m4.at tw
     have yV:aI 1 (sl 4 R[i] 0 n) (I j)=some (pt R[i] j):=by simp [aI,sl];omega
     rw [v1] at e1;cases e1
     rw [v2] at e2;cases e2
     rw [yV] at e3;cases e3
     simp only [m4.ld,ag,v1,v2,yV,e4,jf,true_and]
     cases hd:dG D4 i j with
     | true=>
      simp only [Bool.not_true,jz,dO,ag,cN]
      exact next Hj D4 g4 m4 (p4.cI λh=>by rw [hd] at h;cases h)
     | false=>
      simp only [Bool.not_false,hI]
      obtain ⟨_,_,wi,_,_,f1,f2,_,f3,f4⟩:=(hl.mono m4.ex).at b ar rf
      obtain ⟨_,_,wj,_,_,t1,t2,_,t3,t4⟩:=(hl.mono m4.ex).at b lJ rf
      obtain ⟨_,_,_,_,_,u1,u2,u3,u4⟩:=ml.at sq (b.kG ar rf) (b.kG lJ rf)
      simp only [gM,zero_add,kR m4.hb,ag,f1,f2,f3,f4,t1,t2,t3,t4,u1,u2,u3,u4,fh]
      cases hs:dG D4 (bS N i a) (bS N j a) with
      | false=>
       simp only [cN]
       exact next Hj D4 g4 m4 (p4.cI λ_=>hs)
      | true=>
       obtain ⟨g5,s5,m5,_⟩:=m4.store tw lJ true
       simp only [fD,s5,bc]
       exact next true (mV D4 i j) g5 m5 (p4.mark b ar lJ rf hd hs)
    ·have hak:a=k:=by omega
     subst hak
     rw [amq]
     simp only [cD,ag,true_and]
     rw [dW j (by simp [maxLen];omega)]
     exact vw (Hj,j+1,D4,g4) ⟨lJ,m4,p4.to (i':=i) (j':=j+1) (a':=0) λx y z hx hy hz hp=>by unfold Pr at hp⊢;omega⟩ (by show n-(j+1)<n-j;omega)
   ·have mB:j=n:=by omega
    subst mB
    rw [amr]
    simp only [cD,ag,true_and]
    rw [dW i (by simp [maxLen];omega)]
    exact eK (SD,i+1,D3,g3) ⟨ar,m3,p3.to (i':=i+1) (j':=0) (a':=0) λx y z hx hy hz hp=>by unfold Pr at hp⊢;omega⟩ (by show j-(i+1)<j-i;omega)
  ·have gS:i=n:=by omega
   subst gS
   refine hL (Bk,D2,g2) ⟨m2,p2.di,λhm=>p2.end hm⟩ ?_
   show 2*qJ i D2+(if Bk=true then 1 else 0)<2*qJ i D1+1
   cases hm:Bk with
   | true=>have:=p2.dec hm;simp only [if_true];omega
   | false=>rw [(p2.same hm).1];simp
end
end Go.Proofs.YtncaiogfjjepcaaGreatDoor
namespace Go.Sim
section
structure jh (n k:Nat) (N:List (List Nat)) (G:List Bool) (D:List (List Bool)) (S:List Nat) (R:List (List Nat)) (H:List Bool):Prop where
 nd:S.Nodup
 lt:∀s∈S,s<n
 hd:S.getD 0 0=0
 ne:0<S.length
 rl:R.length<=S.length
 hl:H.length=R.length
 row:∀i (hi:i<R.length),R[i].length=k
 ma:∀i (hi:i<R.length),∀a (ha:a<R[i].length),R[i][a]<S.length/\dG D (bS N (S.getD i 0) a) (S.getD R[i][a] 0)=false
 oD:∀i,i<R.length->H.getD i false=G.getD (S.getD i 0) false
theorem jh.done {n k:Nat} {N:List (List Nat)} {G:List Bool} {D:List (List Bool)} {S:List Nat} {R:List (List Nat)} {H:List Bool} (p:jh n k N G D S R H) (b:gy n k N) (d:DI n k N G D)
  (c:∀x y,x<n->y<n->dG D x y=false->∀z,z<k->dG D (bS N x z) (bS N y z)=false) (hl:R.length=S.length):
  gy S.length k R/\S.length<=n/\H.length=S.length/\∀w:List Nat,(∀a∈w,a<k)->fX R H 0 w=fX N G 0 w:=by
 have hr:∀i,i<S.length->∀a,a<k->bS R i a<S.length/\dG D (bS N (S.getD i 0) a) (S.getD (bS R i a) 0)=false:=by
  intro i hi a ha
  have tw:i<R.length:=by omega
  have eT:=p.row i tw
  have e1:R.getD i []=R[i]:=by rw [getD_eq_getElem?_getD,getElem?_eq_getElem tw,getD_some]
  have e2:bS R i a=R[i][a]'(by omega):=by
   unfold bS
   rw [e1,getD_eq_getElem?_getD,getElem?_eq_getElem (by omega),getD_some]
  rw [e2]
  exact p.ma i tw a (by omega)
 refine ⟨⟨hl,p.row,λi hi x hx=>?_⟩,rW p.nd p.lt,by rw [p.hl,hl],λw hw=>?_⟩
 ·obtain ⟨a,ha,rfl⟩:=getElem_of_mem hx
  exact (p.ma i hi a ha).1
 ·have n0:0<n:=by
   obtain ⟨s,hs⟩:=List.exists_mem_of_length_pos p.ne
   have:=p.lt s hs
   omega
  refine XP b (D:=dG D) d.g c p.lt (λi hi=>p.oD i (by omega)) hr w 0 0 p.ne n0 hw ?_
  intro u _
  rw [p.hd]
end
end Go.Sim
namespace Go.Proofs.YtncaiogfjjepcaaGreatDoor
open Go.Sim
section
structure SX (g0:ae) (io dP cM k:Nat) (S RI:List Nat) (R:List (List Nat)) (H:List Bool) (vr vg:Value) (g:ae):Prop where
 ex:EX g0 g
 oi:g0.length<=io
 os:g0.length<=dP
 ho:g[io]?=some (.arr 28 [vr,vg])
 hs:g[dP]?=some (.arr 29 [sl 3 cM 0 S.length])
 hS:g[cM]?=some (.arr 3 (S.map λx:Nat=>I x))
 so:g0.length<=cM
 gZ:cK g0.length g 29 vr (RI.map λr=>sl 3 r 0 k)
 og:cK g0.length g 4 vg (H.map B)
 rl:RI.length=R.length
 rows:∀i (hi:i<RI.length),g[RI[i]]?=some (.arr 3 ((R.getD i []).map λx:Nat=>I x))
 ro:∀r∈RI,g0.length<=r/\r≠cM
 vi:∀n,vr≠sl 29 dP 0 n
variable {g0 g g' : ae} {io dP cM k : Nat} {S RI : List Nat} {R : List (List Nat)} {H : List Bool} {vr vg : Value}
theorem SX.push (p:SX g0 io dP cM k S RI R H vr vg g) (x:EX g g'):SX g0 io dP cM k S RI R H vr vg g':=
 ⟨p.ex.trans x,p.oi,p.os,x.get p.ho,x.get p.hs,x.get p.hS,p.so,p.gZ.cI λd _ hv _=>x.2 d (p.gZ.lt hv).2.1,p.og.cI λd _ hv _=>x.2 d (p.og.lt hv).2.1,p.rl,λi hi=>x.get (p.rows i hi),p.ro,p.vi⟩
theorem SX.other (p:SX g0 io dP cM k S RI R H vr vg g) (hl:g.length<=g'.length) {x:Nat} {cs:List Value} (hx:g[x]?=some (.arr 3 cs)) (x1:x≠cM) (x2:x∉RI) (x3:g0.length<=x)
  (ef:∀d,d<g.length->d≠x->g'[d]?=g[d]?):SX g0 io dP cM k S RI R H vr vg g':=by
 have get:∀{d:Nat} {o:ax},g[d]?=some o->d≠x->g'[d]?=some o:=λ{d o} h hd=>by
  rw [ef d (ba h).1 hd];exact h
 have nx:∀{d:Nat} {e:TypeId} {fe:List Value},g[d]?=some (.arr e fe)->e≠3->d≠x:=λ{d e fe} h he hd=>by
  subst hd
  rw [hx] at h
  cases h
  exact he rfl
 refine ⟨⟨by have:=p.ex.1;omega,λd hd=>?_⟩,p.oi,p.os,get p.ho (nx p.ho (by decide)),get p.hs (nx p.hs (by decide)),get p.hS (Ne.symm x1),p.so,?_,?_,p.rl,λi hi=>get (p.rows i hi) λe=>x2 (e ▸ getElem_mem hi),p.ro,p.vi⟩
 ·rw [ef d (by have:=p.ex.1;omega) (by omega)];exact p.ex.2 d hd
 ·exact p.gZ.cI λd _ hv _=>ef d (p.gZ.lt hv).2.1 (nx (p.gZ.lt hv).2.2 (by decide))
 ·exact p.og.cI λd _ hv _=>ef d (p.og.lt hv).2.1 (nx (p.og.lt hv).2.2 (by decide))
theorem SX.state (p:SX g0 io dP cM k S RI R H vr vg g) {S':List Nat} {pd:Nat} (hl:g.length<=g'.length) (ef:∀d,d<g.length->d≠dP->d≠cM->g'[d]?=g[d]?)
  (h1:g'[dP]?=some (.arr 29 [sl 3 pd 0 S'.length])) (h2:g'[pd]?=some (.arr 3 (S'.map λx:Nat=>I x))) (h3:g.length<=pd):SX g0 io dP pd k S' RI R H vr vg g':=by
 have eS:=(ba p.ho).1
 have Hq:io≠dP:=λe=>by have h:=p.ho;rw [e,p.hs] at h;cases h
 have Hr:io≠cM:=λe=>by have h:=p.ho;rw [e,p.hS] at h;cases h
 have Fl:=p.ex.1
 have os:=p.os;have so:=p.so
 refine ⟨⟨by omega,λd hd=>?_⟩,p.oi,p.os,?_,h1,h2,by omega,?_,?_,p.rl,λi hi=>?_,λr hr=>⟨(p.ro r hr).1,?_⟩,p.vi⟩
 ·rw [ef d (by omega) (by omega) (by omega)];exact p.ex.2 d hd
 ·rw [ef io eS Hq Hr];exact p.ho
 ·refine p.gZ.cI λd n hv _=>ef d (p.gZ.lt hv).2.1 (λe=>?_) (λe=>?_)
  ·subst e;exact p.vi _ hv
  ·have h:=(p.gZ.lt hv).2.2
   subst e
   rw [p.hS] at h;cases h
 ·refine p.og.cI λd n hv _=>ef d (p.og.lt hv).2.1 (λe=>?_) (λe=>?_)
  ·have h:=(p.og.lt hv).2.2
   subst e
   rw [p.hs] at h;cases h
  ·have h:=(p.og.lt hv).2.2
   subst e
   rw [p.hS] at h;cases h
 ·have aU:=(p.ro _ (getElem_mem hi)).2
  have hr:=p.rows i hi
  rw [ef _ (ba hr).1 (λe=>by rw [e,p.hs] at hr;cases hr) aU]
  exact hr
 ·obtain ⟨i,hi,rfl⟩:=getElem_of_mem hr
  have:=(ba (p.rows i hi)).1
  omega
end
end Go.Proofs.YtncaiogfjjepcaaGreatDoor
namespace Go.Sim
section
theorem pH {S T:List Nat} {i:Nat} (h:i<S.length):(S++T).getD i 0=S.getD i 0:=by
 rw [getD_eq_getElem?_getD,getElem?_append_left h,<-getD_eq_getElem?_getD]
theorem qT {S:List Nat} {i:Nat} (h:i<S.length):S.getD i 0=S[i]:=by
 rw [getD_eq_getElem?_getD,getElem?_eq_getElem h,getD_some]
variable {n k : Nat} {N : List (List Nat)} {G : List Bool} {D : List (List Bool)} {S : List Nat} {R : List (List Nat)} {H : List Bool}
theorem jh.start (k:Nat) (N:List (List Nat)) (G:List Bool) (D:List (List Bool)) (h:0<n):jh n k N G D [0] [] [] where
 nd:=by simp
 lt:=by simpa using h
 hd:=rfl
 ne:=by simp
 rl:=by simp
 hl:=rfl
 row:=λi hi=>absurd hi (not_lt_zero i)
 ma:=λi hi=>absurd hi (not_lt_zero i)
 oD:=λi hi=>absurd hi (not_lt_zero i)
theorem jh.more (p:jh n k N G D S R H) (d:DI n k N G D) {s:Nat} (hs:s<n) (gP:∀j (hj:j<S.length),dG D s S[j]=true):jh n k N G D (S++[s]) R H where
 nd:=by
  rw [List.nodup_append]
  refine ⟨p.nd,by simp,λa ha b hb e=>?_⟩
  rw [mem_singleton] at hb
  subst hb e
  obtain ⟨j,hj,e⟩:=getElem_of_mem ha
  have:=gP j hj
  rw [e,d.r a hs] at this
  cases this
 lt:=by
  intro x hx
  rcases mem_append.1 hx with hx | hx
  ·exact p.lt x hx
  ·rw [mem_singleton] at hx;subst hx;exact hs
 hd:=by rw [pH p.ne];exact p.hd
 ne:=by rw [length_append];have:=p.ne;omega
 rl:=by rw [length_append];have:=p.rl;omega
 hl:=p.hl
 row:=p.row
 ma:=by
  intro i hi a ha
  obtain ⟨h1,h2⟩:=p.ma i hi a ha
  have:=p.rl
  rw [pH (by omega),pH h1,length_append]
  exact ⟨by omega,h2⟩
 oD:=by
  intro i hi
  have:=p.rl
  rw [pH (by omega)]
  exact p.oD i hi
def nk (N:List (List Nat)) (D:List (List Bool)) (S:List Nat) (i:Nat) (l:List Nat):Prop:=
 ∀a (ha:a<l.length),l[a]<S.length/\dG D (bS N (S.getD i 0) a) (S.getD l[a] 0)=false
theorem nk.more {i:Nat} {l:List Nat} (e:nk N D S i l) (hi:i<S.length) (s:Nat):nk N D (S++[s]) i l:=by
 intro a ha
 obtain ⟨h1,h2⟩:=e a ha
 rw [pH hi,pH h1,length_append]
 exact ⟨by omega,h2⟩
theorem nk.add {i x:Nat} {l:List Nat} (e:nk N D S i l) (h1:x<S.length) (h2:dG D (bS N (S.getD i 0) l.length) (S.getD x 0)=false):nk N D S i (l++[x]):=by
 intro a ha
 rw [length_append,length_singleton] at ha
 by_cases c:a<l.length
 ·rw [getElem_append_left c];exact e a c
 ·have:a=l.length:=by omega
  subst this
  rw [List.getElem_append_right (le_refl _)]
  simp only [sub_self,List.getElem_singleton]
  exact ⟨h1,h2⟩
theorem jh.add (p:jh n k N G D S R H) {l:List Nat} (h1:R.length<S.length) (hl:l.length=k) (he:nk N D S R.length l):
  jh n k N G D S (R++[l]) (H++[G.getD (S.getD R.length 0) false]) where
 nd:=p.nd
 lt:=p.lt
 hd:=p.hd
 ne:=p.ne
 rl:=by rw [length_append];exact h1
 hl:=by simp [p.hl]
 row:=by
  intro i hi
  rw [length_append,length_singleton] at hi
  by_cases c:i<R.length
  ·rw [getElem_append_left c];exact p.row i c
  ·have:i=R.length:=by omega
   subst this
   rw [List.getElem_append_right (le_refl _)]
   simpa using hl
 ma:=by
  intro i hi a ha
  rw [length_append,length_singleton] at hi
  by_cases c:i<R.length
  ·have e:(R++[l])[i]=R[i]:=getElem_append_left c
   simp only [e] at ha⊢
   exact p.ma i c a ha
  ·have:i=R.length:=by omega
   subst this
   have e:(R++[l])[R.length]=l:=by simp
   simp only [e] at ha⊢
   exact he a ha
 oD:=by
  intro i hi
  rw [length_append,length_singleton] at hi
  have hHl:=p.hl
  by_cases c:i<R.length
  ·rw [getD_eq_getElem?_getD,getElem?_append_left (by omega),<-getD_eq_getElem?_getD]
   exact p.oD i c
  ·have:i=R.length:=by omega
   subst this
   rw [getD_eq_getElem?_getD,getElem?_append_right (by omega),hHl]
   simp
end
end Go.Sim
namespace Go.Proofs.YtncaiogfjjepcaaGreatDoor
open Go.Sim
section
structure RX (g0:ae) (cM:Nat) (RI:List Nat) (v:Value) (l:List Nat) (g:ae):Prop where
 own:cK g0.length g 3 v (l.map λx:Nat=>I x)
 ns:∀n,v≠sl 3 cM 0 n
 ni:∀x∈RI,∀n,v≠sl 3 x 0 n
variable {g0 g g' : ae} {io dP cM k : Nat} {S RI : List Nat} {R : List (List Nat)} {H : List Bool} {vr vg v : Value} {l : List Nat}
theorem RX.push (r:RX g0 cM RI v l g) (x:EX g g'):RX g0 cM RI v l g':=
 ⟨r.own.cI λd _ hv _=>x.2 d (r.own.lt hv).2.1,r.ns,r.ni⟩
theorem aom {z:Value} {x:Nat} {K:Value->ae->Prop} (p:SX g0 io dP cM k S RI R H vr vg g) (r:RX g0 cM RI v l g) (hl:l.length<=10)
  (hk:∀v' g',SX g0 io dP cM k S RI R H vr vg g'->RX g0 cM RI v' (l++[x]) g'->K v' g'):
  OH (bq 3 1 [z] g [(0,1,I x)]) λa h2=>OH (cE 3 1 8 h2 v a) K:=by
 refine yW r.own (by simp;omega) (by simp [maxLen];omega) rfl rfl ?_
 intro _ g2 _ hlen ef gf
 simp only [bc]
 have vX:=(ba p.hS).1
 have Fl:=p.ex.1
 have row:RX g0 cM RI (Go.Sim.sl 3 (g.length+1) 0 ((l.map λx:Nat=>I x).length+1)) (l++[x]) g2:=by
  refine ⟨.inr ⟨g.length+1,by omega,by simp,?_⟩,λn e=>?_,λy hy n e=>?_⟩
  ·rw [gf];simp
  ·have:=(pe e).1;omega
  ·have:=(pe e).1
   obtain ⟨i,hi,e2⟩:=getElem_of_mem hy
   have:=(ba (p.rows i hi)).1
   omega
 refine hk _ g2 ?_ row
 rcases r.own with ⟨rfl,_⟩ | ⟨i,hi,hv,hg⟩
 ·exact p.push ⟨by omega,λd hd=>ef d hd λn e=>by simp [Go.Sim.sl] at e⟩
 ·refine p.other (x:=i) (by omega) hg (λe=>?_) (λe=>?_) hi λd hd aU=>ef d hd λn e=>?_
  ·subst e;exact r.ns _ hv
  ·exact r.ni i e _ hv
  ·rw [hv] at e
   exact aU (pe e).1.symm
variable {h : ae} {n : Nat} {N : List (List Nat)} {G : List Bool} {D : List (List Bool)} {K : Value -> ae -> Prop}
theorem aoo {av gg w:Value} {ib ir im id:Nat} {Rm:List Nat} {L1:List Value->ae->Prop} (b:gy n k N) (n6:n<=6) (k3:k<=3) (m:MX h ib ir im id av gg n Rm D g0) (td:Rm.length=n) (d:DI n k N G D)
  (du:R.length<S.length) (p:SX g0 io dP cM k S RI R H vr vg g) (q:jh n k N G D S R H) (hw:∀g',EX g0 g'->NS g' w .i64 ((N.getD (S.getD R.length 0) []).map λi:Nat=>(i:Int)))
  (hk:∀S' pd v l g',SX g0 io dP pd k S' RI R H vr vg g'->RX g0 pd RI v l g'->R.length<S'.length->jh n k N G D S' R H->l.length=k->nk N D S' R.length l->
   BB prog K (pt ib 0) (pt ir 0) (pt io 0) (pt dP 0) (.func (.func 48) #[] #[pt dP 0,pt id 0]) (I R.length) v L1 g'):
  bM [(.slice none 0 0),(.int .i64 (0))] g λL2 xs hx=>HZ prog K (pt ib 0) (pt ir 0) (pt io 0) (pt dP 0) (.func (.func 48) #[] #[pt dP 0,pt id 0]) (I R.length) w (I k) L1 L2 xs hx:=by
 have uj:S.getD R.length 0<n:=by rw [qT du];exact q.lt _ (getElem_mem du)
 have tF:S.getD R.length 0<N.length:=by rw [b.len];exact uj
 have eT:(N.getD (S.getD R.length 0) []).length=k:=by
  rw [getD_eq_getElem?_getD,getElem?_eq_getElem tF,getD_some];exact b.row _ tF
 refine cG (σ:=List Nat×Nat×Value×List Nat×ae) (λt=>[t.2.2.1,I t.2.2.2.1.length]) (λt=>t.2.2.2.2)
  (λt=>t.2.2.2.1.length<=k/\SX g0 io dP t.2.1 k t.1 RI R H vr vg t.2.2.2.2/\RX g0 t.2.1 RI t.2.2.1 t.2.2.2.1 t.2.2.2.2/\R.length<t.1.length/\t.1.getD R.length 0=S.getD R.length 0/\jh n k N G D t.1 R H/\nk N D t.1 R.length t.2.2.2.1)
  (λt=>k-t.2.2.2.1.length) (S,cM,.slice none 0 0,[],g) rfl rfl ⟨zero_le _,p,⟨.inl ⟨rfl,rfl⟩,λn e=>by simp [Go.Sim.sl] at e,λ_ _ n e=>by simp [Go.Sim.sl] at e⟩,du,rfl,q,λa ha=>absurd ha (not_lt_zero a)⟩ ?_
 rintro ⟨S1,JX,v1,l1,g1⟩ ⟨mC,p1,r1,nL,fO,q1,e1⟩ L hL
 simp only at mC p1 r1 nL fO q1 e1 hL⊢
 rw [amv]
 simp only [cb,ag,bL]
 refine ⟨λar=>?_,λcY=>?_⟩
 ·have ar:l1.length<k:=by omega
  have pR:=hw g1 p1.ex
  obtain ⟨b2,o2,a1,a2⟩:=pR.s7 (i:=l1.length) (by rw [eT];exact ar)
  have e2:(N.getD (S.getD R.length 0) [])[l1.length]'(by rw [eT];exact ar)=bS N (S.getD R.length 0) l1.length:=by
   unfold bS
   rw [getD_eq_getElem?_getD (l:=N.getD (S.getD R.length 0) []),getElem?_eq_getElem (by rw [eT];exact ar),getD_some]
  rw [e2] at a2
  simp only [a1,a2,ag]
  refine PQ (by kernel_rfl) ?_
  show aw prog 48 [I (bS N (S.getD R.length 0) l1.length),pt dP 0,pt id 0] g1 _
  have m1:=m.push p1.ex
  obtain ⟨ml,sq⟩:=m1.ml td
  have gF:S1.length<=n:=rW q1.nd q1.lt
  have K3:=b.kG uj ar
  have next:∀S2 p9 (x:Nat) g2,SX g0 io dP p9 k S2 RI R H vr vg g2->RX g0 p9 RI v1 l1 g2->R.length<S2.length->S2.getD R.length 0=S.getD R.length 0->jh n k N G D S2 R H->nk N D S2 R.length (l1++[x])->
    OH (bq 3 1 [(.int .i64 (0))] g2 [(0,1,I x)]) λKr h_2=>OH (cE 3 1 8 h_2 v1 Kr) λxy h_3=>OP (ai .add (I l1.length) (.int .i64 (1))) λKs=>
    True/\L [xy,Ks] h_3:=by
   intro S2 p9 x g2 p2 r2 dT iv q2 e2
   refine aom p2 r2 (by omega) ?_
   intro v3 g3 p3 r3
   simp only [cD,ag,true_and]
   rw [dW l1.length (by simp [maxLen];omega)]
   have:=hL (S2,p9,v3,l1++[x],g3) ⟨by rw [length_append,length_singleton];exact ar,p3,r3,dT,iv,q2,e2⟩ (by show k-(l1++[x]).length<k-l1.length;rw [length_append,length_singleton];omega)
   simp only [length_append,length_singleton] at this
   exact this
  refine YF (v:=sl 26 im 0 n) (b:=g0.length) m1.ld ml sq K3 q1.lt (by omega) p1.ex.1 p1.hs (.inr ⟨JX,p1.so,by simp,p1.hS⟩) (λj hj hd g2 x2=>?_) (λgP v2 g2 ef rN iv aln=>?_)
  ·refine next S1 JX j g2 (p1.push x2) (r1.push x2) nL fO q1 (e1.add hj ?_)
   rw [fO,qT hj];exact hd
  ·rcases aln with ⟨_,e⟩ | ⟨p9,aij,rfl,hg2⟩
   ·exact absurd (congrArg List.length e) (by simp)
   ·rw [length_map] at iv
    have p2:SX g0 io dP p9 k (S1++[bS N (S.getD R.length 0) l1.length]) RI R H vr vg g2:=
     p1.state rN (λd hd h1 h2=>ef d hd h1 λn e=>h2 (pe e).1.symm) iv hg2 aij
    have r2:RX g0 p9 RI v1 l1 g2:=by
     refine ⟨r1.own.cI λd n hv _=>ef d (r1.own.lt hv).2.1 (λe=>?_) (λn2 e=>?_),λn e=>?_,r1.ni⟩
     ·have hg:=(r1.own.lt hv).2.2
      rw [e,p1.hs] at hg;cases hg
     ·have:=(pe e).1
      subst this
      exact r1.ns _ hv
     ·have:=(r1.own.lt e).2.1;omega
    refine next _ p9 S1.length g2 p2 r2 (by rw [length_append];omega) (by rw [pH nL];exact fO) (q1.more d K3 gP) ((e1.more nL _).add (by simp) ?_)
    rw [pH nL,fO,getD_eq_getElem?_getD (l:=S1++_),getElem?_append_right (le_refl _)]
    simp only [sub_self,List.getElem?_cons_zero,getD_some]
    exact d.r _ K3
 ·have:l1.length=k:=by omega
  exact hk S1 JX v1 l1 g1 p1 r1 nL q1 this e1
end
section
variable {g0 g g' : ae} {io dP cM k : Nat} {S RI : List Nat} {R : List (List Nat)} {H : List Bool} {vr vg v : Value} {l : List Nat}
variable {h : ae} {n : Nat} {N : List (List Nat)} {G : List Bool} {D : List (List Bool)} {K : Value -> ae -> Prop}
theorem mT {g:ae} {i e:Nat} {x:Value} (hg:g[i]?=some (.arr e [x])) (ho:gY i x=true):cF g (sl e i 0 1)=some (.agg #[.int .i64 e,x]):=by
 simp [cF,rG,sl,hg,jY,ho]
theorem zT {g:ae} {i e:Nat} {x:Value} (hg:g[i]?=some (.arr e [x])):eX g 1 (sl e i 0 1)=some [x]:=by
 simp [eX,sl,bn,hg]
theorem agm {G:List Bool} {i:Nat} (h:i<G.length):G.getD i false=G[i]:=by
 rw [getD_eq_getElem?_getD,getElem?_eq_getElem h,getD_some]
theorem aop {av gg fn:Value} {ib ir im id:Nat} {Rm:List Nat} {L1:List Value->ae->Prop} (m:MX h ib ir im id av gg n Rm D g0) (hb:BL h gg G) (gl:G.length=n) (p:SX g0 io dP cM k S RI R H vr vg g) (r:RX g0 cM RI v l g)
  (q:jh n k N G D S R H) (du:R.length<S.length) (k1:1<=k) (hlen:l.length=k) (gF:S.length<=6)
  (hk:∀RI' eY gn g',SX g0 io dP cM k S RI' (R++[l]) (H++[G.getD (S.getD R.length 0) false]) eY gn g'->H4 prog K (pt ib 0) (pt ir 0) (pt io 0) (pt dP 0) fn (I R.length) L1 g'):
  BB prog K (pt ib 0) (pt ir 0) (pt io 0) (pt dP 0) fn (I R.length) v L1 g:=by
 rw [amw]
 obtain ⟨fo,vW,rfl,tE⟩:∃fo,g0.length<=fo/\v=sl 3 fo 0 k/\g[fo]?=some (.arr 3 (l.map λx:Nat=>I x)):=by
  rcases r.own with ⟨_,e⟩ | ⟨i,h1,h2,h3⟩
  ·have:=congrArg List.length e
   simp at this
   subst this
   simp at hlen;omega
  ·exact ⟨i,h1,by rw [h2,length_map,hlen],h3⟩
 have uj:S.getD R.length 0<n:=by rw [qT du];exact q.lt _ (getElem_mem du)
 have AU:=(ba tE).1
 have Fl:=p.ex.1
 have xf:=p.rl;have qrl:=q.rl;have qhl:=q.hl
 have jl:=(ba p.ho).1
 have vX:=(ba p.hs).1
 have hSl:=(ba p.hS).1
 have Hq:io≠dP:=λe=>by have h:=p.ho;rw [e,p.hs] at h;cases h
 have Hr:io≠cM:=λe=>by have h:=p.ho;rw [e,p.hS] at h;cases h
 have ne3:io≠fo:=λe=>by have h:=p.ho;rw [e,tE] at h;cases h
 have e1:bq 29 1 [(.slice none 0 0)] g [(0,1,sl 3 fo 0 k)]=some (sl 29 g.length 0 1,g++[.arr 29 [sl 3 fo 0 k]]):=by
  simp [bq,fE,dt,setAt,de,bK,Value.cells,sl]
 have x1:EX g (g++[.arr 29 [sl 3 fo 0 k]]):=EX.append _ _
 have c1:(g++[ax.arr 29 [sl 3 fo 0 k]])[g.length]?=some (.arr 29 [sl 3 fo 0 k]):=bP
 have n1:(g++[ax.arr 29 [sl 3 fo 0 k]]).length=g.length+1:=by simp
 simp only [e1,bc]
 generalize g++[ax.arr 29 [sl 3 fo 0 k]]=g1 at x1 c1 n1⊢
 have wN:gY g.length (sl 3 fo 0 k)=true:=by simp [gY,sl,AU]
 have e2:∀y:Bool,bq 4 1 [(.bool false)] g1 [(0,1,B y)]=some (sl 4 g1.length 0 1,g1++[.arr 4 [B y]]):=by
  intro y
  simp [bq,fE,dt,setAt,de,bK,Value.cells]
 have x2:EX g1 (g1++[.arr 4 [B (G.getD (S.getD R.length 0) false)]]):=EX.append _ _
 have c2:(g1++[ax.arr 4 [B (G.getD (S.getD R.length 0) false)]])[g1.length]?=some (.arr 4 [B (G.getD (S.getD R.length 0) false)]):=bP
 have n2:(g1++[ax.arr 4 [B (G.getD (S.getD R.length 0) false)]]).length=g1.length+1:=by simp
 have ob1:=mT c1 wN
 have mg:=m.push p.ex
 have fb:af false 1 g (pt ib 1)=some gg:=me mg.hb
 have rR:af false 1 g (pt dP 0)=some (sl 3 cM 0 S.length):=tU (by simp [bn,p.hs])
 have Ek:aI 1 (sl 3 cM 0 S.length) (I R.length)=some (pt cM R.length):=by simp [aI,sl,du]
 have A9:af false 1 g (pt cM R.length)=some (I (S.getD R.length 0)):=by
  rw [qT du]
  simp [af,bn,p.hS,cU,du]
 have Gv:S.getD R.length 0<G.length:=by rw [gl];exact uj
 obtain ⟨b4,o4,a4,l4⟩:=(hb.mono (m.ex.trans p.ex)).get _ Gv
 have eG:G[S.getD R.length 0]=G.getD (S.getD R.length 0) false:=(agm Gv).symm
 rw [eG] at l4
 simp only [ob1,ag,gM,zero_add,fb,EX.load x1 fb,rR,EX.load x1 rR,Ek,A9,EX.load x1 A9,a4,l4,EX.load x1 l4,e2,bc,true_and,and_self]
 generalize g1++[ax.arr 4 [B (G.getD (S.getD R.length 0) false)]]=g2 at x2 c2 n2⊢
 have aW:=x1.trans x2
 have p2:=p.push aW
 have qI:=x2.get c1
 have f0:af false 1 g (pt io 0)=some vr:=kR p.ho
 have f1:af false 1 g (pt io 1)=some vg:=me p.ho
 have ob2:=mT c2 (by simp:gY g1.length (B (G.getD (S.getD R.length 0) false))=true)
 simp only [ob2,mT qI wN,ag,f0,EX.load x1 f0,EX.load aW f0,true_and,and_self]
 have So:∀{d nn:Nat},vr=sl 29 d 0 nn->d<g.length/\g[d]?=some (.arr 29 (RI.map λr=>sl 3 r 0 k)):=λe=>⟨(p.gZ.lt e).2.1,(p.gZ.lt e).2.2⟩
 have Sl:∀{d nn:Nat},vg=sl 4 d 0 nn->d<g.length/\g[d]?=some (.arr 4 (H.map B)):=λe=>⟨(p.og.lt e).2.1,(p.og.lt e).2.2⟩
 refine sP p2.gZ p2.ex (zT qI) rfl (by simp;omega) (show 24<=1000 by omega) ?_
 intro eY g3 x3 rq lS
 have nr:∀{d:Nat} {o:ax},g[d]?=some o->(∀cs,o≠ .arr 29 cs)->g3[d]?=some o:=by
  intro d o hd ho
  have pM:=(ba hd).1
  rw [rq d (by omega) λnn e=>?_]
  ·exact aW.get hd
  ·have:=(So e).2
   rw [hd] at this
   cases this
   exact ho _ rfl
 have tz:g3[io]?=some (.arr 28 [vr,vg]):=nr p.ho λcs e=>by cases e
 have QI:g3[cM]?=some (.arr 3 (S.map λx:Nat=>I x)):=nr p.hS λcs e=>by cases e
 have Gu:g3[dP]?=some (.arr 29 [sl 3 cM 0 S.length]):=by
  rw [rq dP (by omega) λnn e=>p.vi _ e]
  exact aW.get p.hs
 have uZ:g3[g1.length]?=some (.arr 4 [B (G.getD (S.getD R.length 0) false)]):=by
  rw [rq _ (by omega) λnn e=>?_]
  ·exact c2
  ·have:=(So e).1;omega
 have m3:=m.push x3
 have fb3:af false 1 g3 (pt ib 1)=some gg:=me m3.hb
 have akB:af false 1 g3 (pt dP 0)=some (sl 3 cM 0 S.length):=tU (by simp [bn,Gu])
 have ako:af false 1 g3 (pt cM R.length)=some (I (S.getD R.length 0)):=by
  rw [qT du]
  simp [af,bn,QI,cU,du]
 have l43:af false 1 g3 (pt b4 o4)=some (B (G.getD (S.getD R.length 0) false)):=by
  obtain ⟨b5,o5,a5,l5⟩:=(hb.mono (m.ex.trans x3)).get _ Gv
  rw [a4] at a5
  cases a5
  rw [eG] at l5
  exact l5
 have ak9:=mT uZ (by simp:gY g1.length (B (G.getD (S.getD R.length 0) false))=true)
 have f13:af false 1 g3 (pt io 1)=some vg:=me tz
 simp only [fb3,akB,ako,l43,ak9,f1,EX.load x1 f1,EX.load aW f1,f13,ag,true_and,and_self]
 have wM:cK g0.length g3 4 vg (H.map B):=p.og.cI λd nn e _=>by rw [nr (Sl e).2 λcs e=>by cases e];exact (Sl e).2.symm
 refine sP wM x3 (zT uZ) rfl (by simp;omega) (show 1<=1000 by omega) ?_
 intro gn g4 x4 Gn kg
 have l3:=(ba tz).1
 have ng:∀{d:Nat} {o:ax},g3[d]?=some o->(∀cs,o≠ .arr 4 cs)->g4[d]?=some o:=by
  intro d o hd ho
  have pM:=(ba hd).1
  rw [Gn d pM λnn e=>?_]
  ·exact hd
  ·have:=(wM.lt e).2.2
   rw [hd] at this
   cases this
   exact ho _ rfl
 have rj:g4[io]?=some (.arr 28 [vr,vg]):=ng tz λcs e=>by cases e
 have wC:=(ba rj).1
 have s5:=lU rj (o:=0) (by simp) lS.one.1 lS.one.2
 have Gm:(g4.set io (.arr 28 ([vr,vg].set 0 eY)))[io]?=some (.arr 28 [eY,vg]):=by rw [getElem?_set_self wC];rfl
 have s6:=lU Gm (o:=1) (by simp) kg.one.1 kg.one.2
 have e6:(g4.set io (.arr 28 ([vr,vg].set 0 eY))).set io (.arr 28 ([eY,vg].set 1 gn))=g4.set io (.arr 28 [eY,gn]):=by
  rw [List.set_set];rfl
 rw [e6] at s6
 simp only [s5,s6,bc]
 have oi:=p.oi;have os:=p.os;have so:=p.so
 have cI:∀{d:Nat} {o:ax},g4[d]?=some o->d≠io->(g4.set io (.arr 28 [eY,gn]))[d]?=some o:=λhd aU=>by
  rw [getElem?_set_ne (Ne.symm aU)];exact hd
 have rT:∀{d:Nat} {e:TypeId} {cs:List Value},g4[d]?=some (.arr e cs)->e≠28->d≠io:=λhd he e=>by
  subst e;rw [rj] at hd;cases hd;exact he rfl
 have hs4:=ng Gu λcs e=>by cases e
 have hS4:=ng QI λcs e=>by cases e
 have up:∀{d:Nat} {cs:List Value},g[d]?=some (.arr 3 cs)->(g4.set io (.arr 28 [eY,gn]))[d]?=some (.arr 3 cs):=λhd=>by
  have h4:=ng (nr hd λcs e=>by cases e) λcs e=>by cases e
  exact cI h4 (rT h4 (by decide))
 refine hk (RI++[fo]) eY gn (g4.set io (.arr 28 [eY,gn])) ⟨x4.set oi _,oi,os,?_,cI hs4 (Ne.symm Hq),cI hS4 (Ne.symm Hr),so,?_,?_,by simp [xf],?_,?_,?_⟩
 ·rw [getElem?_set_self wC]
 ·rw [map_append]
  refine lS.cI λd nn e _=>?_
  have hd:=(lS.lt e).2.2
  have h4:=ng hd λcs e=>by cases e
  rw [cI h4 (rT h4 (by decide)),hd]
 ·rw [map_append]
  refine kg.cI λd nn e _=>?_
  have hd:=(kg.lt e).2.2
  rw [cI hd (rT hd (by decide)),hd]
 ·intro i hi
  rw [length_append,length_singleton] at hi
  by_cases c:i<RI.length
  ·rw [getElem_append_left c]
   have e:(R++[l]).getD i []=R.getD i []:=by rw [getD_eq_getElem?_getD,getElem?_append_left (by omega),<-getD_eq_getElem?_getD]
   rw [e]
   exact up (p.rows i c)
  ·have:i=RI.length:=by omega
   subst this
   have e:(R++[l]).getD RI.length []=l:=by rw [getD_eq_getElem?_getD,xf];simp
   rw [e,List.getElem_append_right (le_refl _)]
   simp only [sub_self,List.getElem_singleton]
   exact up tE
 ·intro x hx
  rcases mem_append.1 hx with hx | hx
  ·exact p.ro x hx
  ·rw [mem_singleton] at hx
   subst hx
   exact ⟨vW,λe=>r.ns k (by rw [e])⟩
 ·intro nn e
  have hd:=(lS.lt e).2.2
  rw [Gu] at hd
  injection hd with hd
  injection hd with _ hd
  have:=congrArg List.getLast? hd
  simp at this
  exact r.ns _ this.symm
end
section
structure NX (g0:ae) (io k:Nat) (RI:List Nat) (R:List (List Nat)) (H:List Bool) (vr vg:Value) (g:ae):Prop where
 ex:EX g0 g
 oi:g0.length<=io
 ho:g[io]?=some (.arr 28 [vr,vg])
 gZ:cK g0.length g 29 vr (RI.map λr=>sl 3 r 0 k)
 og:cK g0.length g 4 vg (H.map B)
 rl:RI.length=R.length
 hl:H.length=R.length
 rows:∀i (hi:i<RI.length),g[RI[i]]?=some (.arr 3 ((R.getD i []).map λx:Nat=>I x))
 ro:∀r∈RI,g0.length<=r
variable {g0 g g' : ae} {io k : Nat} {RI : List Nat} {R : List (List Nat)} {H : List Bool} {vr vg v : Value} {l : List Nat}
theorem NX.push (p:NX g0 io k RI R H vr vg g) (x:EX g g'):NX g0 io k RI R H vr vg g':=
 ⟨p.ex.trans x,p.oi,x.get p.ho,p.gZ.cI λd _ hv _=>x.2 d (p.gZ.lt hv).2.1,p.og.cI λd _ hv _=>x.2 d (p.og.lt hv).2.1,p.rl,p.hl,λi hi=>x.get (p.rows i hi),p.ro⟩
theorem aon {z:Value} {x:Nat} {K:Value->ae->Prop} (p:NX g0 io k RI R H vr vg g) (own:cK g0.length g 3 v (l.map λx:Nat=>I x)) (ni:∀x∈RI,∀n,v≠sl 3 x 0 n) (hl:l.length<=10)
  (hk:∀v' g',NX g0 io k RI R H vr vg g'->cK g0.length g' 3 v' ((l++[x]).map λx:Nat=>I x)->(∀x∈RI,∀n,v'≠sl 3 x 0 n)->(∀{d:Nat} {o:ax},g[d]?=some o->(∀cs,o≠ .arr 3 cs)->g'[d]?=some o)->K v' g'):
  OH (bq 3 1 [z] g [(0,1,I x)]) λa h2=>OH (cE 3 1 8 h2 v a) K:=by
 refine yW own (by simp;omega) (by simp [maxLen];omega) rfl rfl ?_
 intro _ g2 _ hlen ef gf
 simp only [bc]
 have Fl:=p.ex.1
 have cI:∀{d:Nat} {o:ax},g[d]?=some o->(∀n,v≠sl 3 d 0 n)->g2[d]?=some o:=λhd hn=>by
  rw [ef _ (ba hd).1 hn];exact hd
 have A7:∀{d:Nat} {o:ax},g[d]?=some o->(∀cs,o≠ .arr 3 cs)->g2[d]?=some o:=λhd ho=>cI hd λn e=>by
  have:=(own.lt e).2.2
  rw [hd] at this
  cases this
  exact ho _ rfl
 refine hk _ g2 ⟨⟨by omega,λd hd=>?_⟩,p.oi,A7 p.ho (λcs e=>by cases e),?_,?_,p.rl,p.hl,λi hi=>cI (p.rows i hi) λn e=>ni _ (getElem_mem hi) n e,p.ro⟩ ?_ ?_ A7
 ·rw [ef d (by omega) λn e=>?_]
  ·exact p.ex.2 d hd
  ·have:=(own.lt e).1;omega
 ·refine p.gZ.cI λd n e _=>?_
  have:=(p.gZ.lt e).2.2
  rw [A7 this (λcs e=>by cases e),this]
 ·refine p.og.cI λd n e _=>?_
  have:=(p.og.lt e).2.2
  rw [A7 this (λcs e=>by cases e),this]
 ·exact .inr ⟨g.length+1,by omega,by simp,by rw [gf];simp⟩
 ·intro y hy n e
  have:=(pe e).1
  obtain ⟨i,hi,e2⟩:=getElem_of_mem hy
  have:=(ba (p.rows i hi)).1
  omega
theorem abK {o:Option (Value×ae)} {K:Value->ae->Prop} (h:OH o K):∃v g,o=some (v,g)/\K v g:=by
 rw [yQ] at h
 unfold jc at h
 split at h
 ·exact ⟨_,_,rfl,h⟩
 ·cases h
theorem M3 {e:TypeId} {bytes:Nat} {h0 g:ae} {v x:Value} {xs ys:List Value} (own:cK h0.length g e v xs) (hex:EX h0 g) (hs:eX g 1 x=some ys) (hx:iM x=some ys.length) (hl:xs.length+ys.length<=1000) (hb:bytes<=1000):
  ∃v' g',cE e 1 bytes g v x=some (v',g')/\EX h0 g'/\(∀d,d<g.length->(∀n,v≠sl e d 0 n)->g'[d]?=g[d]?)/\cK h0.length g' e v' (xs++ys):=
 abK (sP own hex hs hx hl hb (K:=λv' g'=>EX h0 g'/\(∀d,d<g.length->(∀n,v≠sl e d 0 n)->g'[d]?=g[d]?)/\cK h0.length g' e v' (xs++ys)) λ_ _ a b c=>⟨a,b,c⟩)
theorem MY {fo a b:Nat} {y:Bool} (p:NX g0 io k RI R H vr vg g) (hr:g[fo]?=some (.arr 3 (l.map λx:Nat=>I x))) (vW:g0.length<=fo) (ha:g[a]?=some (.arr 29 [sl 3 fo 0 k])) (hb:g[b]?=some (.arr 4 [B y])) (gF:R.length<=100):
  ∃eY g3 gn g4 g5 g6,cE 29 1 24 g vr (sl 29 a 0 1)=some (eY,g3)/\cF g3 (sl 4 b 0 1)=some (.agg #[.int .i64 ((4:Nat):Int),B y])/\af false 1 g3 (pt io 1)=some vg/\cE 4 1 1 g3 vg (sl 4 b 0 1)=some (gn,g4)/\
   bE 1 g4 (pt io 0) eY=some (undef,g5)/\bE 1 g5 (pt io 1) gn=some (undef,g6)/\NX g0 io k (RI++[fo]) (R++[l]) (H++[y]) eY gn g6:=by
 have xf:=p.rl;have hlen:=p.hl
 obtain ⟨eY,g3,e1,x3,rq,lS⟩:=M3 (bytes:=24) p.gZ p.ex (zT ha) rfl (by simp;omega) (by omega)
 have nr:∀{d:Nat} {o:ax},g[d]?=some o->(∀cs,o≠ .arr 29 cs)->g3[d]?=some o:=by
  intro d o hd ho
  rw [rq d (ba hd).1 λnn e=>?_]
  ·exact hd
  ·have:=(p.gZ.lt e).2.2
   rw [hd] at this
   cases this
   exact ho _ rfl
 have tz:g3[io]?=some (.arr 28 [vr,vg]):=nr p.ho λcs e=>by cases e
 have AA:=nr hb λcs e=>by cases e
 have wM:cK g0.length g3 4 vg (H.map B):=p.og.cI λd nn e _=>by rw [nr (p.og.lt e).2.2 (λcs e=>by cases e)];exact (p.og.lt e).2.2.symm
 obtain ⟨gn,g4,e2,x4,Gn,kg⟩:=M3 (bytes:=1) wM x3 (zT AA) rfl (by simp;omega) (by omega)
 have ng:∀{d:Nat} {o:ax},g3[d]?=some o->(∀cs,o≠ .arr 4 cs)->g4[d]?=some o:=by
  intro d o hd ho
  rw [Gn d (ba hd).1 λnn e=>?_]
  ·exact hd
  ·have:=(wM.lt e).2.2
   rw [hd] at this
   cases this
   exact ho _ rfl
 have rj:g4[io]?=some (.arr 28 [vr,vg]):=ng tz λcs e=>by cases e
 have wC:=(ba rj).1
 have s5:=lU rj (o:=0) (by simp) lS.one.1 lS.one.2
 have Gm:(g4.set io (.arr 28 ([vr,vg].set 0 eY)))[io]?=some (.arr 28 [eY,vg]):=by rw [getElem?_set_self wC];rfl
 have s6:=lU Gm (o:=1) (by simp) kg.one.1 kg.one.2
 have e6:(g4.set io (.arr 28 ([vr,vg].set 0 eY))).set io (.arr 28 ([eY,vg].set 1 gn))=g4.set io (.arr 28 [eY,gn]):=by
  rw [List.set_set];rfl
 rw [e6] at s6
 have oi:=p.oi
 have cI:∀{d:Nat} {o:ax},g4[d]?=some o->d≠io->(g4.set io (.arr 28 [eY,gn]))[d]?=some o:=λhd aU=>by
  rw [getElem?_set_ne (Ne.symm aU)];exact hd
 have rT:∀{d:Nat} {e:TypeId} {cs:List Value},g4[d]?=some (.arr e cs)->e≠28->d≠io:=λhd he e=>by
  subst e;rw [rj] at hd;cases hd;exact he rfl
 have up:∀{d:Nat} {cs:List Value},g[d]?=some (.arr 3 cs)->(g4.set io (.arr 28 [eY,gn]))[d]?=some (.arr 3 cs):=λhd=>by
  have h4:=ng (nr hd λcs e=>by cases e) λcs e=>by cases e
  exact cI h4 (rT h4 (by decide))
 refine ⟨eY,g3,gn,g4,_,_,e1,mT AA (by simp),me tz,e2,s5,s6,⟨x4.set oi _,oi,?_,?_,?_,by simp [xf],by simp [hlen],?_,?_⟩⟩
 ·rw [getElem?_set_self wC]
 ·rw [map_append]
  refine lS.cI λd nn e _=>?_
  have hd:=(lS.lt e).2.2
  have h4:=ng hd λcs e=>by cases e
  rw [cI h4 (rT h4 (by decide)),hd]
 ·rw [map_append]
  refine kg.cI λd nn e _=>?_
  have hd:=(kg.lt e).2.2
  rw [cI hd (rT hd (by decide)),hd]
 ·intro i hi
  rw [length_append,length_singleton] at hi
  by_cases c:i<RI.length
  ·rw [getElem_append_left c]
   have e:(R++[l]).getD i []=R.getD i []:=by rw [getD_eq_getElem?_getD,getElem?_append_left (by omega),<-getD_eq_getElem?_getD]
   rw [e]
   exact up (p.rows i c)
  ·have:i=RI.length:=by omega
   subst this
   have e:(R++[l]).getD RI.length []=l:=by rw [getD_eq_getElem?_getD,xf];simp
   rw [e,List.getElem_append_right (le_refl _)]
   simp only [sub_self,List.getElem_singleton]
   exact up hr
 ·intro x hx
  rcases mem_append.1 hx with hx | hx
  ·exact p.ro x hx
  ·rw [mem_singleton] at hx
   subst hx
   exact vW
theorem NX.out (p:NX g0 io k RI R H vr vg g) (eT:∀i (hi:i<R.length),R[i].length=k) (h0:0<R.length) (hk:k<=1000):LL g vr R/\BL g vg H:=by
 have rl:=p.rl;have hH:=p.hl
 constructor
 ·rcases p.gZ with ⟨_,e⟩ | ⟨i,hi,rfl,hg⟩
  ·have:=congrArg List.length e
   simp at this;rw [this] at rl;simp at rl;omega
  ·refine ⟨by rw [length_map,rl];rfl,λj hj=>⟨i,j,sl 3 (RI[j]'(by omega)) 0 k,?_,?_,?_⟩⟩
   ·simp [aI,sl,rl,hj]
   ·have dH:j<RI.length:=by omega
    simp [af,bn,hg,cU,dH]
   ·have dH:j<RI.length:=by omega
    have hr:=p.rows j dH
    have lo:=p.ro _ (getElem_mem dH)
    have e:R.getD j []=R[j]:=by rw [getD_eq_getElem?_getD,getElem?_eq_getElem hj,getD_some]
    rw [e] at hr
    have hlen:=eT j hj
    exact Bv (b:=g0.length) (.inr ⟨_,lo,by rw [length_map,hlen],hr⟩) (by omega)
 ·rcases p.og with ⟨_,e⟩ | ⟨i,hi,rfl,hg⟩
  ·have:=congrArg List.length e
   simp at this;rw [this] at hH;simp at hH;omega
  ·refine ⟨by rw [length_map];rfl,λj hj=>⟨i,j,?_,?_⟩⟩
   ·simp [aI,sl,hj]
   ·simp [af,bn,hg,cU,hj]
end
section
variable {W St : List Tx} {K : Value -> ae -> Prop} {y lv : Value}
theorem Sa {α:Type} {t:Tx} {l:List Tx} {k:Nat} (hk:k<l.length) (a b:α):(if t∈l.take (k+1) then a else b)=if l[k]=t then a else if t∈l.take k then a else b:=by
 rw [take_succ_eq_append_getElem hk]
 by_cases c:l[k]=t
 ·rw [if_pos c,if_pos (by rw [mem_append,mem_singleton];exact .inr c.symm)]
 ·rw [if_neg c]
  by_cases c2:t∈l.take k
  ·rw [if_pos c2,if_pos (List.mem_append_left _ c2)]
  ·rw [if_neg c2,if_neg]
   rw [mem_append,mem_singleton]
   rintro (h | h)
   ·exact c2 h
   ·exact c h.symm
theorem toC {v aA row bZ b6 cB:Value} {g:ae} {i:Nat} {c:UInt8} {L1 L2:List Value->ae->Prop} (sv:SS g lv W) (hv:SS g v St) (p:iB W St) (hi:i<St.length) (hs:St.length<=50) (hw:W.length<=5) (hl:St[i].length<=10)
  (hq:IE prog K y lv v aA (I i) row (I (fz W St (St[i]++[c]):Nat)) bZ b6 cB L1 L2 g):
  bM [I St.length,(.int .i64 (0))] g λL3 xs hx=>IA prog K y lv v aA (I i) row (S [c]) bZ b6 cB L1 L2 L3 xs hx:=by
 obtain ⟨b1,o1,a1,a2⟩:=hv.get i hi
 have add:ai .add (S St[i]) (S [c])=some (S (St[i]++[c])):=l8 (a:=St[i]) (b:=[c]) (by simp [maxLen];omega)
 generalize ht:St[i]++[c]=t at hq add
 refine cG (σ:=Nat) (λk=>[I ((if t∈W.take k then 0 else St.length:Nat):Nat),I k]) (λ_=>g) (λk=>k<=W.length) (λk=>W.length-k) 0 (by simp) rfl (zero_le _) ?_
 intro k hk L hL
 rw [amQ]
 simp only [sv.len,ag,cb,bL]
 refine ⟨λar=>?_,λcY=>?_⟩
 ·have ar:k<W.length:=by omega
  obtain ⟨b2,o2,c1,c2⟩:=sv.get k ar
  have nx:=hL (k+1) ar (by show W.length-(k+1)<W.length-k;omega)
  rw [Sa ar] at nx
  simp only [c1,c2,a1,a2,ag,add,kN,bL,true_and]
  refine ⟨λh=>?_,λh=>?_⟩
  ·rw [if_pos h] at nx
   rw [WU]
   simp only [cD,ag,true_and]
   rw [dW k (by simp [maxLen];omega)]
   exact nx
  ·rw [if_neg h] at nx
   rw [WU]
   simp only [cD,ag,true_and]
   rw [dW k (by simp [maxLen];omega)]
   exact nx
 ·have:k=W.length:=by omega
  subst this
  rw [take_length,amR]
  refine cG (σ:=Nat) (λj=>[I ((if t∈St.take j then St.idxOf t else if t∈W then 0 else St.length:Nat):Nat),I j]) (λ_=>g) (λj=>j<=St.length) (λj=>St.length-j) 0 (by simp) rfl (zero_le _) ?_
  intro j hj L2 eK
  rw [amT]
  simp only [hv.len,ag,cb,bL]
  refine ⟨λar=>?_,λcY=>?_⟩
  ·have ar:j<St.length:=by omega
   obtain ⟨b3,o3,d1,d2⟩:=hv.get j ar
   have nx:=eK (j+1) ar (by show St.length-(j+1)<St.length-j;omega)
   rw [Sa ar] at nx
   simp only [d1,d2,a1,a2,ag,add,kN,bL,true_and]
   refine ⟨λh=>?_,λh=>?_⟩
   ·rw [if_pos h] at nx
    have e:St.idxOf t=j:=by rw [<-h];exact p.nd.idxOf_getElem j ar
    rw [e] at nx
    rw [WV]
    simp only [cD,ag,true_and]
    rw [dW j (by simp [maxLen];omega)]
    exact nx
   ·rw [if_neg h] at nx
    rw [WV]
    simp only [cD,ag,true_and]
    rw [dW j (by simp [maxLen];omega)]
    exact nx
  ·have:j=St.length:=by omega
   subst this
   rw [take_length]
   exact hq
def Xh (K:Value->ae->Prop) (y1 l5 aA:Value) (h_7:ae):Prop:=
 aw prog 5 [l5] h_7 λxH h_8=>
 OP (cd 0 xH) λ_=>
 OP (cd 1 xH) λKH=>
 aw prog 6 [l5] h_8 λxI h_9=>
 OP (cd 0 xI) λ_=>
 OP (cd 1 xI) λKI=>
 OP (ai .neq KH (.int .i64 (5))) λKJ=>
 IF prog K y1 l5 aA KI KJ h_9
theorem ak2 {i:Nat} (hi:i<St.length):(bV W St)[i]'(by simp [bV];omega)=[fz W St (St[i]++[48]),fz W St (St[i]++[49])]:=by
 simp [bV,getElem_append_left,hi]
theorem agj {i:Nat} (hi:i<St.length):(gN St)[i]'(by simp [gN];omega)=decide (i=0):=by
 simp [gN,getElem_append_left,hi]
theorem akD {v:Value} {g0:ae} (pb:fS W) (p:iB W St) (sv:SS g0 lv W) (hv:SS g0 v St) (gF:St.length<=50)
  (ahA:6<=St.length->K (.bool true) g0)
  (hk:St.length<=5->∀vr vg io g,EX g0 g->g[io]?=some (.arr 28 [vr,vg])->g0.length<=io->MB g (.agg #[vr,vg]) (St.length+1) 2 (bV W St) (gN St)->Xh K y lv (pt io 0) g):BG prog K y lv v g0:=by
 rw [amN]
 simp only [hv.len,ag,lG,bL]
 refine ⟨λh=>ahA (by omega),λh=>?_⟩
 have h5:St.length<=5:=by omega
 have hw5:=pb.hi
 have e0:jo [(.slice none 0 0),(.slice none 0 0)] []=some (.agg #[.slice none 0 0,.slice none 0 0]):=rfl
 have e1:cH 28 [(.slice none 0 0),(.slice none 0 0)] g0=some (pt g0.length 0,g0++[.arr 28 [.slice none 0 0,.slice none 0 0]]):=rfl
 have c1:(g0++[ax.arr 28 [.slice none 0 0,.slice none 0 0]])[g0.length]?=some (.arr 28 [.slice none 0 0,.slice none 0 0]):=bP
 have s1:=ki (x:=.slice none 0 0) (y:=.slice none 0 0) c1
 have e2:(g0++[ax.arr 28 [.slice none 0 0,.slice none 0 0]]).set g0.length (.arr 28 [.slice none 0 0,.slice none 0 0])=g0++[.arr 28 [.slice none 0 0,.slice none 0 0]]:=by simp
 rw [e2] at s1
 have x1:EX g0 (g0++[.arr 28 [.slice none 0 0,.slice none 0 0]]):=EX.append _ _
 simp only [e0,ag,e1,bc,s1]
 generalize g0++[ax.arr 28 [.slice none 0 0,.slice none 0 0]]=g1 at x1 c1⊢
 have p0:NX g0 g0.length 2 [] [] [] (.slice none 0 0) (.slice none 0 0) g1:=⟨x1,le_refl _,c1,.inl ⟨rfl,rfl⟩,.inl ⟨rfl,rfl⟩,rfl,rfl,λi hi=>absurd hi (not_lt_zero i),λr hr=>absurd hr (by simp)⟩
 have nl:(bV W St).length=St.length+1:=by simp [bV]
 have gl:(gN St).length=St.length+1:=by simp [gN]
 refine cG (σ:=Nat×List Nat×Value×Value×ae) (λq=>[I q.1]) (λq=>q.2.2.2.2) (λq=>q.1<=St.length/\NX g0 g0.length 2 q.2.1 ((bV W St).take q.1) ((gN St).take q.1) q.2.2.1 q.2.2.2.1 q.2.2.2.2) (λq=>St.length-q.1)
  (0,[],.slice none 0 0,.slice none 0 0,g1) rfl rfl ⟨zero_le _,by simpa using p0⟩ ?_
 rintro ⟨i,RI,vr,vg,g⟩ ⟨hi,pn⟩ L hL
 simp only at hi pn hL⊢
 have Rz:=hv.mono pn.ex
 rw [amO]
 simp only [Rz.len,ag,cb,bL]
 refine ⟨λar=>?_,λcY=>?_⟩
 ·have ar:i<St.length:=by omega
  have apn:St[i].length<=10:=by
   obtain ⟨w,w1,w2,w3⟩:=p.pre _ (getElem_mem ar)
   have:=pb.p.le _ w1;omega
  have m0:bq 3 0 [(.int .i64 (0))] g []=some (sl 3 g.length 0 0,g++[.arr 3 []]):=by simp [bq,fE,dt]
  have y1:EX g (g++[.arr 3 []]):=EX.append _ _
  have d1:(g++[ax.arr 3 []])[g.length]?=some (.arr 3 []):=bP
  have ln1:(g++[ax.arr 3 []]).length=g.length+1:=by simp
  simp only [m0,bc]
  generalize g++[ax.arr 3 []]=g2 at y1 d1 ln1⊢
  have m1:bq 9 2 [(.string ⟨#[]⟩)] g2 [(0,1,(.string ⟨#[48]⟩)),(1,1,(.string ⟨#[49]⟩))]=some (sl 9 g2.length 0 2,g2++[.arr 9 [S [48],S [49]]]):=by
   simp [bq,fE,dt,setAt,de,bK,Value.cells,S]
  have y2:EX g2 (g2++[.arr 9 [S [48],S [49]]]):=EX.append _ _
  have d2:(g2++[ax.arr 9 [S [48],S [49]]])[g2.length]?=some (.arr 9 [S [48],S [49]]):=bP
  have lb:aZ (sl 9 g2.length 0 2)=some (I 2):=rfl
  simp only [m1,bc,lb,ag]
  generalize g2++[ax.arr 9 [S [48],S [49]]]=g3 at y2 d2⊢
  have Fk:=pn.ex.1
  refine cG (σ:=Nat×Value×ae) (λq=>[q.2.1,I q.1]) (λq=>q.2.2) (λq=>q.1<=2/\NX g0 g0.length 2 RI ((bV W St).take i) ((gN St).take i) vr vg q.2.2/\cK g0.length q.2.2 3 q.2.1 ((([fz W St (St[i]++[48]),fz W St (St[i]++[49])]:List Nat).take q.1).map λx:Nat=>I x)/\
    (∀x∈RI,∀n,q.2.1≠sl 3 x 0 n)/\q.2.2[g2.length]?=some (.arr 9 [S [48],S [49]])) (λq=>2-q.1)
   (0,sl 3 g.length 0 0,g3) rfl rfl ⟨zero_le _,pn.push (y1.trans y2),.inr ⟨g.length,Fk,rfl,y2.get d1⟩,λx hx n e=>?_,d2⟩ ?_
  ·have:=(pe e).1
   obtain ⟨j,hj,e2⟩:=getElem_of_mem hx
   have:=(ba (pn.rows j hj)).1
   omega
  ·rintro ⟨b,v4,g4⟩ ⟨hb,oX,kg,SL,AD⟩ L2 eK
   simp only at hb oX kg SL AD eK⊢
   have Ry:=hv.mono oX.ex
   have sv4:=sv.mono oX.ex
   rw [amP]
   simp only [cb,ag,bL]
   refine ⟨λarK=>?_,λarE=>?_⟩
   ·have th:b=0∨b=1:=by omega
    have bit:∃c:UInt8,(b=0/\c=48∨b=1/\c=49)/\aI 1 (sl 9 g2.length 0 2) (I b)=some (pt g2.length b)/\af false 1 g4 (pt g2.length b)=some (S [c]):=by
     rcases th with rfl | rfl
     ·exact ⟨48,.inl ⟨rfl,rfl⟩,rfl,by simp [af,bn,AD,cU]⟩
     ·exact ⟨49,.inr ⟨rfl,rfl⟩,rfl,by simp [af,bn,AD,cU]⟩
    obtain ⟨c,hc,b1,b2⟩:=bit
    simp only [b1,b2,ag,Ry.len]
    refine toC sv4 Ry p ar gF hw5 apn ?_
    rw [amU]
    have tl:(([fz W St (St[i]++[48]),fz W St (St[i]++[49])]:List Nat).take b).length<=10:=by rw [length_take];simp;omega
    refine aon oX kg SL tl ?_
    intro v5 g5 pn5 Bu ni5 akc
    rw [amV]
    simp only [cD,ag,true_and]
    rw [dW b (by simp [maxLen];omega)]
    refine eK (b+1,v5,g5) ⟨by show b+1<=2;omega,pn5,?_,ni5,akc AD (λcs e=>by cases e)⟩ (by show 2-(b+1)<2-b;omega)
    show cK g0.length g5 3 v5 _
    rcases hc with ⟨rfl,rfl⟩ | ⟨rfl,rfl⟩ <;> exact Bu
   ·have th:b=2:=by omega
    subst th
    rw [amW]
    have alo:cK g0.length g4 3 v4 ([fz W St (St[i]++[48]),fz W St (St[i]++[49])].map λx:Nat=>I x):=kg
    rcases alo with ⟨_,e⟩ | ⟨fo,vW,rfl,tE⟩
    ·simp at e
    ·have e1:bq 29 1 [(.slice none 0 0)] g4 [(0,1,sl 3 fo 0 2)]=some (sl 29 g4.length 0 1,g4++[.arr 29 [sl 3 fo 0 2]]):=by
      simp [bq,fE,dt,setAt,de,bK,Value.cells,sl]
     have rN:([fz W St (St[i]++[48]),fz W St (St[i]++[49])].map λx:Nat=>I x).length=2:=rfl
     rw [rN]
     have z1:EX g4 (g4++[.arr 29 [sl 3 fo 0 2]]):=EX.append _ _
     have f1:(g4++[ax.arr 29 [sl 3 fo 0 2]])[g4.length]?=some (.arr 29 [sl 3 fo 0 2]):=bP
     have AU:=(ba tE).1
     have wN:gY g4.length (sl 3 fo 0 2)=true:=by simp [gY,sl,AU]
     simp only [e1,bc]
     generalize g4++[ax.arr 29 [sl 3 fo 0 2]]=g5 at z1 f1⊢
     have e2:bq 4 1 [(.bool false)] g5 [(0,1,B (decide ((i:Int)=0)))]=some (sl 4 g5.length 0 1,g5++[.arr 4 [B (decide ((i:Int)=0))]]):=by
      simp [bq,fE,dt,setAt,de,bK,Value.cells]
     have z2:EX g5 (g5++[.arr 4 [B (decide ((i:Int)=0))]]):=EX.append _ _
     have f2:(g5++[ax.arr 4 [B (decide ((i:Int)=0))]])[g5.length]?=some (.arr 4 [B (decide ((i:Int)=0))]):=bP
     simp only [mT f1 wN,ag,ij,e2,bc,true_and]
     generalize g5++[ax.arr 4 [B (decide ((i:Int)=0))]]=g6 at z2 f2⊢
     have uG:=z1.trans z2
     have pn6:=oX.push uG
     have f16:=z2.get f1
     have fa:af false 1 g4 (pt g0.length 0)=some vr:=kR oX.ho
     have fb:af false 1 g4 (pt g0.length 1)=some vg:=me oX.ho
     obtain ⟨eY,g7,gn,g8,g9,oA,a1,a2,a3,a4,a5,a6,p6⟩:=MY pn6 (uG.get tE) vW f16 f2 (by rw [length_take];omega)
     simp only [mT f2 (by simp),mT f16 wN,ag,gM,zero_add,fa,EX.load z1 fa,EX.load uG fa,fb,EX.load z1 fb,EX.load uG fb,a1,a2,a3,a4,a5,a6,bc,true_and,and_self]
     rw [amX]
     simp only [cD,ag,true_and]
     rw [dW i (by simp [maxLen];omega)]
     refine hL (i+1,RI++[fo],eY,gn,oA) ⟨ar,?_⟩ (by show St.length-(i+1)<St.length-i;omega)
     have t1:(bV W St).take (i+1)=(bV W St).take i++[[fz W St (St[i]++[48]),fz W St (St[i]++[49])]]:=by
      rw [take_succ_eq_append_getElem (by omega),ak2 ar]
     have t2:(gN St).take (i+1)=(gN St).take i++[decide ((i:Int)=0)]:=by
      rw [take_succ_eq_append_getElem (by omega),agj ar]
      congr 2
      rw [decide_eq_decide];omega
     show NX g0 g0.length 2 (RI++[fo]) ((bV W St).take (i+1)) ((gN St).take (i+1)) eY gn oA
     rw [t1,t2]
     exact p6
 ·have hiS:i=St.length:=by omega
  subst hiS
  rw [amY]
  have e1:=SC g St.length St.length
  have z1:EX g (g++[.arr 3 [I St.length,I St.length]]):=EX.append _ _
  have f1:(g++[ax.arr 3 [I St.length,I St.length]])[g.length]?=some (.arr 3 [I St.length,I St.length]):=bP
  have l1:(g++[ax.arr 3 [I St.length,I St.length]]).length=g.length+1:=by simp
  have SW:∀{g':ae},g'[g.length]?=some (.arr 3 [I St.length,I St.length])->cF g' (sl 3 g.length 0 2)=some (.agg #[.int .i64 3,I St.length,I St.length]):=by
   intro g' hg
   simp [cF,rG,sl,hg,jY]
  simp only [Rz.len,ag,e1,bc,SW f1,true_and]
  generalize g++[ax.arr 3 [I St.length,I St.length]]=g2 at z1 f1 l1⊢
  have e2:bq 29 1 [(.slice none 0 0)] g2 [(0,1,sl 3 g.length 0 2)]=some (sl 29 g2.length 0 1,g2++[.arr 29 [sl 3 g.length 0 2]]):=by
   simp [bq,fE,dt,setAt,de,bK,Value.cells,sl]
  have z2:EX g2 (g2++[.arr 29 [sl 3 g.length 0 2]]):=EX.append _ _
  have f2:(g2++[ax.arr 29 [sl 3 g.length 0 2]])[g2.length]?=some (.arr 29 [sl 3 g.length 0 2]):=bP
  have Uk:gY g2.length (sl 3 g.length 0 2)=true:=by simp [gY,sl,l1]
  simp only [e2,bc,mT f2 Uk,ag]
  generalize g2++[ax.arr 29 [sl 3 g.length 0 2]]=g3 at z2 f2⊢
  have e3:bq 4 1 [(.bool false)] g3 [(0,1,(.bool false))]=some (sl 4 g3.length 0 1,g3++[.arr 4 [B false]]):=by
   simp [bq,fE,dt,setAt,de,bK,Value.cells]
  have z3:EX g3 (g3++[.arr 4 [B false]]):=EX.append _ _
  have f3:(g3++[ax.arr 4 [B false]])[g3.length]?=some (.arr 4 [B false]):=bP
  simp only [e3,bc]
  generalize g3++[ax.arr 4 [B false]]=g4 at z3 f3⊢
  have Lb:=z2.trans z3
  have K9:=z1.trans Lb
  have oX:=pn.push K9
  have fa:af false 1 g (pt g0.length 0)=some vr:=kR pn.ho
  have fb:af false 1 g (pt g0.length 1)=some vg:=me pn.ho
  have Fk:=pn.ex.1
  obtain ⟨eY,g7,gn,g8,g9,oA,a1,a2,a3,a4,a5,a6,p6⟩:=MY (l:=[St.length,St.length]) oX (Lb.get f1) Fk (z3.get f2) f3 (by rw [length_take];omega)
  simp only [mT f3 (by simp),SW (Lb.get f1),mT (z3.get f2) Uk,ag,gM,zero_add,fa,EX.load z1 fa,EX.load (z1.trans z2) fa,EX.load K9 fa,fb,EX.load z1 fb,EX.load (z1.trans z2) fb,EX.load K9 fb,a1,a2,a3,a4,a5,a6,bc,true_and,and_self]
  have t1:(bV W St).take St.length++[[St.length,St.length]]=bV W St:=by
   unfold bV
   rw [List.take_left' (by simp)]
  have t2:(gN St).take St.length++[false]=gN St:=by
   unfold gN
   rw [List.take_left' (by simp)]
  rw [t1,t2] at p6
  have b:=SQ W St
  obtain ⟨ll,bl⟩:=p6.out b.row (by omega) (by omega)
  exact hk h5 eY gn g0.length oA p6.ex p6.ho (le_refl _) ⟨b,gl,by omega,by omega,by omega,by omega,eY,gn,rfl,ll,bl,p6.gZ.one,p6.og.one⟩
end
section
variable {W St : List Tx} {K : Value -> ae -> Prop} {y lv : Value}
def np (c:UInt8):UInt8:=if c=48 then 97 else 98
def uU (t:Tx):Prop:=∀c∈t,c=48∨c=49
theorem MU {t:Tx}:Cr 2 (t.map np):=λc hc=>by
 obtain ⟨d,_,rfl⟩:=mem_map.1 hc
 unfold np
 split <;> decide
theorem MT {t:Tx}:iQ (t.map np)=dQ t:=by
 unfold iQ dQ
 rw [List.map_map]
 refine List.map_congr_left λc _=>?_
 simp only [Function.comp_apply,np,nq]
 split <;> rfl
theorem piece {c:UInt8} (hc:c=48∨c=49):∃a b,ai .sub (cv c) (.int .u8 (48))=some a/\ai .add a (.int .u8 (1))=some b/\gh (.string ⟨#[97,98]⟩) (some a) (some b)=some (S [np c]):=by
 rcases hc with rfl | rfl
 ·exact ⟨.int .u8 0,.int .u8 1,rfl,rfl,rfl⟩
 ·exact ⟨.int .u8 1,.int .u8 2,rfl,rfl,rfl⟩
theorem apM {aA:Value} {t:Tx} {g:ae} (hb:uU t) (hl:t.length<=200) (hk:BE prog K lv aA (S t) (S (t.map np)) g):BD prog K lv aA (S t) (.string ⟨#[]⟩) g:=by
 rw [amF]
 refine cG (σ:=Nat) (λi=>[S ((t.take i).map np),I i]) (λ_=>g) (λi=>i<=t.length) (λi=>t.length-i) 0 rfl rfl (zero_le _) ?_
 intro i hi L hL
 rw [amG]
 simp only [gX,ag,cb,bL]
 refine ⟨λar=>?_,λcY=>?_⟩
 ·have ar:i<t.length:=by omega
  obtain ⟨a,b,e1,e2,e3⟩:=piece (hb _ (getElem_mem ar))
  have e4:=l8 (a:=(t.take i).map np) (b:=[np t[i]]) (by simp [maxLen];omega)
  have nx:=hL (i+1) ar (by show t.length-(i+1)<t.length-i;omega)
  rw [take_succ_eq_append_getElem ar,map_append] at nx
  simp only [Ha ar,ag,e1,e2,e3,e4,cD,true_and]
  rw [dW i (by simp [maxLen];omega)]
  exact nx
 ·have:i=t.length:=by omega
  subst this
  rw [take_length]
  exact hk
theorem apC {aA:Value} {bs:List Nat} {g:ae} (pb:fS W) (sv:SS g lv W) (hy:NS g y .u8 (bs.map λb:Nat=>(b:Int))) (agu:∀b∈bs,b<256) (hl:bs.length<=maxLen)
  (hk:∀t:Tx,uU t->t.length<=69->BD prog K lv aA (S t) (.string ⟨#[]⟩) g):
  bM [(.string ⟨#[]⟩),(.int .i64 (0))] g λL1 xs hx=>IH prog K y lv aA (.string ⟨#[]⟩) L1 xs hx:=by
 have Sk:=hy.len
 rw [length_map] at Sk
 have lo:=pb.lo;have tv:=pb.hi
 refine cG (σ:=Tx×Nat) (λq=>[S q.1,I q.2]) (λ_=>g) (λq=>uU q.1/\q.1.length<=69/\q.2<=bs.length) (λq=>bs.length-q.2) ([],0) rfl rfl ⟨λc hc=>by simp at hc,zero_le _,zero_le _⟩ ?_
 rintro ⟨t,i⟩ ⟨hb,FU,hi⟩ L hL
 simp only at hb FU hi hL⊢
 have next:∀u:Tx,uU u->u.length<=10->t.length<60->i<bs.length->BC prog K y lv aA (S (t++u)) (.string ⟨#[]⟩) (I i) L g:=by
  intro u hu hul ht ar
  rw [amE]
  simp only [cD,ag,true_and]
  rw [dW i (by omega)]
  refine hL (t++u,i+1) ⟨λc hc=>?_,by show (t++u).length<=69;rw [length_append];omega,ar⟩ (by show bs.length-(i+1)<bs.length-i;omega)
  rcases mem_append.1 hc with hc | hc
  ·exact hb c hc
  ·exact hu c hc
 rw [am1]
 simp only [Sk,ag,cb]
 by_cases ar:i<bs.length
 ·rw [cz (show (i:Int)<bs.length by omega),WC]
  simp only [hI,gX,ag,cb]
  rw [WD]
  simp only [fh,ag,bL]
  refine ⟨λh60=>?_,λ_=>hk t hb FU⟩
  have hbi:=agu _ (getElem_mem ar)
  obtain ⟨b1,o1,a1,a2⟩:=hy.get i (by simpa using ar)
  rw [getElem_map] at a2
  simp only [a1,a2,ag,cb,bL]
  refine ⟨λQD=>?_,λQD=>?_⟩
  ·have rem:ai .rem (I bs[i]) (I W.length)=some (I (bs[i]%W.length:Nat)):=xe .i64 _ _ (by omega)
   have gG:bs[i]%W.length<W.length:=Nat.mod_lt _ (by omega)
   obtain ⟨b2,o2,c1,c2⟩:=sv.get _ gG
   have wl:=pb.p.le _ (getElem_mem gG)
   simp only [Nf hbi,sv.len,rem,ag,c1,c2,l8 (a:=t) (b:=W[bs[i]%W.length]) (by simp [maxLen];omega)]
   exact next _ (pb.p.bt _ (getElem_mem gG)) wl (by omega) ar
  ·have rem:ai .rem (.int .u8 (bs[i]:Int)) (.int .u8 (2))=some (.int .u8 ((bs[i]%2:Nat):Int)):=xe .u8 _ 2 (by omega)
   simp only [rem,ag,true_and]
   have fin:∃(c:UInt8) (b:Value),(c=48∨c=49)/\ai .add (.int .u8 ((bs[i]%2:Nat):Int)) (.int .u8 (1))=some b/\gh (.string ⟨#[48,49]⟩) (some (.int .u8 ((bs[i]%2:Nat):Int))) (some b)=some (S [c]):=by
    have:bs[i]%2=0∨bs[i]%2=1:=by omega
    rcases this with e | e
    ·rw [e];exact ⟨48,.int .u8 1,.inl rfl,rfl,rfl⟩
    ·rw [e];exact ⟨49,.int .u8 2,.inr rfl,rfl,rfl⟩
   obtain ⟨c,b,hc,e1,e2⟩:=fin
   simp only [e1,e2,ag,l8 (a:=t) (b:=[c]) (by simp [maxLen];omega)]
   exact next [c] (λd hd=>by rw [mem_singleton] at hd;subst hd;exact hc) (by simp) (by omega) ar
 ·rw [bN (show ¬(i:Int)<bs.length by omega),WC]
  simp only [jz]
  rw [WD]
  simp only [dO,ag,cN]
  exact hk t hb FU
end
section
variable {g0 g g' : ae} {io dP cM k : Nat} {S RI : List Nat} {R : List (List Nat)} {H : List Bool} {vr vg v : Value} {l : List Nat}
variable {h : ae} {n : Nat} {N : List (List Nat)} {G : List Bool} {D : List (List Bool)} {K : Value -> ae -> Prop}
theorem SX.out (p:SX g0 io dP cM k S RI R H vr vg g) (eT:∀i (hi:i<R.length),R[i].length=k) (h0:0<R.length) (hk:k<=1000) (hd:∀d,g0.length<=d->g'[d]?=g[d]?) (hH:H.length=R.length):LL g' vr R/\BL g' vg H:=by
 have rl:=p.rl
 constructor
 ·rcases p.gZ with ⟨_,e⟩ | ⟨i,hi,rfl,hg⟩
  ·have:=congrArg List.length e
   simp at this;rw [this] at rl;simp at rl;omega
  ·refine ⟨by rw [length_map,rl];rfl,λj hj=>⟨i,j,sl 3 (RI[j]'(by omega)) 0 k,?_,?_,?_⟩⟩
   ·simp [aI,sl,rl,hj]
   ·have:=hd i hi
    rw [hg] at this
    have dH:j<RI.length:=by omega
    simp [af,bn,this,cU,dH]
   ·have dH:j<RI.length:=by omega
    have hr:=p.rows j dH
    have lo:=(p.ro _ (getElem_mem dH)).1
    rw [<-hd _ lo] at hr
    have e:R.getD j []=R[j]:=by rw [getD_eq_getElem?_getD,getElem?_eq_getElem hj,getD_some]
    rw [e] at hr
    have hlen:=eT j hj
    exact Bv (b:=g0.length) (.inr ⟨_,lo,by rw [length_map,hlen],hr⟩) (by omega)
 ·rcases p.og with ⟨_,e⟩ | ⟨i,hi,rfl,hg⟩
  ·have:=congrArg List.length e
   simp at this;rw [this] at hH;simp at hH;omega
  ·refine ⟨by rw [length_map];rfl,λj hj=>⟨i,j,?_,?_⟩⟩
   ·simp [aI,sl,hj]
   ·have:=hd i hi
    rw [hg] at this
    simp [af,bn,this,cU,hj]
theorem akF {av gg:Value} {ib ir im id:Nat} {Rm:List Nat} (b:gy n k N) (n1:1<=n) (n6:n<=6) (k1:1<=k) (k3:k<=3) (hl:LL h av N) (hb:BL h gg G) (gl:G.length=n) (m:MX h ib ir im id av gg n Rm D g0) (td:Rm.length=n)
  (d:DI n k N G D) (c:yj n k N D) (hk:∀v g' n' R H,EX h g'->(∀qR:ae,(∀d,h.length<=d->qR[d]?=g'[d]?)->MB qR v n' k R H)->(∀w:List Nat,(∀a∈w,a<k)->fX R H 0 w=fX N G 0 w)->K v g'):
  BA prog K (pt ib 0) (pt ir 0) (pt id 0) g0:=by
 rw [ams]
 have e1:cH 28 [(.slice none 0 0),(.slice none 0 0)] g0=some (pt g0.length 0,g0++[.arr 28 [.slice none 0 0,.slice none 0 0]]):=rfl
 have x1:EX g0 (g0++[.arr 28 [.slice none 0 0,.slice none 0 0]]):=EX.append _ _
 have c1:(g0++[ax.arr 28 [.slice none 0 0,.slice none 0 0]])[g0.length]?=some (.arr 28 [.slice none 0 0,.slice none 0 0]):=bP
 have l1:(g0++[ax.arr 28 [.slice none 0 0,.slice none 0 0]]).length=g0.length+1:=by simp
 simp only [e1,bc]
 generalize g0++[ax.arr 28 [.slice none 0 0,.slice none 0 0]]=g1 at x1 c1 l1⊢
 have e2:bq 3 1 [(.int .i64 (0))] g1 [(0,1,(.int .i64 (0)))]=some (sl 3 g1.length 0 1,g1++[.arr 3 [I 0]]):=by
  simp [bq,fE,dt,setAt,de,bK,Value.cells]
 have x2:EX g1 (g1++[.arr 3 [I 0]]):=EX.append _ _
 have c2:(g1++[ax.arr 3 [I 0]])[g1.length]?=some (.arr 3 [I 0]):=bP
 have l2:(g1++[ax.arr 3 [I 0]]).length=g1.length+1:=by simp
 simp only [e2,bc]
 generalize g1++[ax.arr 3 [I 0]]=g2 at x2 c2 l2⊢
 have e3:cH 29 [(.slice none 0 0)] g2=some (pt g2.length 0,g2++[.arr 29 [.slice none 0 0]]):=rfl
 have s3:=lU (bP:(g2++[ax.arr 29 [.slice none 0 0]])[g2.length]?=some (.arr 29 [.slice none 0 0])) (o:=0) (v:=sl 3 g1.length 0 1) (by simp) rfl rfl
 have e4:(g2++[ax.arr 29 [.slice none 0 0]]).set g2.length (.arr 29 ([.slice none 0 0].set 0 (sl 3 g1.length 0 1)))=g2++[.arr 29 [sl 3 g1.length 0 1]]:=by simp
 rw [e4] at s3
 have x3:EX g2 (g2++[.arr 29 [sl 3 g1.length 0 1]]):=EX.append _ _
 have c3:(g2++[ax.arr 29 [sl 3 g1.length 0 1]])[g2.length]?=some (.arr 29 [sl 3 g1.length 0 1]):=bP
 simp only [e3,s3,bc]
 generalize g2++[ax.arr 29 [sl 3 g1.length 0 1]]=g3 at x3 c3⊢
 have p0:SX g0 g0.length g2.length g1.length k [0] [] [] [] (.slice none 0 0) (.slice none 0 0) g3:=
  ⟨(x1.trans x2).trans x3,le_refl _,by omega,(x2.trans x3).get c1,c3,x3.get c2,by omega,.inl ⟨rfl,rfl⟩,.inl ⟨rfl,rfl⟩,rfl,λi hi=>absurd hi (not_lt_zero i),λr hr=>absurd hr (by simp),λn e=>by simp [Go.Sim.sl] at e⟩
 refine cG (σ:=List Nat×Nat×List Nat×List (List Nat)×List Bool×Value×Value×ae) (λt=>[I t.2.2.2.1.length]) (λt=>t.2.2.2.2.2.2.2)
  (λt=>SX g0 g0.length g2.length t.2.1 k t.1 t.2.2.1 t.2.2.2.1 t.2.2.2.2.1 t.2.2.2.2.2.1 t.2.2.2.2.2.2.1 t.2.2.2.2.2.2.2/\jh n k N G D t.1 t.2.2.2.1 t.2.2.2.2.1) (λt=>n-t.2.2.2.1.length)
  ([0],g1.length,[],[],[],.slice none 0 0,.slice none 0 0,g3) rfl rfl ⟨p0,jh.start k N G D (by omega)⟩ ?_
 rintro ⟨S,cM,RI,R,H,vr,vg,g⟩ ⟨p,q⟩ L hL
 simp only at p q hL⊢
 have gF:S.length<=n:=rW q.nd q.lt
 have rR:af false 1 g (pt g2.length 0)=some (sl 3 cM 0 S.length):=tU (by simp [bn,p.hs])
 have len:aZ (sl 3 cM 0 S.length)=some (I S.length):=rfl
 rw [amt]
 simp only [rR,len,ag,cb,bL]
 refine ⟨λar=>?_,λcY=>?_⟩
 ·have du:R.length<S.length:=by omega
  have uj:S.getD R.length 0<n:=by rw [qT du];exact q.lt _ (getElem_mem du)
  have tF:S.getD R.length 0<N.length:=by rw [b.len];exact uj
  have eN:N.getD (S.getD R.length 0) []=N[S.getD R.length 0]:=by rw [getD_eq_getElem?_getD,getElem?_eq_getElem tF,getD_some]
  have Ek:aI 1 (sl 3 cM 0 S.length) (I R.length)=some (pt cM R.length):=by simp [aI,sl,du]
  have A9:af false 1 g (pt cM R.length)=some (I (S.getD R.length 0)):=by
   rw [qT du]
   simp [af,bn,p.hS,cU,du]
  obtain ⟨b0,o0,w,r1,r2,r3⟩:=hl.get _ tF
  have lw:=r3.pY
  rw [b.row _ tF] at lw
  have fa:af false 1 g (pt ib 0)=some av:=kR (m.push p.ex).hb
  simp only [gM,zero_add,ag,fa,Ek,A9,r1,EX.load (m.ex.trans p.ex) r2,lw,true_and]
  refine aoo b n6 k3 m td d du p q (λg' x=>?_) (λS' pd v l g' p' r' gT q' hlen e'=>?_)
  ·rw [eN];exact r3.mono (m.ex.trans x)
  ·have arz:S'.length<=n:=rW q'.nd q'.lt
   refine aop m hb gl p' r' q' gT k1 hlen (by omega) ?_
   intro RI2 vr2 vg2 g4 p4
   rw [amx]
   simp only [cD,ag,true_and]
   rw [dW R.length (by simp [maxLen];omega)]
   have:=hL (S',pd,RI2,R++[l],H++[G.getD (S'.getD R.length 0) false],vr2,vg2,g4) ⟨p4,q'.add gT hlen e'⟩ (by show n-(R++[l]).length<n-R.length;rw [length_append,length_singleton];omega)
   simp only [length_append,length_singleton] at this
   exact this
 ·have hRS:R.length=S.length:=by have:=q.rl;omega
  have ne:=q.ne
  obtain ⟨d1,d2,d3,d4⟩:=q.done b d c hRS
  rw [amy]
  have hr:=p.ex.get m.hr
  have hir:=(ba m.hr).1
  have ahl:=(ba hr).1
  have hr2:(g.set ir (.arr 28 [vr,vg]))[ir]?=some (.arr 28 [vr,vg]):=by rw [getElem?_set_self ahl]
  simp only [er p.ho,ag,ki hr,bc,er hr2]
  have o1:=m.o1;have o2:=m.o2
  refine hk _ _ S.length R H ((m.ex.trans p.ex).set (by omega) _) (λqR ag7=>?_) d4
  have exm:=m.ex.1
  obtain ⟨ll,bl⟩:=p.out (g':=qR) q.row (by omega) (by omega) (λd hd=>by rw [ag7 d (by omega),getElem?_set_ne (by omega)]) q.hl
  exact ⟨d1,d3,ne,by omega,k1,k3,vr,vg,rfl,ll,bl,p.gZ.one,p.og.one⟩
theorem Yu (mb:MB h v n k N G) (hk:∀v g' n' R H,EX h g'->(∀qR:ae,(∀d,h.length<=d->qR[d]?=g'[d]?)->MB qR v n' k R H)->(∀w:List Nat,(∀a∈w,a<k)->fX R H 0 w=fX N G 0 w)->K v g'):aw prog 27 [v] h K:=by
 refine f27 ?_
 obtain ⟨a,gg,e,kU,mw,ha,hg⟩:=mb.mem
 subst e
 have n1:=mb.n1;have n6:=mb.n6;have k1:=mb.k1;have k3:=mb.k3
 have b:=mb.br
 unfold Dz
 rw [qG ha hg]
 have x0:EX h (h++[.arr 28 [a,gg]]):=EX.append _ _
 have c0:(h++[ax.arr 28 [a,gg]])[h.length]?=some (.arr 28 [a,gg]):=bP
 have l0:(h++[ax.arr 28 [a,gg]]).length=h.length+1:=by simp
 simp only [bc]
 generalize h++[ax.arr 28 [a,gg]]=g0 at x0 c0 l0⊢
 have e1:cH 28 [(.slice none 0 0),(.slice none 0 0)] g0=some (pt g0.length 0,g0++[.arr 28 [.slice none 0 0,.slice none 0 0]]):=rfl
 have x1:EX g0 (g0++[.arr 28 [.slice none 0 0,.slice none 0 0]]):=EX.append _ _
 have c1:(g0++[ax.arr 28 [.slice none 0 0,.slice none 0 0]])[g0.length]?=some (.arr 28 [.slice none 0 0,.slice none 0 0]):=bP
 have l1:(g0++[ax.arr 28 [.slice none 0 0,.slice none 0 0]]).length=g0.length+1:=by simp
 simp only [e1,bc]
 generalize g0++[ax.arr 28 [.slice none 0 0,.slice none 0 0]]=g1 at x1 c1 l1⊢
 have len:=(kU.mono (x0.trans x1)).len
 rw [b.len] at len
 simp only [gM,zero_add,ag,kR (x1.get c0),len,akG g1 n6,bc]
 have x2:EX g1 (g1++[.arr 26 (replicate n (.slice none 0 0))]):=EX.append _ _
 have c2:(g1++[ax.arr 26 (replicate n (.slice none 0 0))])[g1.length]?=some (.arr 26 (replicate n (.slice none 0 0))):=bP
 have l2:(g1++[ax.arr 26 (replicate n (.slice none 0 0))]).length=g1.length+1:=by simp
 generalize g1++[ax.arr 26 (replicate n (.slice none 0 0))]=g2 at x2 c2 l2⊢
 have e3:cH 86 [(.slice none 0 0)] g2=some (pt g2.length 0,g2++[.arr 86 [.slice none 0 0]]):=rfl
 have s3:=lU (bP:(g2++[ax.arr 86 [.slice none 0 0]])[g2.length]?=some (.arr 86 [.slice none 0 0])) (o:=0) (v:=sl 26 g1.length 0 n) (by simp) rfl rfl
 have e4:(g2++[ax.arr 86 [.slice none 0 0]]).set g2.length (.arr 86 ([.slice none 0 0].set 0 (sl 26 g1.length 0 n)))=g2++[.arr 86 [sl 26 g1.length 0 n]]:=by simp
 rw [e4] at s3
 have x3:EX g2 (g2++[.arr 86 [sl 26 g1.length 0 n]]):=EX.append _ _
 have c3:(g2++[ax.arr 86 [sl 26 g1.length 0 n]])[g2.length]?=some (.arr 86 [sl 26 g1.length 0 n]):=bP
 simp only [e3,s3,bc]
 generalize g2++[ax.arr 86 [sl 26 g1.length 0 n]]=g3 at x3 c3⊢
 have m0:MX h h.length g0.length g1.length g2.length a gg n [] [] g3:=
  ⟨((x0.trans x1).trans x2).trans x3,((x1.trans x2).trans x3).get c0,(x2.trans x3).get c1,c3,by simpa using x3.get c2,rfl,zero_le _,λi hi=>absurd hi (not_lt_zero i),λi hi=>absurd hi (not_lt_zero i),List.nodup_nil,λr hr=>absurd hr (by simp),le_refl _,by omega,by omega,by omega⟩
 refine ai2 n6 mb.gl mw m0 ?_
 intro Rm g4 td m4
 refine agb b n6 k1 k3 kU td m4 (DI.start n k N G) ?_
 intro D g5 m5 d5 cl
 exact akF b n1 n6 k1 k3 kU mw mb.gl m5 td d5 cl hk
theorem C9 (mb:MB h v n k N G) (hk:∀v g' n' R H,EX h g'->MB g' v n' k R H->(∀w:List Nat,(∀a∈w,a<k)->fX R H 0 w=fX N G 0 w)->K (.tuple #[v,I 0]) g'):aw prog 9 [v] h K:=by
 refine f9 ?_
 obtain ⟨a,gg,e,kU,mw,ha,hg⟩:=mb.mem
 subst e
 unfold T9
 rw [qG ha hg]
 have x0:EX h (h++[.arr 28 [a,gg]]):=EX.append _ _
 have c0:(h++[ax.arr 28 [a,gg]])[h.length]?=some (.arr 28 [a,gg]):=bP
 have l0:(h++[ax.arr 28 [a,gg]]).length=h.length+1:=by simp
 simp only [bc]
 generalize h++[ax.arr 28 [a,gg]]=g0 at x0 c0 l0⊢
 have e1:cH 28 [(.slice none 0 0),(.slice none 0 0)] g0=some (pt g0.length 0,g0++[.arr 28 [.slice none 0 0,.slice none 0 0]]):=rfl
 have x1:EX g0 (g0++[.arr 28 [.slice none 0 0,.slice none 0 0]]):=EX.append _ _
 have c1:(g0++[ax.arr 28 [.slice none 0 0,.slice none 0 0]])[g0.length]?=some (.arr 28 [.slice none 0 0,.slice none 0 0]):=bP
 have l1:(g0++[ax.arr 28 [.slice none 0 0,.slice none 0 0]]).length=g0.length+1:=by simp
 simp only [e1,bc,er (x1.get c0),ag]
 generalize g0++[ax.arr 28 [.slice none 0 0,.slice none 0 0]]=g1 at x1 c1 l1⊢
 have Sz:=mb.mono (x0.trans x1)
 refine CG Sz ?_
 simp only [jf,Bool.not_true,ag,cN,er (x1.get c0)]
 refine Yu Sz ?_
 intro v2 g2 n2 R H x2 SA oF
 have c2:=x2.get c1
 obtain ⟨a2,Qv,e2,_,_,_,_⟩:=(SA g2 λ_ _=>rfl).mem
 subst e2
 have mD:=(ba c2).1
 have c3:(g2.set g0.length (.arr 28 [a2,Qv]))[g0.length]?=some (.arr 28 [a2,Qv]):=by rw [getElem?_set_self mD]
 simp only [ki c2,bc,er c3,ag]
 exact hk _ _ n2 R H (((x0.trans x1).trans x2).set (by omega) _) (SA _ λd hd=>by rw [getElem?_set_ne (by omega)]) oF
end
section
def iE (wl:List (Nat×List UInt8)):List (Nat×Value×Value):=wl.zipIdx.map λp=>(p.2,I (p.1.1:Nat),S p.1.2)
def iX (x:Nat) (wl:List (Nat×List UInt8)):Option (List UInt8):=(wl.find? λq=>decide (q.1=x)).map (·.2)
theorem Jd (x:Nat):∀(wl:List (Nat×List UInt8)) (s:Nat),jv (I x) ((wl.zipIdx s).map λp=>(p.2,I (p.1.1:Nat),S p.1.2))=wl.findIdx? λq=>decide (q.1=x)
 | [],s=>rfl
 | q::wl,s=>by
  rw [List.zipIdx_cons,map_cons,jv,List.findIdx?_cons,Jd x wl (s+1)]
  have:nD (I x) (I (q.1:Nat))=decide (q.1=x):=by
   simp only [nD,rK]
   rw [Bool.eq_iff_iff];simp;omega
  simp only [this]
theorem afR (wl:List (Nat×List UInt8)) (j:Nat):(iE wl)[j]?=(wl[j]?).map λp=>(j,I (p.1:Nat),S p.2):=by
 simp [iE,List.getElem?_zipIdx,Option.map_map,Function.comp_def]
theorem Qh {α:Type} (p:α->Bool):∀l:List α,l.find? p=(l.findIdx? p).bind λj=>l[j]?
 | []=>rfl
 | a::l=>by
  rw [List.find?_cons,List.findIdx?_cons]
  cases p a with
  | true=>rfl
  | false=>
   simp only [Qh p l,Bool.false_eq_true,if_false]
   cases l.findIdx? p <;> simp
theorem Qg (x:Nat) (wl:List (Nat×List UInt8)):ou (I x) (iE wl)=(iX x wl).map S:=by
 have h1:jv (I x) (iE wl)=wl.findIdx? λq=>decide (q.1=x):=Jd x wl 0
 unfold ou iX
 rw [h1,Qh]
 cases wl.findIdx? λq=>decide (q.1=x) with
 | none=>rfl
 | some j=>
  simp only [Option.bind_some,afR,Option.map_map]
  cases wl[j]? <;> rfl
theorem alL {x:Nat} {w:List UInt8} {wl:List (Nat×List UInt8)} (h:iX x wl=none):nU wl.length (I x) (S w) (iE wl)=iE (wl++[(x,w)])/\ny wl.length (I x) (iE wl)=(wl++[(x,w)]).length:=by
 have h1:jv (I x) (iE wl)=wl.findIdx? λq=>decide (q.1=x):=Jd x wl 0
 have h2:(wl.findIdx? λq=>decide (q.1=x))=none:=by
  unfold iX at h
  rw [Option.map_eq_none_iff,List.find?_eq_none] at h
  rw [List.findIdx?_eq_none_iff]
  intro q hq
  simpa using h q hq
 unfold nU ny
 rw [h1,h2]
 refine ⟨?_,by simp⟩
 simp [iE,List.zipIdx_append]
theorem FC {x:Nat} {w:List UInt8} {wl:List (Nat×List UInt8)} (h:iX x wl=some w):(x,w)∈wl:=by
 unfold iX at h
 obtain ⟨q,h1,rfl⟩:=Option.map_eq_some_iff.1 h
 have h2:=List.find?_some h1
 have h3:=List.mem_of_find?_eq_some h1
 have:q.1=x:=by simpa using h2
 subst this
 exact h3
theorem Qn {x:Nat} {wl:List (Nat×List UInt8)} (h:iX x wl=none):x∉wl.map (·.1):=by
 unfold iX at h
 rw [Option.map_eq_none_iff,List.find?_eq_none] at h
 intro c
 obtain ⟨q,hq,rfl⟩:=mem_map.1 c
 exact absurd (h q hq) (by simp)
theorem Qm {wl:List (Nat×List UInt8)} (nd:(wl.map (·.1)).Nodup) {x:Nat} {w:List UInt8} (h:(x,w)∈wl):iX x wl=some w:=by
 cases hf:iX x wl with
 | none=>exact absurd (mem_map.2 ⟨_,h,rfl⟩) (Qn hf)
 | some u=>
  have hm:=FC hf
  obtain ⟨i,hi,e1⟩:=getElem_of_mem hm
  obtain ⟨j,hj,e2⟩:=getElem_of_mem h
  by_cases c:i=j
  ·subst c;rw [e1] at e2;cases e2;rfl
  ·exfalso
   have:=List.pairwise_iff_getElem.1 nd
   rcases Nat.lt_or_gt_of_ne c with c | c
   ·refine this i j (by simpa using hi) (by simpa using hj) c ?_
    rw [getElem_map,getElem_map,e1,e2]
   ·refine this j i (by simpa using hj) (by simpa using hi) c ?_
    rw [getElem_map,getElem_map,e1,e2]
def QS (g:ae) (t:Value) (i:Nat) (qs:List Nat):Prop:=∃pre:List Value,t=sl 3 i pre.length qs.length/\g[i]?=some (.arr 3 (pre++qs.map λx:Nat=>I x))
theorem QS.len {g:ae} {t:Value} {i:Nat} {qs:List Nat} (q:QS g t i qs):aZ t=some (I qs.length):=by
 obtain ⟨pre,rfl,_⟩:=q;rfl
theorem QS.head {g:ae} {t:Value} {i:Nat} {x:Nat} {qs:List Nat} (q:QS g t i (x::qs)):∃o,aI 1 t (I 0)=some (pt i o)/\af false 1 g (pt i o)=some (I x):=by
 obtain ⟨pre,rfl,hg⟩:=q
 refine ⟨pre.length,?_,?_⟩
 ·simp [aI,sl]
 ·simp [af,bn,hg,cU]
theorem QS.tail {g:ae} {t:Value} {i:Nat} {x:Nat} {qs:List Nat} (q:QS g t i (x::qs)):∃t',gH 3 1 t (some (I 1)) none=some t'/\QS g t' i qs:=by
 obtain ⟨pre,rfl,hg⟩:=q
 refine ⟨sl 3 i (pre.length+1) qs.length,?_,pre++[I x],by simp,by rw [hg];simp⟩
 simp [gH,sl,lj]
 exact ⟨1,qs.length+1,by simp [lQ],rfl,by simp⟩
theorem QS.push {g:ae} {t:Value} {i y:Nat} {qs:List Nat} (q:QS g t i qs) (hl:qs.length<=1000) {K:Value->ae->Prop}
  (hk:∀t' g' j,g.length<=j->(∀d,d<g.length->d≠i->g'[d]?=g[d]?)->g.length<=g'.length->QS g' t' j (qs++[y])->K t' g'):
  OH (bq 3 1 [(.int .i64 (0))] g [(0,1,I y)]) λa h2=>OH (cE 3 1 8 h2 t a) K:=by
 obtain ⟨pre,rfl,hg⟩:=q
 have e1:bq 3 1 [(.int .i64 (0))] g [(0,1,I y)]=some (sl 3 g.length 0 1,g++[.arr 3 [I y]]):=by
  simp [bq,fE,dt,setAt,de,bK,Value.cells]
 rw [e1]
 simp only [bc]
 have ar:=(ba hg).1
 have e2:eX (g++[.arr 3 [I y]]) 1 (sl 3 g.length 0 1)=some [I y]:=by simp [eX,sl,bn]
 have e3:iM (sl 3 g.length 0 1)=some 1:=rfl
 have hg':(g++[.arr 3 [I y]])[i]?=some (.arr 3 (pre++qs.map λx:Nat=>I x)):=by rw [getElem?_append_left ar];exact hg
 refine l6 (v:=sl 3 (g.length+1) 0 (qs.length+1)) (h:=(g++[ax.arr 3 [I y]]).set i .dead++[ax.arr 3 ((qs++[y]).map λx:Nat=>I x)]) ?_ (hk _ _ (g.length+1) (by omega) ?_ (by simp;omega) ⟨[],by simp,?_⟩)
 ·simp only [cE,e2,e3]
  simp only [sl,hg']
  rw [if_pos ⟨trivial,trivial,by simp,by omega,by simp [maxLen];omega⟩,if_neg (by omega)]
  simp
 ·intro d hd aU
  rw [getElem?_append_left (by simp;omega),getElem?_set_ne (Ne.symm aU),getElem?_append_left hd]
 ·rw [getElem?_append_right (by simp)]
  simp
theorem Yy {a:Nat} {h:ae} {K:Value->ae->Prop} (ha:a<100) (hk:K (S [UInt8.ofNat (97+a)]) h):aw prog 32 [I a] h K:=by
 refine vd (fW.dF rfl) (f32 ?_) hk
 unfold DE
 simp only [jX,ag,cD]
 rw [Cv (n:=(a:Int)) (by omega) (by omega),Cv (n:=97+(a:Int)) (by omega) (by omega)]
 have hc:(.int .u8 (97+(a:Int)):Value)=cv (UInt8.ofNat (97+a)):=by
  show _=Value.int .u8 ((UInt8.ofNat (97+a)).toNat:Int)
  congr 1
  rw [UInt8.toNat_ofNat_of_lt' (show 97+a<256 by omega)]
  omega
 rw [hc]
 have e1:bq 5 1 [(.int .u8 (0))] h [(0,1,cv (UInt8.ofNat (97+a)))]=some (sl 5 h.length 0 1,h++[.arr 5 [cv (UInt8.ofNat (97+a))]]):=by
  simp [bq,fE,dt,setAt,de,bK,Value.cells]
 rw [e1]
 simp only [bc]
 have o:cK h.length (h++[.arr 5 [cv (UInt8.ofNat (97+a))]]) 5 (sl 5 h.length 0 1) ([UInt8.ofNat (97+a)].map cv):=.inr ⟨h.length,le_refl _,rfl,bP⟩
 rw [qC o]
 exact ⟨rfl,EX.append _ _⟩
end
section
def lw (wl:List (Nat×List UInt8)):List (Nat×Nat):=wl.map λq=>(q.1,q.2.length)
theorem akC (a b:List (Nat×List UInt8)):lw (a++b)=lw a++lw b:=map_append
theorem Hg (wl:List (Nat×List UInt8)):(lw wl).map (·.1)=wl.map (·.1):=by simp [lw,List.map_map,Function.comp_def]
theorem Hi (wl:List (Nat×List UInt8)):(lw wl).length=wl.length:=by simp [lw]
theorem aiX {n k:Nat} {N:List (List Nat)} (b:gy n k N) {x a m:Nat} (ha:a<k) (hm:m<=n):iL N x a m<2^n:=by
 refine Nat.lt_pow_two_of_testBit _ λi hi=>?_
 rw [Bool.eq_false_iff]
 intro h
 obtain ⟨s,h1,_,h3⟩:=(rJ N x a i m).1 h
 have:=b.kG (show s<n by omega) ha
 omega
theorem aiZ {n:Nat} {N:List (List Nat)} {x a:Nat} (hx:x≠0) (hl:x<2^n):jr N n x a≠0:=by
 intro c
 refine hx (Nat.eq_of_testBit_eq λi=>?_)
 rw [Nat.zero_testBit,Bool.eq_false_iff]
 intro h
 have hi:i<n:=by
  apply byContradiction
  intro hn
  have:x<2^i:=Nat.lt_of_lt_of_le hl (Nat.pow_le_pow_right (by omega) (by omega))
  rw [Nat.testBit_lt_two_pow this] at h
  cases h
 have:=(rJ N x a (bS N i a) n).2 ⟨i,hi,h,rfl⟩
 have c':iL N x a n=0:=c
 rw [c',Nat.zero_testBit] at this
 cases this
structure RM (h:ae) (ib im i:Nat) (a gg:Value) (n:Nat) (wl:List (Nat×List UInt8)) (t:Value) (qs:List Nat) (g:ae):Prop where
 ex:EX h g
 hb:g[ib]?=some (.arr 28 [a,gg])
 hm:g[im]?=some (.cp (.int .i64) wl.length (iE wl))
 q:QS g t i qs
 i1:h.length<=ib
 i2:ib<im
 i3:im<i
 w1:∀q∈wl,q.2.length<wl.length
 w2:∀q∈wl,q.2=[]->q.1=2^n-1
 w3:∀q∈wl,q.1≠0
theorem abQ {n:Nat} (h2:2<=n) (h6:n<=6):jO (2^n-1)=false:=by
 have:n=2∨n=3∨n=4∨n=5∨n=6:=by omega
 rcases this with rfl | rfl | rfl | rfl | rfl <;> decide
variable {h : ae} {v : Value} {n k : Nat} {N : List (List Nat)} {G : List Bool} {K : Value -> ae -> Prop}
theorem aiW {a:Value} {b1 Kc J5 dh cn gv:Value} {x c:Nat} {g:ae} {L1 L2:List Value->ae->Prop} (b:gy n k N) (n6:n<=6) (hx:x<2^n) (hc:c<k) (hl:LL g a N) (Fc:gv=I n) (Fb:dh=I c)
  (hk:HK prog K b1 Kc J5 (I x) dh (I (jr N n x c:Nat)) cn dh L1 L2 g):
  bM [(.int .i64 (0)),(.int .i64 (0))] g λL3 xs hx=>HJ prog K b1 Kc J5 (I x) dh cn dh a gv L1 L2 L3 xs hx:=by
 subst Fc Fb
 have p64:2^n<=2^6:=Nat.pow_le_pow_right (by omega) n6
 refine cG (σ:=Nat) (λm=>[I (iL N x c m:Nat),I m]) (λ_=>g) (λm=>m<=n) (λm=>n-m) 0 rfl rfl (zero_le _) ?_
 intro m hm L hL
 rw [alS]
 simp only [cb,ag,bL]
 refine ⟨λar=>?_,λcY=>?_⟩
 ·have ar:m<n:=by omega
  have Gh:m<N.length:=by rw [b.len];exact ar
  obtain ⟨b0,o0,w0,r1,r2,r3⟩:=hl.get m Gh
  have eT:=b.row m Gh
  obtain ⟨b2,o2,s1,s2⟩:=r3.s7 (i:=c) (by rw [eT];exact hc)
  have e1:ai .and (I (x / 2^m:Nat)) (.int .i64 (1))=some (I (x / 2^m &&& 1:Nat)):=M0 uk (Nat.lt_of_le_of_lt (Nat.div_le_self _ _) (by omega)) (show 1<1024 by decide)
  have e2:N[m][c]'(by rw [eT];exact hc)=bS N m c:=by
   unfold bS
   have e3:N.getD m []=N[m]:=by rw [getD_eq_getElem?_getD,getElem?_eq_getElem Gh,getD_some]
   rw [e3,getD_eq_getElem?_getD,getElem?_eq_getElem (by rw [eT];exact hc),getD_some]
  have hs:=b.kG ar hc
  have hu:=aiX b (x:=x) hc (Nat.le_of_lt ar)
  have step:Bw prog K b1 Kc J5 (I x) (I c) (I (iL N x c (m+1):Nat)) cn (I c) a (I n) (I m) L1 L2 L g:=by
   rw [alT]
   simp only [cD,ag,true_and]
   rw [dW m (by simp [maxLen];omega)]
   exact hL (m+1) ar (by show n-(m+1)<n-m;omega)
  simp only [r1,r2,ag,apm uk (show m<16 by omega),e1,ij,bL]
  refine ⟨λhy=>?_,λhn=>?_⟩
  ·have hy:x >>> m &&& 1=1:=by rw [Nat.shiftRight_eq_div_pow];omega
   have e4:iL N x c (m+1)=iL N x c m ||| 2^bS N m c:=by
    show (if x >>> m &&& 1=1 then iL N x c m ||| 1 <<< bS N m c else iL N x c m)=_
    rw [if_pos hy,Nat.one_shiftLeft]
   have p2:2^bS N m c<=2^5:=Nat.pow_le_pow_right (by omega) (by omega)
   simp only [s1,s2,ag,e2,XI uk (show bS N m c<11 by omega),orK uk (show iL N x c m<1024 by omega) (show 2^bS N m c<1024 by omega)]
   rw [e4] at step
   exact step
  ·have hn:¬x >>> m &&& 1=1:=by rw [Nat.shiftRight_eq_div_pow];omega
   have e4:iL N x c (m+1)=iL N x c m:=by
    show (if x >>> m &&& 1=1 then iL N x c m ||| 1 <<< bS N m c else iL N x c m)=_
    rw [if_neg hn]
   rw [e4] at step
   exact step
 ·have:m=n:=by omega
  subst this
  exact hk
theorem Bd {g:ae} {im:Nat} {wl:List (Nat×List UInt8)} (hm:g[im]?=some (.cp (.int .i64) wl.length (iE wl))) (x:Nat):
  jq (.int .i64) true (.string ⟨#[]⟩) g (.map (some im)) (I x)=some (.tuple #[((iX x wl).map S).getD (S []),B (iX x wl).isSome])/\
  jq (.int .i64) false (.string ⟨#[]⟩) g (.map (some im)) (I x)=some (((iX x wl).map S).getD (S [])):=by
 have hk:dm (.int .i64) (I x)=true:=rfl
 constructor
 ·simp only [jq,hm,hk,Qg]
  cases iX x wl <;> rfl
 ·simp only [jq,hm,hk,Qg]
  cases iX x wl <;> rfl
end
section
variable {h : ae} {v : Value} {n k : Nat} {N : List (List Nat)} {G : List Bool} {K : Value -> ae -> Prop}
theorem RM.map {ib im i:Nat} {a gg t:Value} {wl:List (Nat×List UInt8)} {qs:List Nat} {g:ae} (r:RM h ib im i a gg n wl t qs g) {t':Value} {W7:List Nat} (q:QS g t' i W7):RM h ib im i a gg n wl t' W7 g:=
 { r with q:=q }
theorem akQ {ib im i:Nat} {a gg t:Value} {wl:List (Nat×List UInt8)} {qs:List Nat} {g:ae} {x y c:Nat} {w:List UInt8} (r:RM h ib im i a gg n wl t qs g) (hw:iX x wl=some w) (hy:iX y wl=none) (y0:y≠0) (hc:c<100)
  (hl:wl.length<=64) (hq:qs.length<=64)
  (hk:∀t' i' g',RM h ib im i' a gg n (wl++[(y,w++[UInt8.ofNat (97+c)])]) t' (qs++[y]) g'->K t' g'):
  aw prog 32 [I c] g λyd h_1=>(jq (.int .i64) false (.string ⟨#[]⟩) h_1 (.map (some im)) (I x)=some (S w)/\True)/\
   OP (ai .add (S w) yd) λpj=>OH (rX (.int .i64) h_1 (.map (some im)) (I y) pj) λ_ h_2=>OH (bq 3 1 [(.int .i64 (0))] h_2 [(0,1,I y)]) λye h_3=>OH (cE 3 1 8 h_3 t ye) K:=by
 refine Yy hc ?_
 have lx:=(Bd r.hm x).2
 rw [hw] at lx
 have apL:=r.w1 _ (FC hw)
 have ar0:w.length<wl.length:=apL
 refine ⟨⟨lx,trivial⟩,?_⟩
 rw [l8 (a:=w) (b:=[UInt8.ofNat (97+c)]) (by simp [maxLen];omega)]
 obtain ⟨p1,p2⟩:=alL (w:=w++[UInt8.ofNat (97+c)]) hy
 have e1:rX (.int .i64) g (.map (some im)) (I y) (S (w++[UInt8.ofNat (97+c)]))=some (undef,g.set im (.cp (.int .i64) (wl++[(y,w++[UInt8.ofNat (97+c)])]).length (iE (wl++[(y,w++[UInt8.ofNat (97+c)])])))):=by
  have hk:dm (.int .i64) (I y)=true:=rfl
  have nt:de (S (w++[UInt8.ofNat (97+c)]))=true:=rfl
  simp only [rX,tM,r.hm,hk,nt,and_self,if_true,map_some,p1,p2]
 simp only [ag,e1,bc]
 have AH:=(ba r.hm).1
 have i1:=r.i1;have i2:=r.i2;have i3:=r.i3
 have tC:QS (g.set im (.cp (.int .i64) (wl++[(y,w++[UInt8.ofNat (97+c)])]).length (iE (wl++[(y,w++[UInt8.ofNat (97+c)])])))) t i qs:=by
  obtain ⟨pre,e,hg⟩:=r.q
  exact ⟨pre,e,by rw [getElem?_set_ne (by omega)];exact hg⟩
 refine tC.push (by omega) ?_
 intro t' g' j hj ef hlen hqs
 rw [length_set] at hj ef hlen
 refine hk t' j g' ⟨⟨by have:=r.ex.1;omega,λd hd=>?_⟩,?_,?_,hqs,i1,i2,by omega,?_,?_,?_⟩
 ·rw [ef d (by have:=r.ex.1;omega) (by omega),getElem?_set_ne (by omega)]
  exact r.ex.2 d hd
 ·rw [ef ib (by omega) (by omega),getElem?_set_ne (by omega)]
  exact r.hb
 ·rw [ef im AH (by omega),getElem?_set_self AH]
 ·intro q hq
  rw [length_append,length_singleton]
  rcases mem_append.1 hq with hq | hq
  ·have:=r.w1 q hq;omega
  ·rw [mem_singleton] at hq;subst hq
   rw [length_append,length_singleton];omega
 ·intro q hq he
  rcases mem_append.1 hq with hq | hq
  ·exact r.w2 q hq he
  ·rw [mem_singleton] at hq;subst hq
   simp at he
 ·intro q hq
  rcases mem_append.1 hq with hq | hq
  ·exact r.w3 q hq
  ·rw [mem_singleton] at hq;subst hq
   exact y0
theorem Yn (m:MB h v n k N G) (cL:(∀u:List Nat,(∀a∈u,a<k)->jO (lP N n (2^n-1) u)=false)->∀h',EX h h'->K (.tuple #[S [],I 5]) h')
  (lg:∀w:List UInt8,(2<=n->w≠[])->(∀u:List Nat,(∀a∈u,a<k)->jO (lP N n (2^n-1) u)=true->w.length<=u.length)->∀h',EX h h'->K (.tuple #[S w,I 0]) h'):aw prog 12 [v] h K:=by
 refine f12 ?_
 obtain ⟨a,gg,e,kU,mw,ha,hg⟩:=m.mem
 subst e
 have n1:=m.n1;have n6:=m.n6;have k1:=m.k1;have k3:=m.k3
 have b:=m.br
 have p64:2^n<=2^6:=Nat.pow_le_pow_right (by omega) n6
 have p2:2^1<=2^n:=Nat.pow_le_pow_right (by omega) n1
 unfold Dq
 rw [qG ha hg]
 have x0:EX h (h++[.arr 28 [a,gg]]):=EX.append _ _
 have c0:(h++[ax.arr 28 [a,gg]])[h.length]?=some (.arr 28 [a,gg]):=bP
 have oW:(h++[ax.arr 28 [a,gg]]).length=h.length+1:=by simp
 generalize h++[ax.arr 28 [a,gg]]=g0 at x0 c0 oW⊢
 simp only [bc,er c0,ag]
 refine CG (m.mono x0) ?_
 have hl0:=kU.mono x0
 have len:=hl0.len
 rw [b.len] at len
 have aii:ai .shl (.int .i64 (1)) (I n)=some (I (2^n:Nat)):=XI uk (by omega)
 simp only [jf,Bool.not_true,ag,cN,gM,zero_add,kR c0,len,aii,ku]
 rw [wrap64 (by omega) (by omega)]
 have e1:(((2^n:Nat):Int)-1)=((2^n-1:Nat):Int):=by omega
 rw [e1]
 have e2:rX (.int .i64) (g0++[.cp (.int .i64) 0 []]) (.map (some g0.length)) (I (2^n-1:Nat)) (.string ⟨#[]⟩)=some (undef,g0++[.cp (.int .i64) 1 (iE [(2^n-1,[])])]):=by
  have F8:(g0++[ax.cp (.int .i64) 0 []])[g0.length]?=some (.cp (.int .i64) 0 []):=bP
  have hk:dm (.int .i64) (I (2^n-1:Nat))=true:=rfl
  have nt:de (.string ⟨#[]⟩)=true:=rfl
  simp only [rX,tM,F8,hk,nt,and_self,if_true,map_some]
  congr 2
  simp [ny,nU,jv,iE]
  rfl
 simp only [A2,bc,e2]
 have e3:bq 3 1 [(.int .i64 (0))] (g0++[.cp (.int .i64) 1 (iE [(2^n-1,[])])]) [(0,1,I (2^n-1:Nat))]=some (sl 3 (g0.length+1) 0 1,g0++[.cp (.int .i64) 1 (iE [(2^n-1,[])])]++[.arr 3 [I (2^n-1:Nat)]]):=by
  simp [bq,fE,dt,setAt,de,bK,Value.cells]
 rw [e3]
 simp only [bc]
 have r0:RM h h.length g0.length (g0.length+1) a gg n [(2^n-1,[])] (sl 3 (g0.length+1) 0 1) [2^n-1] (g0++[.cp (.int .i64) 1 (iE [(2^n-1,[])])]++[.arr 3 [I (2^n-1:Nat)]]):=by
  refine ⟨x0.trans ((EX.append _ _).trans (EX.append _ _)),((EX.append _ _).trans (EX.append _ _)).get c0,(EX.append _ _).get bP,⟨[],rfl,?_⟩,le_refl _,by omega,by omega,?_,?_,?_⟩
  ·rw [getElem?_append_right (by simp)];simp
  ·intro q hq;rw [mem_singleton] at hq;subst hq;simp
  ·intro q hq _;rw [mem_singleton] at hq;subst hq;rfl
  ·intro q hq;rw [mem_singleton] at hq;subst hq;show 2^n-1≠0;omega
 generalize g0++[.cp (.int .i64) 1 (iE [(2^n-1,[])])]++[.arr 3 [I (2^n-1:Nat)]]=g1 at r0⊢
 refine cG (σ:=List (Nat×List UInt8)×Nat×Value×Nat×ae) (λq=>[q.2.2.1]) (λq=>q.2.2.2.2)
  (λq=>Bf N n k (lw q.1) q.2.1/\q.2.1<=q.1.length/\RM h h.length g0.length q.2.2.2.1 a gg n q.1 q.2.2.1 ((q.1.drop q.2.1).map (·.1)) q.2.2.2.2) (λq=>64-q.2.1)
  ([(2^n-1,[])],0,sl 3 (g0.length+1) 0 1,g0.length+1,g1) rfl rfl ⟨Bf.zero,zero_le _,r0⟩ ?_
 rintro ⟨wl,p,t,i,g⟩ ⟨bf,hp,r⟩ L hL
 simp only at bf hp r hL⊢
 have gF:wl.length<=64:=by have:=bf.gF;rw [Hi] at this;omega
 rw [alQ]
 simp only [r.q.len,length_map,List.length_drop,ag,fY,bL]
 refine ⟨λj6=>?_,λarC=>?_⟩
 ·have ar:p<wl.length:=by omega
  have hq:=r.q
  rw [List.drop_eq_getElem_cons ar,map_cons] at hq
  generalize hx:wl[p]=xw at hq
  obtain ⟨x,w⟩:=xw
  simp only at hq
  have iI:(x,w)∈wl:=by rw [<-hx];exact getElem_mem _
  have jn:x<2^n:=bf.lt (x,w.length) (by unfold lw;exact mem_map.2 ⟨_,iI,rfl⟩)
  have AX:x≠0:=r.w3 _ iI
  have nd:(wl.map (·.1)).Nodup:=by have:=bf.nd;rwa [Hg] at this
  have hfx:=Qm nd iI
  have j5:(lw wl)[p]?=some (x,w.length):=by unfold lw;rw [getElem?_map,getElem?_eq_getElem ar,hx];rfl
  obtain ⟨o,q1,q2⟩:=hq.head
  have q1':aI 1 t (.int .i64 (0))=some (pt i o):=q1
  have e4:ai .and (I x) (I (x-1:Nat))=some (I (x &&& (x-1):Nat)):=M0 uk (by omega) (by omega)
  simp only [q1',q2,ag,ku]
  rw [wrap64 (by omega) (by omega),show ((x:Int)-1)=((x-1:Nat):Int) by omega,e4]
  simp only [ag,ij,bL]
  refine ⟨λvT=>?_,λvT=>?_⟩
  ·have ho:jO x=true:=by simp only [jO,decide_eq_true_eq];omega
   have lx:=(Bd r.hm x).2
   rw [hfx] at lx
   simp only [lx,ag,map_some,getD_some]
   refine lg w (λh2 he=>?_) (λu hu h1=>?_) _ r.ex
   ·have:=r.w2 _ iI he
    have this:x=2^n-1:=this
    rw [this,abQ h2 n6] at ho
    cases ho
   ·obtain ⟨f,f1,f2⟩:=bf.head hu h1
    rw [j5] at f1
    cases f1
    exact f2
  ·have ho:jO x=false:=by simp only [jO,decide_eq_false_iff_not];omega
   have mC:=kU.mono r.ex
   obtain ⟨b0,o0,w0,s1,s2,s3⟩:=mC.get 0 (by rw [b.len];omega)
   have sj:aI 1 a (.int .i64 (0))=some (pt b0 o0):=s1
   have Su:=s3.pY
   rw [b.row 0 _] at Su
   simp only [gM,zero_add,ag,kR r.hb,sj,s2,Su]
   have bm0:Bm N n k (lw wl) p 0 (x,w.length):=bf.mid j5 ho
   refine cG (σ:=List (Nat×List UInt8)×Nat×Value×Nat×ae) (λq=>[q.2.2.1,I q.2.1]) (λq=>q.2.2.2.2)
    (λq=>Bm N n k (lw q.1) p q.2.1 (x,w.length)/\q.2.1<=k/\(x,w)∈q.1/\q.1[p]?=some (x,w)/\RM h h.length g0.length q.2.2.2.1 a gg n q.1 q.2.2.1 ((q.1.drop p).map (·.1)) q.2.2.2.2) (λq=>k-q.2.1)
    (wl,0,t,i,g) rfl rfl ⟨bm0,zero_le _,iI,by rw [getElem?_eq_getElem ar,hx],r⟩ ?_
   rintro ⟨sk,c,t2,i2,g2⟩ ⟨bm,hc,AK,Ay,r2⟩ L2 eK
   simp only at bm hc AK Ay r2 eK⊢
   have dT:=(ba Ay).1
   have Qe:sk.length<=64:=by
    have:=rW bm.nd (n:=2^n) λy hy=>by
     obtain ⟨f,hf,rfl⟩:=mem_map.1 hy
     exact bm.lt f hf
    rw [length_map,Hi] at this
    omega
   have nd2:(sk.map (·.1)).Nodup:=by have:=bm.nd;rwa [Hg] at this
   rw [alR]
   simp only [cb,ag,bL]
   refine ⟨λqY=>?_,λqY=>?_⟩
   ·have qY:c<k:=by omega
    have mD:=kU.mono r2.ex
    have rN:=mD.len
    rw [b.len] at rN
    simp only [gM,zero_add,ag,kR r2.hb,rN]
    refine aiW b n6 jn qY mD rfl rfl ?_
    have oR:=aiY b (x:=x) qY
    have RC:=aiZ (N:=N) (a:=c) AX jn
    generalize hy:jr N n x c=y at oR RC
    have Ru:∀sr t3 i3 g3,Bm N n k (lw sr) p (c+1) (x,w.length)->(x,w)∈sr->sr[p]?=some (x,w)->RM h h.length g0.length i3 a gg n sr t3 ((sr.drop p).map (·.1)) g3->
      Bx prog K (pt h.length 0) (.map (some g0.length)) t3 (I x) (I k) (I c) L L2 g3:=by
     intro sr t3 i3 g3 b3 m3 a3 r3
     rw [alV]
     simp only [cD,ag,true_and]
     rw [dW c (by simp [maxLen];omega)]
     exact eK (sr,c+1,t3,i3,g3) ⟨b3,qY,m3,a3,r3⟩ (by show k-(c+1)<k-c;omega)
    rw [alU]
    obtain ⟨lk1,lk2⟩:=Bd r2.hm y
    simp only [lk1,ag,hP,hX,hY,jf]
    cases hf:iX y sk with
    | some u=>
     simp only [Option.isSome_some,Bool.not_true,cN]
     exact Ru sk t2 i2 g2 (bm.old (f:=(y,u.length)) (by unfold lw;exact mem_map.2 ⟨_,FC hf,rfl⟩) hy.symm) AK Ay r2
    | none=>
     simp only [Option.isSome_none,Bool.not_false,fD]
     have lx:=(Bd r2.hm x).2
     have Q2:=Qm nd2 AK
     rw [Q2] at lx
     simp only [lx,ag,map_some,getD_some,true_and]
     refine akQ r2 Q2 hf RC (show c<100 by omega) Qe (by rw [length_map,List.length_drop];omega) ?_
     intro t3 i3 g3 r3
     refine Ru (sk++[(y,w++[UInt8.ofNat (97+c)])]) t3 i3 g3 ?_ (List.mem_append_left _ AK) (by rw [getElem?_append_left dT];exact Ay) ?_
     ·have Gk:jr N n x c∉(lw sk).map (·.1):=by rw [Hg,hy];exact Qn hf
      have:=bm.new (by show jr N n x c<2^n;rw [hy];exact oR) Gk
      rw [akC]
      have e5:lw [(y,w++[UInt8.ofNat (97+c)])]=[(jr N n x c,w.length+1)]:=by simp [lw,hy]
      rw [e5];exact this
     ·rw [List.drop_append_of_le_length (by omega),map_append]
      exact r3
   ·have qY:c=k:=by omega
    subst qY
    have tC:=r2.q
    rw [List.drop_eq_getElem_cons dT,map_cons] at tC
    obtain ⟨t3,u1,u2⟩:=tC.tail
    have u1':gH 3 1 t2 (some (.int .i64 (1))) none=some t3:=u1
    rw [alW]
    simp only [u1',ag,true_and]
    refine hL (sk,p+1,t3,i2,g2) ⟨bm.next,dT,r2.map u2⟩ ?_
    show 64-(p+1)<64-p
    omega
 ·refine cL (λu hu=>?_) _ r.ex
  rw [Bool.eq_false_iff]
  intro h1
  obtain ⟨f,f1,_⟩:=bf.head hu h1
  have:=(ba f1).1
  rw [Hi] at this
  omega
end
section
theorem YQ {v:Value} {W:List Tx} {h:ae} {K:Value->ae->Prop} (hv:SV h v W) (hl:W.length<=1000) (hw:∀w∈W,w.length<4611686018427387904) (hc:iC W []=0) (nb:uQ W)
  (hk:∀h',EX h h'->K (.tuple #[S [],I 5]) h'):aw prog 6 [v] h K:=by
 refine f6 ?_
 unfold T6
 have Ht:(.string ⟨#[]⟩:Value)=S []:=rfl
 rw [Ht]
 refine CF (s:=[]) hv (by omega) hw (by simp) ?_
 intro h1 x1
 rw [hc]
 simp only [jW,ag,decide_true,Bool.not_true,cN]
 have hs:=hv.ss.mono x1
 have n1:h1.length+1=(h1++[ax.cp .str 0 []]).length:=by simp
 have e1:cH 48 [(.map none)] (h1++[ax.cp .str 0 []])=some (pt (h1.length+1) 0,h1++[ax.cp .str 0 []]++[.arr 48 [.map none]]):=by
  rw [n1];rfl
 have e2:bE 1 (h1++[ax.cp .str 0 []]++[.arr 48 [.map none]]) (pt (h1.length+1) 0) (.map (some h1.length))=some (undef,h1++[ax.cp .str 0 []]++[.arr 48 [.map (some h1.length)]]):=by
  have hg:(h1++[ax.cp .str 0 []]++[ax.arr 48 [.map none]])[h1.length+1]?=some (.arr 48 [.map none]):=by rw [n1];exact bP
  rw [lU hg (by simp) rfl rfl,n1]
  simp
 simp only [A2,bc,e1,e2,hs.len,ag]
 have ex:EX h1 (h1++[ax.cp .str 0 []]++[.arr 48 [.map (some h1.length)]]):=(EX.append _ _).trans (EX.append _ _)
 have hm:(h1++[ax.cp .str 0 []]++[.arr 48 [.map (some h1.length)]])[h1.length]?=some (.cp .str 0 []):=by
  have:(h1++[ax.cp .str 0 []])[h1.length]?=some (.cp .str 0 []):=bP
  exact (EX.append _ _).get this
 have vL:(h1++[ax.cp .str 0 []]++[.arr 48 [.map (some h1.length)]])[h1.length+1]?=some (.arr 48 [.map (some h1.length)]):=by
  rw [n1];exact bP
 have xk:=x1.trans ex
 generalize h1++[ax.cp .str 0 []]++[.arr 48 [.map (some h1.length)]]=g at ex hm vL xk⊢
 have hs:=hs.mono ex
 have ld:∀{g'},EX g g'->af false 1 g' (pt (h1.length+1) 0)=some (.map (some h1.length)):=λx=>by simp [af,bn,x.get vL,cU]
 refine cG (σ:=Nat) (λi=>[I i]) (λ_=>g) (λi=>i<=W.length) (λi=>W.length-i) 0 rfl rfl (zero_le _) ?_
 intro i hi L hL
 rw [anQ]
 simp only [cb,ag,bL]
 refine ⟨λar=>?_,λ_=>?_⟩
 ·have ar:i<W.length:=by omega
  obtain ⟨b,o,a1,a2⟩:=hs.get i ar
  simp only [a1,a2,ag,hs.len]
  refine cG (σ:=Nat) (λj=>[I j]) (λ_=>g) (λj=>j<=W.length) (λj=>W.length-j) 0 rfl rfl (zero_le _) ?_
  intro j hj L2 eK
  rw [anR]
  simp only [cb,ag,bL]
  refine ⟨λdT=>?_,λ_=>?_⟩
  ·have dT:j<W.length:=by omega
   obtain ⟨b2,o2,c1,c2⟩:=hs.get j dT
   have step:BM prog K v (pt (h1.length+1) 0) (.func (.func 15) #[] #[pt (h1.length+1) 0]) (I i) (S W[i]) v (I W.length) (I i) v (I W.length) (I j) L L2 g:=by
    rw [anT]
    simp only [cD,ag,true_and]
    rw [dW j (by simp [maxLen];omega)]
    exact eK (j+1) dT (by show W.length-(j+1)<W.length-j;omega)
   simp only [c1,c2,ag,jW]
   rw [anS]
   by_cases fM:i=j
   ·rw [cz (show (i:Int)=j by omega)]
    simp only [Bool.not_true,jz,W4,dO,ag,cN]
    exact step
   ·rw [bN (show ¬(i:Int)=j by omega)]
    simp only [Bool.not_false,hI]
    refine Lg ?_
    rw [W4,bN (nb i j ar dT fM)]
    simp only [fh,ag,cN]
    exact step
  ·rw [anU]
   simp only [cD,ag,true_and]
   rw [dW i (by simp [maxLen];omega)]
   exact hL (i+1) ar (by show W.length-(i+1)<W.length-i;omega)
 ·rw [anV]
  refine cG (σ:=Bool×ae) (λq=>[B q.1]) (λq=>q.2) (λq=>EX g q.2) (λq=>if q.1 then 1 else 0) (true,g) rfl rfl (EX.refl g) ?_
  rintro ⟨m,g1⟩ xg L3 vw
  simp only at xg vw⊢
  rw [anW]
  cases m with
  | true=>
   simp only [fD,ld xg,ag]
   refine Yo (xg.get hm) ?_
   have e0:aZ (.slice none 0 0)=some (I 0):=rfl
   simp only [e0,ag]
   refine cG (σ:=Unit) (λ_=>[B false,I 0]) (λ_=>g1) (λ_=>True) (λ_=>0) () rfl rfl trivial ?_
   intro _ _ L4 _
   rw [anX]
   simp only [cb,ag]
   have e3:decide ((0:Int)<0)=false:=rfl
   rw [e3]
   simp only [cN,true_and]
   exact vw (false,g1) xg (by show 0<1;omega)
  | false=>
   simp only [cN]
   rw [anY]
   have e2:jq .str true (.string ⟨#[]⟩) g1 (.map (some h1.length)) (.string ⟨#[]⟩)=some (.tuple #[S [],B false]):=by
    simp only [jq,xg.get hm];rfl
   simp only [ld xg,ag,e2,hP,hX,hY,jf,Bool.not_false,fD]
   exact hk g1 (xk.trans xg)
end
section
variable {W St : List Tx} {K : Value -> ae -> Prop} {y lv : Value}
theorem P7 (x z:Bool):lk true (B x) (B z)=some (B (!decide (x=z))):=by cases x <;> cases z <;> rfl
theorem ake (hk:∀h',K (B true) h') {vr vg:Value} {io:Nat} {g:ae} (pb:fS W) (p:iB W St) (h5:St.length<=5) (sv:SS g lv W) (ho:g[io]?=some (.arr 28 [vr,vg])) (m:MB g (.agg #[vr,vg]) (St.length+1) 2 (bV W St) (gN St)):
  aw prog 11 [lv] g λKK h_1=>
  aw prog 10 [KK] h_1 λxS h_2=>
  OP (cd 0 xS) λKL=>
  OP (cd 1 xS) λKM=>
  OP (af true 2 h_2 (pt io 0)) λKN=>
  aw prog 12 [KN] h_2 λxT h_3=>
  OP (cd 0 xT) λKO=>
  OP (cd 1 xT) λKQ=>
  OP (ai .eql KL (.string ⟨#[49]⟩)) λKR=>
  OP (ai .eql KM (.int .i64 (0))) λKS=>
  Il prog K KO KQ KR KS h_3:=by
 have tv:=pb.hi;have lo:=pb.lo
 refine Ym sv (by omega) ?_
 intro u h1 x1 own
 refine Yl (Bv own (by rw [length_map];omega)) (by rw [length_map];omega) (by rw [length_map];omega) (alB pb) ?_
 intro h2 x2
 simp only [hP,hX,hY,ag]
 have aW:=x1.trans x2
 simp only [er (aW.get ho),ag]
 have ui:(.string ⟨#[49]⟩:Value)=S [49]:=rfl
 rw [ui]
 generalize hs:((W.map List.length).map iO).sum=s
 rw [alD pb] at hs
 have n5:∀{P:Prop},(2<=St.length+1->P)->P:=λf=>f (by have:=(mY p).1;omega)
 refine Yn (m.mono aW) (λcL h3 x3=>?_) (λw hw ahD h3 x3=>?_)
 ·simp only [hP,hX,hY,ag,kN,ij]
  by_cases ha:wB s=[49]
  ·rw [cz ha]
   simp only [Jl,Jm,Jn,Jo,Jp,Jq,Jr,Js,Jt,Ju,Jv,Jw,Jx,Jy,hI,kK,gK,sG,fh,dO,ag,jf,ij,decide_true,Bool.not_true]
   exact hk h3
  ·exfalso
   have aU:(W.map λw=>2^(10-w.length)).sum≠1024:=λe=>by
    rw [e] at hs
    rw [<-hs] at ha
    exact ha Sd
   obtain ⟨u,u1,_,u3⟩:=Xg pb.p p h5 aU
   rw [cL u u1] at u3
   cases u3
 ·simp only [hP,hX,hY,ag,kN,ij]
  by_cases ha:wB s=[49]
  ·rw [cz ha]
   have e5:decide ((0:Int)=5)=false:=rfl
   simp only [Jl,Jm,Jn,Jo,Jp,Jq,Jr,Js,Jt,Ju,Jv,Jw,Jx,Jy,hI,kK,gK,sG,fh,dO,ag,jf,ij,decide_true,Bool.not_true,e5]
   exact hk h3
  ·rw [bN ha]
   have aU:(W.map λw=>2^(10-w.length)).sum≠1024:=λe=>by
    rw [e] at hs
    rw [<-hs] at ha
    exact ha Sd
   obtain ⟨u,u1,u2,u3⟩:=Xg pb.p p h5 aU
   have wq:=ahD u u1 u3
   have hw0:0<w.length:=List.length_pos_iff.2 (hw (by have:=(mY p).1;omega))
   have e1:decide ((0:Int)<w.length)=true:=cz (by omega)
   have e2:decide ((w.length:Int)<=25)=true:=cz (by omega)
   simp only [Jl,Jm,Jn,Jo,Jp,Jq,Jr,Js,Jt,Ju,Jv,Jw,Jx,Jy,hI,kK,gK,sG,fh,dO,ag,jf,ij,decide_true,Bool.not_false,gX,fY,M6,e1,e2]
   exact hk h3
theorem aoc (hk:∀h',K (B true) h') {vr vg:Value} {io:Nat} {g:ae} {t:Tx} (pb:fS W) (p:iB W St) (h5:St.length<=5) (sv:SV g lv W) (ho:g[io]?=some (.arr 28 [vr,vg])) (m:MB g (.agg #[vr,vg]) (St.length+1) 2 (bV W St) (gN St)) (hb:uU t) (hl:t.length<=69):
  BE prog K lv (pt io 0) (S t) (S (t.map np)) g:=by
 have tv:=pb.hi
 rw [amH]
 simp only [er ho,ag]
 refine C7 m MU (by rw [length_map];omega) ?_
 simp only [hP,hX,hY,ag]
 rw [MT]
 have Ct:∀w∈W,w.length<4611686018427387904:=λw hw=>by have:=pb.p.le w hw;omega
 refine C8 sv (by omega) Ct (by omega) (λhc=>absurd (alE pb hb (by omega)) hc) (λ_ h2 x2=>?_)
 simp only [hP,hX,hY,ag,er (x2.get ho)]
 refine C9 (m.mono x2) ?_
 intro sm h3 n' R H x3 m3 oF
 obtain ⟨a2,g2,e2,_,_,_,_⟩:=m3.mem
 subst e2
 simp only [hP,hX,hY,ag]
 have e1:cH 28 [(.slice none 0 0),(.slice none 0 0)] h3=some (pt h3.length 0,h3++[.arr 28 [.slice none 0 0,.slice none 0 0]]):=rfl
 have c1:(h3++[ax.arr 28 [.slice none 0 0,.slice none 0 0]])[h3.length]?=some (.arr 28 [.slice none 0 0,.slice none 0 0]):=bP
 have s1:=ki (x:=a2) (y:=g2) c1
 have e2:(h3++[ax.arr 28 [.slice none 0 0,.slice none 0 0]]).set h3.length (.arr 28 [a2,g2])=h3++[.arr 28 [a2,g2]]:=by simp
 rw [e2] at s1
 have x4:EX h3 (h3++[.arr 28 [a2,g2]]):=EX.append _ _
 have c2:(h3++[ax.arr 28 [a2,g2]])[h3.length]?=some (.arr 28 [a2,g2]):=bP
 simp only [e1,bc,s1,er c2,ag]
 generalize h3++[ax.arr 28 [a2,g2]]=h4 at x4 c2⊢
 refine C7 (m3.mono x4) MU (by rw [length_map];omega) ?_
 simp only [hP,hX,hY,ag]
 rw [MT,oF (dQ t) (J9 t),alC pb p hb]
 have bj:=(x2.trans x3).trans x4
 have fin:=ake hk pb p h5 (sv.mono bj).ss (bj.get ho) (m.mono bj)
 have JT:(.string ⟨#[48]⟩:Value)=S [48]:=rfl
 have ui:(.string ⟨#[49]⟩:Value)=S [49]:=rfl
 have d1:decide (([49]:Tx)=[49])=true:=rfl
 have d2:decide (([48]:Tx)=[49])=false:=rfl
 have d3:decide (([48]:Tx)=[48])=true:=rfl
 cases fX (bV W St) (gN St) 0 (dQ t) with
 | true=>
  simp only [if_true,ak0,jW,ag,decide_true,Bool.not_true,WE,WG,WH,WI,WJ,WK,WL,WM,WN,WO,WQ,WR,WS,WT,jz,gK,sG,dO,P7,ui,kN,jf,cN]
  exact fin
 | false=>
  simp only [Bool.false_eq_true,if_false,akZ,jW,ag,decide_true,Bool.not_true,WE,WG,WH,WI,WJ,WK,WL,WM,WN,WO,WQ,WR,WS,WT,hI,gK,sG,fh,dO,P7,JT,ui,kN,ab3,jf,cN,d2,Bool.not_false]
  exact fin
theorem C3 (hk:∀h',K (B true) h') {x:Value} {cs bs:List Nat} {h:ae} (hx:qq h 5 .u8 x (cs.map λb:Nat=>(b:Int))) (ha:∀b∈cs,b<256) (mi:cs.length<=maxLen)
  (hy:qq h 5 .u8 y (bs.map λb:Nat=>(b:Int))) (hb:∀b∈bs,b<256) (mw:bs.length<=maxLen):aw prog 3 [x,y] h K:=by
 refine f3 ?_
 unfold T3
 refine C4 hx ha mi ?_
 intro W lv g0 x0 pb qt
 have sv:=qt.sv
 have pR:=(hy.ns (by rw [length_map];exact mw)).mono x0
 refine aps pb sv ?_
 intro St v g1 x1 p own gF
 have uu:=sv.mono x1
 have ny1:=pR.mono x1
 refine akD pb p uu.ss (HI own) gF (λ_=>hk g1) ?_
 intro h5 vr vg io g2 x2 ho hio m
 have tv:=pb.hi
 have Ct:∀w∈W,w.length<4611686018427387904:=λw hw=>by have:=pb.p.le w hw;omega
 have Ch:=uu.mono x2
 have ny2:=ny1.mono x2
 unfold Xh
 have c0:=alz pb
 refine C5 Ch (by omega) Ct (λh=>absurd c0 h) (λ_ _ g3 x3=>?_) (λ_ i j f=>(f.no (Jb pb)).elim)
 simp only [hP,hX,hY,ag]
 refine YQ (Ch.mono x3) (by omega) Ct c0 (Jb pb) ?_
 intro g4 x4
 have a9:=x3.trans x4
 simp only [hP,hX,hY,ag,jW,decide_true,Bool.not_true]
 simp only [amZ,gK,jW,ag,decide_true,Bool.not_true,am0,dO,cN]
 refine apC pb (Ch.mono a9).ss (ny2.mono a9) hb mw ?_
 intro t ht hl
 refine apM ht (by omega) ?_
 exact aoc hk pb p h5 (Ch.mono a9) (a9.get ho) (m.mono a9) ht hl
end
end Go.Proofs.YtncaiogfjjepcaaGreatDoor
