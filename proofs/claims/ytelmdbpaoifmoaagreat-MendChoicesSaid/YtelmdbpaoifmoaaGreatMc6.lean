/-
  Part 6 of the texts behind a statement of this seat: Zp1, ZR3, Zs1, Zp2, ZN5, Kp1, Kp2, Kp3, Kp4, Zp4, Zp5, ZMe10, Zs2, Sq27, ZM3, Sim33, Zs4, Zp3, ZB, ZMe8, Sq21, ZMe9, ZMd, ZMe15, Sq23, Sq28, Sq29, Zs5, ZSd, Zs6, Kp5, ZN6, Kp6, Kp7, Kp8, Kp9, ZN7, Kp10, ZK2, Kp11, Kp12.
-/
import Derived.Test.YtelmdbpaoifmoaaGreatProg
import Derived.KernelRfl
import Derived.Test.YtelmdbpaoifmoaaGreatMc5
namespace Go.Proofs.YtelmdbpaoifmoaaGreat
open Go.Sim

theorem aju {s:List UInt8} {h:ae} {K:Value→ae→Prop} (h0:0<s.length) (h1:s.length≤4000) (h2:s.head?=some 48→s.length=1)
  (hk:jq s→∀r h',EX h h'→ZV h' r (dF s)→K (.tuple #[r,B true]) h')
  (fD:¬jq s→∀h',EX h h'→K (.tuple #[.agg #[B false,.slice none 0 0],B false]) h'):ak Tryz.prog 99 [S s] h K:=by
 refine f99 ?_
 have e2:∀g:ae,aX 35 [(.bool false),(.slice none 0 0)] g=some (pt g.length 0,g++[.arr 35 [(.bool false),(.slice none 0 0)]]):=fun _=>rfl
 have e3:cT [(.bool false),(.slice none 0 0)] []=some (.agg #[B false,.slice none 0 0]):=rfl
 have pf:(s[0].toNat:Int)=48→s.length≤1:=by
  intro h3
  refine Nat.le_of_eq (h2 ?_)
  rw [List.head?_eq_getElem?,List.getElem?_eq_getElem h0]
  congr 1
  apply UInt8.toNat_inj.1
  show s[0].toNat=48
  omega
 have i0:=tb (a:=s) (i:=0) h0 .i64
 simp only [Int.natCast_zero] at i0
 simp only [Dm,e2,aE,kC,ah,cI]
 rw [decide_eq_false (show ¬(s.length:Int)<1 by omega)]
 simp only [QO,dO,kC,ah,fe]
 rw [decide_eq_false (show ¬(s.length:Int)>4000 by omega)]
 simp only [Hn,cY,ah,Ho,dO,i0]
 have after:∀t:Value,t=B false→Cg Tryz.prog K (S s) (pt h.length 0) (B false) t (h++[.arr 35 [(.bool false),(.slice none 0 0)]]):=by
  rintro _ rfl
  rw [QK]
  simp only [cY,ah,dp,e3,e2,aE,List.length_append,List.length_cons,List.length_nil,Nat.zero_add]
  have g1:(h++[aq.arr 35 [(.bool false),(.slice none 0 0)]]++[aq.arr 35 [(.bool false),(.slice none 0 0)]])[h.length+1]?=some (.arr 35 [(.bool false),(.slice none 0 0)]):=by simp
  have g0:(h++[aq.arr 35 [(.bool false),(.slice none 0 0)]]++[aq.arr 35 [(.bool false),(.slice none 0 0)]])[h.length]?=some (.arr 35 [(.bool false),(.slice none 0 0)]):=by simp
  have x1:EX h (h++[aq.arr 35 [(.bool false),(.slice none 0 0)]]++[aq.arr 35 [(.bool false),(.slice none 0 0)]]):=(EX.append _ _).push _
  have yH:(h++[aq.arr 35 [(.bool false),(.slice none 0 0)]]++[aq.arr 35 [(.bool false),(.slice none 0 0)]]).length=h.length+2:=by simp
  generalize h++[aq.arr 35 [(.bool false),(.slice none 0 0)]]++[aq.arr 35 [(.bool false),(.slice none 0 0)]]=hA at*
  rw [ef g1]
  simp only [aE,kC,ah]
  have fail:∀g:ae,EX h g→g[h.length]?=some (.arr 35 [.bool false,.slice none 0 0])→¬jq s→(OP (cT [(.bool false),(.slice none 0 0)] []) fun dS=>OH (aI 2 g (pt h.length 0) dS) fun _ h_1=>OP (af true 2 h_1 (pt h.length 0)) fun r0=>K (.tuple #[r0,(.bool false)]) h_1):=by
   intro g x k hn
   simp only [e3,ah]
   rw [ef k]
   simp only [aE]
   rw [cn (cM k),ah]
   exact fD hn _ (x.set (Nat.le_refl _) _)
  refine dc (σ:=Int×List Nat×Value×ae) (fun p=>[I p.1]) (fun p=>p.2.2.2)
   (fun p=>h.length+2≤p.2.2.2.length∧EX h p.2.2.2∧p.2.2.2[h.length]?=some (.arr 35 [.bool false,.slice none 0 0])∧p.2.2.2[h.length+1]?=some (.arr 35 [B false,p.2.2.1])∧mE (h.length+2) p.2.2.2 p.2.2.1 p.2.1∧b9 10000 p.2.1∧p.1=(s.length:Int)-4*(p.2.1.length:Int)∧ -4<p.1∧val 10000 p.2.1+10000^p.2.1.length*dF (s.take p.1.toNat)=dF s∧jq (s.drop p.1.toNat)) (fun p=>(p.1+4).toNat)
   ((s.length:Int),[],.slice none 0 0,hA.set (h.length+1) (.arr 35 [B false,.slice none 0 0])) rfl rfl
   ⟨by simp [yH],x1.set (by omega) _,by rw [List.getElem?_set_ne (by omega)];exact g0,cM g1,.inl ⟨rfl,rfl⟩,fun _ hx=>by simp at hx,by simp,by simp;omega,by simp [val],by simp [jq]⟩ ?_
  rintro ⟨vz,os,v,hx⟩ ⟨hlen,hex,k0,k1,gQ,eI,hat,asm,bS,yC⟩ L hL
  simp only at hlen hex k0 k1 gQ eI hat asm bS yC hL⊢
  rw [ayx]
  have e4:IntKind.wrap .i64 (vz-4)=vz-4:=wrap64 (by omega) (by omega)
  simp only [fe,ah,bK]
  refine ⟨fun qw=>?_,fun hle=>?_⟩
  ·simp only [fz,ah,e4,auW]
   obtain ⟨lo,dL⟩:∃lo:Nat,max 0 (vz-4)=(lo:Int):=⟨(max 0 (vz-4)).toNat,by omega⟩
   obtain ⟨a,ha⟩:∃a:Nat,vz=(a:Int):=⟨vz.toNat,by omega⟩
   subst ha
   rw [dL]
   have pc:a≤s.length:=by omega
   have ZQ:lo≤a:=by omega
   have aBw:lo=a-4:=by omega
   refine dc (σ:=Nat×Nat) (fun p=>[I p.1,I p.2]) (fun _=>hx) (fun p=>lo≤p.2∧p.2≤a∧p.1=dF ((s.take p.2).drop lo)∧jq ((s.take p.2).drop lo)) (fun p=>a-p.2)
    (0,lo) rfl rfl ⟨Nat.le_refl _,ZQ,by rw [List.drop_of_length_le (by rw [List.length_take];omega)];rfl,by
     show jq ((s.take lo).drop lo)
     rw [List.drop_of_length_le (by rw [List.length_take];omega)];intro c hc;simp at hc⟩ ?_
   rintro ⟨d,i⟩ ⟨hi1,me,Fx,lC⟩ L2 gP
   simp only at hi1 me Fx lC gP⊢
   have aC:=uP lC
   have ZP:((s.take i).drop lo).length=i-lo:=by rw [List.length_drop,List.length_take];omega
   rw [ZP] at aC
   have hp:(10:Nat)^(i-lo)≤10^4:=Nat.pow_le_pow_right (by decide) (by omega)
   have yB:d<10000:=by rw [Fx];omega
   rw [ayy]
   simp only [cI,ah,bK]
   refine ⟨fun hia=>?_,fun hia=>?_⟩
   ·have nv:i<s.length:=by omega
    have ix:=tb (a:=s) (i:=i) nv .i64
    have Gj:ai .lss (cv s[i]) (.int .u8 48)=some (B (decide ((s[i].toNat:Int)<48))):=rfl
    have Fk:ai .gtr (cv s[i]) (.int .u8 57)=some (B (decide ((s[i].toNat:Int)>57))):=rfl
    by_cases Zx:48≤s[i].toNat∧s[i].toNat≤57
    rotate_left
    ·have rz:¬jq s:=fun hd=>Zx (hd _ (List.getElem_mem nv))
     simp only [ix,ah,Gj]
     by_cases kL:s[i].toNat<48
     ·simp only [decide_eq_true (show (s[i].toNat:Int)<48 by omega),QM,eZ,QN,dA,ah,di]
      exact fail _ hex k0 rz
     ·simp only [decide_eq_false (show ¬(s[i].toNat:Int)<48 by omega),QM,dO,ix,ah,Fk,decide_eq_true (show (s[i].toNat:Int)>57 by omega),QN,cY,di]
      exact fail _ hex k0 rz
    have Ra:ai .sub (cv s[i]) (.int .u8 48)=some (.int .u8 (IntKind.wrap .u8 ((s[i].toNat:Int)-48))):=rfl
    have w8:IntKind.wrap .u8 ((s[i].toNat:Int)-48)=((s[i].toNat-48:Nat):Int):=by
     have e:IntKind.wrap .u8 ((s[i].toNat:Int)-48)=((s[i].toNat:Int)-48)%256:=by simp [IntKind.wrap,IntKind.bits,IntKind.signed]
     rw [e];omega
    have w64:IntKind.wrap .i64 ((s[i].toNat-48:Nat):Int)=((s[i].toNat-48:Nat):Int):=wrap64 (by omega) (by omega)
    have w10:IntKind.wrap .i64 ((10:Int)*(d:Int))=((10*d:Nat):Int):=by rw [wrap64 (by omega) (by omega)];omega
    have wad:IntKind.wrap .i64 (((10*d:Nat):Int)+((s[i].toNat-48:Nat):Int))=((10*d+(s[i].toNat-48):Nat):Int):=by rw [wrap64 (by omega) (by omega)];omega
    simp only [ix,ah,Gj,decide_eq_false (show ¬(s[i].toNat:Int)<48 by omega),QM,dO,Fk,decide_eq_false (show ¬(s[i].toNat:Int)>57 by omega),QN,cY,dp,tR,w10,Ra,w8,jU,w64,cD,wad,inc i (by omega),true_and]
    refine gP (10*d+(s[i].toNat-48),i+1) ⟨by show lo≤i+1;omega,by show i+1≤a;omega,?_,?_⟩ (by show a-(i+1)<a-i;omega)
    rotate_left
    ·show jq ((s.take (i+1)).drop lo)
     rw [List.take_succ_eq_append_getElem nv,List.drop_append_of_le_length (by rw [List.length_take];omega)]
     intro c hc
     rcases List.mem_append.1 hc with hc | hc
     ·exact lC c hc
     ·rw [List.mem_singleton.1 hc];exact Zx
    show 10*d+(s[i].toNat-48)=dF ((s.take (i+1)).drop lo)
    rw [List.take_succ_eq_append_getElem nv,List.drop_append_of_le_length (by rw [List.length_take];omega),zP,H9,←Fx]
    simp
    omega
   ·have asD:i=a:=by omega
    subst asD
    rw [ayz]
    have ld:af false 1 hx (pt (h.length+1) 1)=some v:=by simp [af,aO,k1,ck]
    simp only [bW,Nat.zero_add,ah,ld]
    refine UE hlen gQ (by omega) ?_
    intro v' bG hs lE rG
    have jx:bG[h.length+1]?=some (.arr 35 [B false,v]):=by rw [hs _ (by omega)];exact k1
    rw [oL jx (by simp) rG.ds.one.1 rG.ds.one.2]
    have e5:IntKind.wrap .i64 ((i:Int)-4)=(i:Int)-4:=wrap64 (by omega) (by omega)
    simp only [aE,List.set_cons_succ,List.set_cons_zero,ayA,fz,ah,e5,true_and]
    have el:(os++[d]).length=os.length+1:=by simp
    refine hL ((i:Int)-4,os++[d],v',bG.set (h.length+1) (.arr 35 [B false,v'])) ⟨?_,?_,?_,cM jx,rG.set (by omega) _,eI.append (fun y hy=>by simp at hy;omega),by rw [el];show (i:Int)-4=_;omega,by show -4<(i:Int)-4;omega,?_,?_⟩ (by show ((i:Int)-4+4).toNat<((i:Int)+4).toNat;omega)
    ·rw [List.length_set];exact lE
    ·refine EX.set ⟨by have:=hex.1;omega,fun j hj=>?_⟩ (by omega) _
     rw [hs j (by omega)];exact hex.2 j hj
    ·rw [List.getElem?_set_ne (by omega),hs _ (by omega)];exact k0
    rotate_left
    ·show jq (s.drop ((i:Int)-4).toNat)
     have Mo:((i:Int)-4).toNat=lo:=by omega
     have et:(i:Int).toNat=i:=by omega
     rw [et] at yC
     rw [Mo]
     have sT:s.drop lo=(s.take i).drop lo++s.drop i:=by
      conv=>lhs;rw [←List.take_append_drop i s]
      rw [List.drop_append_of_le_length (by rw [List.length_take];omega)]
     rw [sT]
     intro c hc
     rcases List.mem_append.1 hc with hc | hc
     ·exact lC c hc
     ·exact yC c hc
    ·show val 10000 (os++[d])+10000^(os++[d]).length*dF (s.take ((i:Int)-4).toNat)=dF s
     rw [el,lM,←bS,Nat.pow_succ]
     have et:(i:Int).toNat=i:=by omega
     have Mo:((i:Int)-4).toNat=lo:=by omega
     rw [et,Mo]
     have sT:s.take i=s.take lo++(s.take i).drop lo:=by
      conv=>lhs;rw [←List.take_append_drop lo (s.take i)]
      rw [List.take_take,Nat.min_eq_left ZQ]
     rw [sT,zP,ZP,←Fx]
     simp only [val,Nat.mul_zero,Nat.add_zero]
     have asN:dF (s.take lo)*10^(i-lo)=10000*dF (s.take lo):=by
      by_cases h4:4≤i
      ·have:i-lo=4:=by omega
       rw [this,Nat.mul_comm]
      ·have:lo=0:=by omega
       subst this
       simp [dF]
     rw [asN]
     generalize 10000^os.length=P
     generalize dF (s.take lo)=w
     generalize val 10000 os=q
     clear hL gP gQ rG
     grind
  ·rw [ayB,cn k1]
   simp only [ah]
   have mb:vz.toNat=0:=by omega
   rw [mb] at bS yC
   rw [List.drop_zero] at yC
   have hk:=hk yC
   have atl:val 10000 os=dF s:=by simpa [dF] using bS
   refine uW gQ.ds eI (by omega) ?_
   intro r h5 x5 zr
   simp only [Bool.false_eq_true,if_false,atl] at zr
   obtain ⟨q,rfl,hq⟩:=id zr
   have g':=x5.get k0
   refine vN (K:=fun v h=>K (.tuple #[v,B true]) h) g' (hk _ _ ((hex.trans x5).set (Nat.le_refl _) _) (zr.bH g' _))
 by_cases kL:(s[0].toNat:Int)=48
 ·have yH:=pf kL
  have e5:ai .eql (cv s[0]) (.int .u8 48)=some (B true):=by
   show some (B (decide ((s[0].toNat:Int)=48)))=_
   rw [decide_eq_true kL]
  simp only [e5,ah,Cm,fy,kC,fe,decide_eq_false (show ¬(s.length:Int)>1 by omega),Cn,dO,dA]
  exact after _ rfl
 ·have e5:ai .eql (cv s[0]) (.int .u8 48)=some (B false):=by
   show some (B (decide ((s[0].toNat:Int)=48)))=_
   rw [decide_eq_false kL]
  simp only [e5,ah,Cm,iz,Cn,dO,cY]
  exact after _ rfl


def fM (s:List UInt8):Bool:=((decide (0<s.length)&&decide (s.length≤4000))&& !(decide (s.head?=some 48)&&decide (1<s.length)))&&s.all fun c=>decide (48≤c.toNat)&&decide (c.toNat≤57)

theorem oZ {s:List UInt8}:fM s=true↔(0<s.length∧s.length≤4000)∧(s.head?=some 48→s.length=1)∧jq s:=by
 unfold fM jq
 simp only [Bool.and_eq_true,decide_eq_true_eq,Bool.not_eq_true',Bool.and_eq_false_iff,decide_eq_false_iff_not,List.all_eq_true]
 constructor
 ·rintro ⟨⟨h1,h2⟩,h3⟩
  refine ⟨h1,fun h=>?_,h3⟩
  rcases h2 with h2 | h2
  ·exact absurd h h2
  ·omega
 ·rintro ⟨h1,h2,h3⟩
  refine ⟨⟨h1,?_⟩,h3⟩
  by_cases h:s.head?=some 48
  ·have:=h2 h
   exact .inr (by omega)
  ·exact .inl h

theorem ajv {s:List UInt8} {h:ae} {K:Value→ae→Prop}
  (hk:fM s=true→∀r h',EX h h'→ZV h' r (dF s)→K (.tuple #[r,B true]) h')
  (fD:fM s=false→∀h',EX h h'→K (.tuple #[.agg #[B false,.slice none 0 0],B false]) h'):ak Tryz.prog 99 [S s] h K:=by
 by_cases hb:(0<s.length∧s.length≤4000)∧(s.head?=some 48→s.length=1)
 ·refine aju hb.1.1 hb.1.2 hb.2 (fun hd=>hk (oZ.2 ⟨hb.1,hb.2,hd⟩)) fun hd=>fD ?_
  cases e:fM s with
  | false=>rfl
  | true=>exact absurd (oZ.1 e).2.2 hd
 have cW:fM s=false:=by
  cases e:fM s with
  | false=>rfl
  | true=>exact absurd ⟨(oZ.1 e).1,(oZ.1 e).2.1⟩ hb
 refine f99 ?_
 have e2:∀g:ae,aX 35 [(.bool false),(.slice none 0 0)] g=some (pt g.length 0,g++[.arr 35 [(.bool false),(.slice none 0 0)]]):=fun _=>rfl
 have e3:cT [(.bool false),(.slice none 0 0)] []=some (.agg #[B false,.slice none 0 0]):=rfl
 simp only [Dm,e2,aE,kC,ah,cI]
 have k0:=bR (h:=h) (o:=.arr 35 [(.bool false),(.slice none 0 0)])
 have x0:EX h (h++[.arr 35 [(.bool false),(.slice none 0 0)]]):=EX.append _ _
 have after:∀t:Value,Cg Tryz.prog K (S s) (pt h.length 0) (B true) t (h++[.arr 35 [(.bool false),(.slice none 0 0)]]):=by
  intro t
  rw [QK]
  simp only [dA,ah,di,e3]
  rw [ef k0]
  simp only [aE]
  rw [cn (cM k0),ah]
  exact fD cW _ (x0.set (Nat.le_refl _) _)
 by_cases h0:s.length=0
 ·rw [decide_eq_true (show (s.length:Int)<1 by omega)]
  simp only [QO,eZ,Hn,dA,ah,Ho,Cm,Cn,u7]
  exact after _
 rw [decide_eq_false (show ¬(s.length:Int)<1 by omega)]
 simp only [QO,dO,kC,ah,fe]
 by_cases h1:s.length>4000
 ·rw [decide_eq_true (show (s.length:Int)>4000 by omega)]
  simp only [Hn,cY,ah,Ho,eZ,Cm,Cn,u7]
  exact after _
 rw [decide_eq_false (show ¬(s.length:Int)>4000 by omega)]
 have i0:=tb (a:=s) (i:=0) (by omega) .i64
 simp only [Int.natCast_zero] at i0
 have h2:s.head?=some 48∧1<s.length:=by
  by_cases h:s.head?=some 48∧1<s.length
  ·exact h
  ·refine absurd ⟨⟨by omega,by omega⟩,fun h3=>?_⟩ hb
   have:¬1<s.length:=fun h4=>h ⟨h3,h4⟩
   omega
 have hc:(s[0]'(by omega)).toNat=48:=by
  have:=h2.1
  rw [List.head?_eq_getElem?,List.getElem?_eq_getElem (by omega)] at this
  injection this with this
  rw [this];rfl
 have e5:ai .eql (cv (s[0]'(by omega))) (.int .u8 48)=some (B true):=by
  show some (B (decide (((s[0]'(by omega)).toNat:Int)=48)))=_
  rw [decide_eq_true (by omega)]
 simp only [Hn,cY,ah,Ho,dO,i0,e5,Cm,fy,kC,fe,decide_eq_true (show (s.length:Int)>1 by omega),Cn,dA,QK,di,e3]
 rw [ef k0]
 simp only [aE]
 rw [cn (cM k0),ah]
 exact fD cW _ (x0.set (Nat.le_refl _) _)

end Go.Proofs.YtelmdbpaoifmoaaGreat


namespace Go.Proofs.YtelmdbpaoifmoaaGreat
open Go.Sim
variable (P : Program) (K : VK)
/-! F51: pommel/pommelref01.DivQ -/
noncomputable section
variable (a0 b1 : Value) (h : ae)
def acP:=bw Tryz.prog 51 [[],[]]
@[irreducible] def WT:=bE acP
theorem k51:acP=some (16,WT,[.cell true 4 4]):=by kernel_rfl
def Kz:Prop:=
 OH (bk 37 h a0) fun a2 h_1=>
 OH (bk 37 h_1 b1) fun b3 h_2=>
 OH (aX 37 [(.bool false),(.slice none 0 0),(.bool false),(.slice none 0 0)] h_2) fun x4 h_3=>
 OP (aK 0 a2) fun x5=>
 OP (af true 2 h_3 x5) fun x6=>
 (True)∧
 OP (aK 2 b3) fun x7=>
 OP (af true 2 h_3 x7) fun x8=>
 (True)∧
 ak P 71 [x6,x8] h_3 fun x9 h_4=>
 (True)∧
 OP (aK 2 a2) fun aG=>
 OP (af true 2 h_4 aG) fun ay=>
 (af true 2 h_3 aG=some ay∧True)∧
 OP (aK 0 b3) fun az=>
 OP (af true 2 h_4 az) fun aA=>
 (af true 2 h_3 az=some aA∧True)∧
 ak P 71 [ay,aA] h_4 fun aP h_5=>
 (True)∧
 ak P 54 [x9,aP] h_5 fun bc h_6=>
 (True)∧
 OH (aI 4 h_6 x4 bc) fun _ h_7=>
 (True)∧
 OP (af true 4 h_7 x4) fun r0=>
 K r0 h_7
theorem e51:aj P WT (aR [.cell true 4 4] K) (bp [a0,b1]) h=Kz P K a0 b1 h:=by kernel_rfl
theorem f51 {K:VK} {a0 b1:Value} {h:ae} (H:Kz Tryz.prog K a0 b1 h):ak Tryz.prog 51 [a0,b1] h K:=
 bF k51 (Nat.le_of_ble_eq_true rfl) ((e51 Tryz.prog K a0 b1 h).mpr H)
end
/-! F52: pommel/pommelref01.SubQ -/
noncomputable section
variable (a0 b1 : Value) (h : ae)
def acQ:=bw Tryz.prog 52 [[],[]]
@[irreducible] def WU:=bE acQ
theorem k52:acQ=some (22,WU,[.cell true 4 4]):=by kernel_rfl
def KA:Prop:=
 OH (bk 37 h a0) fun a2 h_1=>
 OH (bk 37 h_1 b1) fun b3 h_2=>
 OH (aX 37 [(.bool false),(.slice none 0 0),(.bool false),(.slice none 0 0)] h_2) fun x4 h_3=>
 OP (aK 0 a2) fun x5=>
 OP (af true 2 h_3 x5) fun x6=>
 (True)∧
 OP (aK 2 b3) fun x7=>
 OP (af true 2 h_3 x7) fun x8=>
 (True)∧
 ak P 71 [x6,x8] h_3 fun x9 h_4=>
 (True)∧
 OP (aK 0 b3) fun aG=>
 OP (af true 2 h_4 aG) fun ay=>
 (af true 2 h_3 aG=some ay∧True)∧
 OP (aK 2 a2) fun az=>
 OP (af true 2 h_4 az) fun aA=>
 (af true 2 h_3 az=some aA∧True)∧
 ak P 71 [ay,aA] h_4 fun aP h_5=>
 (True)∧
 ak P 92 [x9,aP] h_5 fun bc h_6=>
 (True)∧
 OP (aK 2 a2) fun a9=>
 OP (af true 2 h_6 a9) fun bQ=>
 (af true 2 h_3 a9=some bQ∧af true 2 h_4 a9=some bQ∧af true 2 h_5 a9=some bQ∧True)∧
 OP (aK 2 b3) fun aQ=>
 OP (af true 2 h_6 aQ) fun aN=>
 (af true 2 h_3 aQ=some aN∧af true 2 h_4 aQ=some aN∧af true 2 h_5 aQ=some aN∧True)∧
 ak P 71 [bQ,aN] h_6 fun aW h_7=>
 (True)∧
 OP (cT [(.bool false),(.slice none 0 0),(.bool false),(.slice none 0 0)] [(0,2,bc),(2,2,aW)]) fun bm=>
 OH (aI 4 h_7 x4 bm) fun _ h_8=>
 (True)∧
 OP (af true 4 h_8 x4) fun r0=>
 K r0 h_8
theorem e52:aj P WU (aR [.cell true 4 4] K) (bp [a0,b1]) h=KA P K a0 b1 h:=by kernel_rfl
theorem f52 {K:VK} {a0 b1:Value} {h:ae} (H:KA Tryz.prog K a0 b1 h):ak Tryz.prog 52 [a0,b1] h K:=
 bF k52 (Nat.le_of_ble_eq_true rfl) ((e52 Tryz.prog K a0 b1 h).mpr H)
end
/-! F54: pommel/pommelref01.Over -/
noncomputable section
variable (n0 d1 n2 d3 x4 : Value) (h : ae)
def acR:=bw Tryz.prog 54 [[],[],[2,3,4],[]]
@[irreducible] def LF:=bE acR
@[irreducible] def aoN:=LF.r.r.l
theorem k54:acR=some (14,LF,[.cell true 4 4]):=by kernel_rfl
def alq (_P:Program) (K:VK):ar:=aR [.cell true 4 4] K
def PW:Prop:=av (aj P aoN (alq P K)) [2,3,4] [n2,d3,x4] h
theorem axA:PW P K n2 d3 x4 h=
 (OP (af true 2 h n2) fun ay=>
 OP (af true 2 h d3) fun az=>
 OP (cT [(.bool false),(.slice none 0 0),(.bool false),(.slice none 0 0)] [(0,2,ay),(2,2,az)]) fun aA=>
 OH (aI 4 h x4 aA) fun _ h_1=>
 OP (af true 4 h_1 x4) fun r0=>
 K r0 h_1):=ax (by kernel_rfl)
def KB:Prop:=
 OH (bk 35 h n0) fun n2 h_1=>
 OH (bk 35 h_1 d1) fun d3 h_2=>
 OH (aX 37 [(.bool false),(.slice none 0 0),(.bool false),(.slice none 0 0)] h_2) fun x4 h_3=>
 OP (aK 0 d3) fun x5=>
 OP (af false 1 h_3 x5) fun x6=>
 aM x6
 (OP (af true 2 h_3 n2) fun x7=>
 (True)∧
 ak P 95 [x7] h_3 fun x8 h_4=>
 (True)∧
 OP (af true 2 h_4 d3) fun x9=>
 (af true 2 h_3 d3=some x9∧True)∧
 ak P 95 [x9] h_4 fun aG h_5=>
 (True)∧
 OH (aI 2 h_5 n2 x8) fun _ h_6=>
 (True)∧
 OH (aI 2 h_6 d3 aG) fun _ h_7=>
 (True)∧
 PW P K n2 d3 x4 h_7)
 (PW P K n2 d3 x4 h_3)
theorem e54:aj P LF (aR [.cell true 4 4] K) (bp [n0,d1]) h=KB P K n0 d1 h:=by kernel_rfl
theorem f54 {K:VK} {n0 d1:Value} {h:ae} (H:KB Tryz.prog K n0 d1 h):ak Tryz.prog 54 [n0,d1] h K:=
 bF k54 (Nat.le_of_ble_eq_true rfl) ((e54 Tryz.prog K n0 d1 h).mpr H)
end
end Go.Proofs.YtelmdbpaoifmoaaGreat

namespace Go.Proofs.YtelmdbpaoifmoaaGreat
open Go.Sim

theorem C54 {va vb:Value} {a b:Int} {h:ae} {K:Value→ae→Prop} (ha:ZV h va a) (hb:ZV h vb b) (b0:0≤b) (hk:∀r h',EX h h'→QZ h' r a b→K r h'):ak Tryz.prog 54 [va,vb] h K:=by
 obtain ⟨v,rfl,hv⟩:=ha
 obtain ⟨w,rfl,hw⟩:=hb
 have wI:decide (b<0)=false:=decide_eq_false (by omega)
 refine f54 ?_
 have e1:∀(g:ae) (s:Bool) (v:Value),bk 35 g (.agg #[B s,v])=some (pt g.length 0,g++[.arr 35 [B s,v]]):=fun _ _ _=>rfl
 have e3:∀(g:ae),aX 37 [(.bool false),(.slice none 0 0),(.bool false),(.slice none 0 0)] g=some (pt g.length 0,g++[.arr 37 z4]):=fun _=>rfl
 simp only [KB,e1,e3,aE]
 have q0:EX h (h++[.arr 35 [B (decide (a<0)),v]]):=EX.append _ _
 have p0:(h++[aq.arr 35 [B (decide (a<0)),v]])[h.length]?=some (.arr 35 [B (decide (a<0)),v]):=bR
 generalize h++[aq.arr 35 [B (decide (a<0)),v]]=ga at q0 p0⊢
 have q1:EX ga (ga++[.arr 35 [B (decide (b<0)),w]]):=EX.append _ _
 have p1:(ga++[aq.arr 35 [B (decide (b<0)),w]])[ga.length]?=some (.arr 35 [B (decide (b<0)),w]):=bR
 generalize ga++[aq.arr 35 [B (decide (b<0)),w]]=gb at q1 p1⊢
 have q2:EX gb (gb++[.arr 37 z4]):=EX.append _ _
 have p2:(gb++[aq.arr 37 z4])[gb.length]?=some (.arr 37 z4):=bR
 generalize gb++[aq.arr 37 z4]=gc at q2 p2⊢
 have k0:=(q1.trans q2).get p0
 have k1:=q2.get p1
 have x0:=q0.trans (q1.trans q2)
 have l1:af false 1 gc (pt ga.length 0)=some (B (decide (b<0))):=by simp [af,aO,k1,ck]
 simp only [bW,Nat.add_zero,ah,l1]
 rw [wI]
 simp only [dp]
 rw [axA,cn k0,cn k1]
 simp only [ah]
 have F7:ZV gc (.agg #[B (decide (a<0)),v]) a:=⟨v,rfl,hv.mono x0⟩
 have F8:ZV gc (.agg #[B (decide (b<0)),w]) b:=⟨w,rfl,hw.mono x0⟩
 obtain ⟨xs,dx,_⟩:=id (hv.mono x0)
 obtain ⟨ys,dy,_⟩:=id (hw.mono x0)
 rw [Dw dx dy]
 simp only [ah]
 exact qh p2 (hk _ _ (x0.set (q0.trans q1).1 _) ⟨v,w,rfl,(hv.mono x0).bH p2 _,(hw.mono x0).bH p2 _⟩)

end Go.Proofs.YtelmdbpaoifmoaaGreat


namespace Go.Proofs.YtelmdbpaoifmoaaGreat
open Go.Sim

def cg (s:List UInt8):Nat:=if fM s=true then dF s else 0

theorem H8 (s:List UInt8):cg s<10^s.length:=by
 unfold cg
 split
 ·rename_i h
  exact uP (oZ.1 h).2.2
 ·exact Nat.pow_pos (by decide)

theorem avE {k n:Nat} (h:k≤4*n):10^k≤10000^n:=by
 have e:10^(4*n)=10000^n:=by rw [Nat.pow_mul]
 rw [←e]
 exact Nat.pow_le_pow_right (by decide) h
theorem avA:(10000:Nat)^199≤bu:=by unfold bu;decide+kernel
theorem ah9:(2:Nat)<10000^199:=by decide+kernel

theorem aic {s:List UInt8} (h:s.length≤700):cg s<10000^199:=by
 exact Nat.lt_of_lt_of_le (H8 s) (avE (n:=199) (by omega))

theorem eR.nil (h:ae):eR h (.slice none 0 0) 0:=⟨[],.inl ⟨rfl,rfl⟩,⟨fun y hy=>by simp at hy,by simp⟩,rfl⟩

theorem Sx {s:List UInt8} {h:ae} {K:Value→ae→Prop}
  (hk:∀r h',EX h h'→ZV h' r (cg s)→K (.tuple #[r,B (fM s)]) h'):ak Tryz.prog 99 [S s] h K:=by
 refine ajv (fun hd r h' x z=>?_) (fun hd h' x=>?_)
 ·have:=hk r h' x (by unfold cg;rw [if_pos hd];exact z)
  rw [hd] at this
  exact this
 ·have:=hk (.agg #[B false,.slice none 0 0]) h' x (by
   unfold cg;rw [if_neg (by rw [hd];decide)]
   exact ⟨.slice none 0 0,rfl,eR.nil h'⟩)
  rw [hd] at this
  exact this


def pS:Value:=.agg #[B false,.slice none 0 0,B false,.slice none 0 0]

theorem YQ {g:ae} {j:Nat} {K:Value→ae→Prop} (hg:g[j]?=some (.arr 37 z4)) (hk:K (.tuple #[pS,B false]) (g.set j (.arr 37 z4))):
  OP (cT [(.bool false),(.slice none 0 0),(.bool false),(.slice none 0 0)] []) fun hZ=>OH (aI 4 g (pt j 0) hZ) fun _ h_1=>OP (af true 4 h_1 (pt j 0)) fun r0=>K (.tuple #[r0,(.bool false)]) h_1:=by
 have e:cT [(.bool false),(.slice none 0 0),(.bool false),(.slice none 0 0)] []=some pS:=rfl
 rw [e,ah]
 have s:=nN (x:=B false) (y:=.slice none 0 0) (z:=B false) (w:=.slice none 0 0) hg
 have s':aI 4 g (pt j 0) pS=some (undef,g.set j (.arr 37 z4)):=s
 rw [s',aE]
 have l:=iu (cM (o:=.arr 37 z4) hg)
 have l':af true 4 (g.set j (.arr 37 z4)) (pt j 0)=some pS:=l
 rw [l',ah]
 exact hk

theorem Sl {m ok:Bool} {n d:Nat} {h0 g:ae} {i2 i8 i10:Nat} {vn vd:Value} {K:Value→ae→Prop} (k2:g[i2]?=some (.arr 37 z4)) (k8:g[i8]?=some (.arr 35 [B (decide ((n:Int)<0)),vn])) (mn:eR g vn n)
  (jf:g[i10]?=some (.arr 35 [B (decide ((d:Int)<0)),vd])) (md:eR g vd d) (b2:h0.length≤i2) (b8:h0.length≤i8) (n28:i2≠i8) (au6:i8≠i10) (x:EX h0 g)
  (hk:ok=true→(m=true→n≠0)→∀r h',EX h0 h'→QZ h' r (if m then -(n:Int) else n) d→K (.tuple #[r,B true]) h')
  (fD:(ok=false∨m=true∧n=0)→∀h',EX h0 h'→K (.tuple #[pS,B false]) h'):xm Tryz.prog K (pt i2 0) (B m) (pt i8 0) (B ok) (pt i10 0) g:=by
 have bad:(ok=false∨m=true∧n=0)→∀t u,bL t (.bool true) u=some (B true)→Ce Tryz.prog K (pt i2 0) (B m) (pt i8 0) (pt i10 0) t u g:=by
  intro hb t u ht
  rw [ag3,ht]
  simp only [ah,di]
  exact YQ k2 (fD hb _ (x.set b2 _))
 have AY:ok=true→(m=true→n≠0)→Ce Tryz.prog K (pt i2 0) (B m) (pt i8 0) (pt i10 0) (B false) (B false) g:=by
  intro ho hm
  have hk:=hk ho hm
  rw [ag3]
  simp only [cY,ah]
  cases m with
  | false=>
   simp only [dp]
   rw [ag4,cn k8,ah,cn jf,ah]
   exact vL (K:=fun v h=>K (.tuple #[v,B true]) h) ⟨vn,rfl,mn⟩ ⟨vd,rfl,md⟩ x b2 k2 hk
  | true=>
   simp only [dp,di]
   rw [cn k8,ah]
   refine Sw (a:=n) ⟨vn,rfl,mn⟩ ?_
   intro r7 h7 x7 z7
   obtain ⟨v7,rfl,hv7⟩:=id z7
   have g7:=x7.get k8
   rw [ef g7]
   simp only [aE]
   have atW:(h7.set i8 (.arr 35 [B (decide (-(n:Int)<0)),v7]))[i10]?=some (.arr 35 [B (decide ((d:Int)<0)),vd]):=by
    rw [List.getElem?_set_ne au6];exact x7.get jf
   rw [ag4,cn (cM g7),ah,cn atW,ah]
   refine vL (K:=fun v h=>K (.tuple #[v,B true]) h) (z7.bH g7 _) ⟨vd,rfl,?_⟩ ((x.trans x7).set b8 _) b2 (by rw [List.getElem?_set_ne n28.symm];exact x7.get k2) hk
   exact eR.bH (md.mono x7) g7 _
 have n1:fA .not (B ok)=some (B (!ok)):=rfl
 rw [axO,n1,ah,axP]
 cases ok with
 | false=>
  simp only [Bool.not_false,eZ,ag2,u7,QF]
  exact bad (.inl rfl) _ _ rfl
 | true=>
  simp only [Bool.not_true,dO,ag2]
  cases m with
  | false=>
   simp only [iz,QF,dO,cY,ah]
   exact AY rfl (fun h=>by cases h)
  | true=>
   obtain ⟨l,p1,p2⟩:=mn.nE
   have ld:af false 1 g (pt i8 1)=some vn:=by simp [af,aO,k8,ck]
   simp only [fy,bW,Nat.zero_add,ah,ld,p1,fX,QF,dO,dA]
   by_cases hn:n=0
   ·rw [decide_eq_true (show (l:Int)=0 by omega)]
    exact bad (.inr ⟨rfl,hn⟩) _ _ rfl
   ·rw [decide_eq_false (show ¬(l:Int)=0 by omega)]
    exact AY rfl (fun _=>hn)

def cU (t:List UInt8):List UInt8:=t.take (t.idxOf 47)
def dm (t:List UInt8):List UInt8:=t.drop (t.idxOf 47+1)
def lB (t:List UInt8):Bool:=decide (t.idxOf 47<t.length)
def nm (t:List UInt8):Bool:= !lB t||(fM (dm t)&&(decide (2≤cg (dm t))&&decide (Nat.gcd (cg (cU t)) (cg (dm t))=1)))
def nV (t:List UInt8):Nat:=if lB t=true then cg (dm t) else 1
def pL (m:Bool) (t:List UInt8):Option (Int×Nat):=
 if nm t=true∧fM (cU t)=true∧(m=true→cg (cU t)≠0) then some (if m then -(cg (cU t):Int) else cg (cU t),nV t) else none
def jz (s:List UInt8):Option (Int×Nat):=if s.head?=some 45 then pL true s.tail else pL false s

theorem atC (s:List UInt8):∀{i:Nat},i<s.length→(s.drop i).idxOf 47=if s[i]! =47 then 0 else (s.drop (i+1)).idxOf 47+1:=by
 intro i hi
 rw [List.drop_eq_getElem_cons hi,List.idxOf_cons]
 have:s[i]! =s[i]:=by simp [hi]
 rw [this]
 by_cases h:s[i]=47
 ·simp [h]
 ·have h':(s[i]==47)=false:=beq_eq_false_iff_ne.2 h
  rw [h'];simp [h]

theorem IB {s:List UInt8} {m:Bool} {h:ae} {j:Nat} {K:Value→ae→Prop} {h0:ae} (hl:s.length≤700) (x0:EX h0 h) (hj:h0.length≤j) (hg:h[j]?=some (.arr 37 z4))
  (hk:∀n d,pL m s=some (n,d)→∀r h',EX h0 h'→QZ h' r n d→K (.tuple #[r,B true]) h')
  (fD:pL m s=none→∀h',EX h0 h'→K (.tuple #[pS,B false]) h'):G0 Tryz.prog K (pt j 0) (S s) (B m) h:=by
 rw [axK]
 have e1:IntKind.wrap .i64 ((s.length:Int)-1)=(s.length:Int)-1:=wrap64 (by omega) (by omega)
 simp only [kC,ah,fz,e1]
 refine dc (σ:=Nat) (fun p=>[I ((p+(s.drop p).idxOf 47:Nat):Int),I ((p:Int)-1)]) (fun _=>h) (fun p=>p≤s.length) (fun p=>p)
  s.length (by simp) rfl (Nat.le_refl _) ?_
 intro i hi L hL
 rw [axL]
 simp only [kl,ah,bK]
 refine ⟨fun cH=>?_,fun aC=>?_⟩
 ·obtain ⟨p,rfl⟩:∃p,i=p+1:=⟨i-1,by omega⟩
  have hp:p<s.length:=by omega
  have ei:((p+1:Nat):Int)-1=(p:Int):=by omega
  have ix:=tb (a:=s) (i:=p) hp .i64
  have e5:ai .eql (cv s[p]) (.int .u8 47)=some (B (decide ((s[p].toNat:Int)=47))):=rfl
  have e2:IntKind.wrap .i64 ((p:Int)-1)=(p:Int)-1:=wrap64 (by omega) (by omega)
  have nx:=hL p (by omega) (by omega)
  rw [atC s hp] at nx
  have e6:s[p]! =s[p]:=by simp [hp]
  rw [e6] at nx
  rw [ei]
  simp only [ix,ah,e5,axM,fz,e2,true_and]
  have e7:(decide ((s[p].toNat:Int)=47))=decide (s[p]=47):=by
   rw [decide_eq_decide]
   constructor
   ·intro h;apply UInt8.toNat_inj.1;show s[p].toNat=47;omega
   ·intro h;rw [h];rfl
  rw [e7,bK]
  refine ⟨fun h=>?_,fun h=>?_⟩
  ·rw [if_pos h] at nx;simpa using nx
  ·rw [if_neg h] at nx
   have:p+((s.drop (p+1)).idxOf 47+1)=p+1+(s.drop (p+1)).idxOf 47:=by omega
   rw [this] at nx;exact nx
 ·have mb:i=0:=by omega
  subst mb
  simp only [List.drop_zero,Nat.zero_add]
  have fO:s.idxOf 47≤s.length:=List.idxOf_le_length
  rw [axN]
  have tu:=HN (a:=s) (n:=s.idxOf 47) fO .i64
  simp only [tu,ah]
  have lo:(cU s).length≤700:=by unfold cU;rw [List.length_take];omega
  have lu:(dm s).length≤700:=by unfold dm;rw [List.length_drop];omega
  refine Sx ?_
  intro r h1 x1 z1
  show OP _ _
  have fo:s.take (s.idxOf 47)=cU s:=rfl
  rw [fo] at z1
  obtain ⟨v,rfl,hv⟩:=id z1
  rw [Int.natAbs_natCast] at hv
  simp only [eJ,fq,fC,ah,fo]
  have e2:∀g:ae,aX 35 [(.bool false),(.slice none 0 0)] g=some (pt g.length 0,g++[.arr 35 [(.bool false),(.slice none 0 0)]]):=fun _=>rfl
  simp only [e2,aE]
  rw [ef bR]
  simp only [aE]
  have x2:EX h1 ((h1++[aq.arr 35 [(.bool false),(.slice none 0 0)]]).set h1.length (.arr 35 [B (decide ((cg (cU s):Int)<0)),v])):=EX.set (EX.append _ _) (Nat.le_refl _) _
  have g3:((h1++[aq.arr 35 [(.bool false),(.slice none 0 0)]]).set h1.length (.arr 35 [B (decide ((cg (cU s):Int)<0)),v]))[h1.length]?=some (.arr 35 [B (decide ((cg (cU s):Int)<0)),v]):=cM bR
  generalize (h1++[aq.arr 35 [(.bool false),(.slice none 0 0)]]).set h1.length (.arr 35 [B (decide ((cg (cU s):Int)<0)),v])=h3 at x2 g3⊢
  have pj:=(List.getElem?_eq_some_iff.1 hg).1
  have hj1:j<h1.length:=by have:=x1.1;omega
  have BE:=x0.1
  refine uY (z:=((1:Nat):Int)) (by decide) ?_
  intro r4 h4 x4 qZ
  obtain ⟨w,rfl,hw⟩:=id qZ
  rw [Int.natAbs_natCast] at hw
  rw [ef bR]
  simp only [aE]
  have x5:EX h4 ((h4++[aq.arr 35 [(.bool false),(.slice none 0 0)]]).set h4.length (.arr 35 [B (decide (((1:Nat):Int)<0)),w])):=EX.set (EX.append _ _) (Nat.le_refl _) _
  have g5:((h4++[aq.arr 35 [(.bool false),(.slice none 0 0)]]).set h4.length (.arr 35 [B (decide (((1:Nat):Int)<0)),w]))[h4.length]?=some (.arr 35 [B (decide (((1:Nat):Int)<0)),w]):=cM bR
  generalize (h4++[aq.arr 35 [(.bool false),(.slice none 0 0)]]).set h4.length (.arr 35 [B (decide (((1:Nat):Int)<0)),w])=h5 at x5 g5⊢
  have hh1:h1.length<h4.length:=by
   have:=x4.1
   have:=(List.getElem?_eq_some_iff.1 g3).1
   omega
  have bc:=(x2.trans x4).trans x5
  have MI:=(x4.trans x5).get g3
  have Nh:=(x1.trans bc).get hg
  have xA:EX h0 h5:=x0.trans (x1.trans bc)
  have mn:=hv.mono bc
  have md:=hw.mono x5
  have A0:h4.length<h5.length:=(List.getElem?_eq_some_iff.1 g5).1
  simp only [kC,ah,cI,bK]
  refine ⟨fun aC=>?_,fun cH=>?_⟩
  rotate_left
  ·have wz:lB s=false:=by unfold lB;exact decide_eq_false (by omega)
   have ko:nV s=1:=by unfold nV;rw [if_neg (by rw [wz];decide)]
   have oa:nm s=true:=by unfold nm;rw [wz];rfl
   refine Sl (h0:=h0) Nh MI mn g5 md hj (by omega) (by omega) (by omega) xA (fun a b=>?_) (fun a=>?_)
   ·rw [←ko]
    exact hk _ _ (if_pos ⟨oa,a,b⟩)
   ·refine fD (if_neg ?_)
    rintro ⟨_,b1,b2⟩
    rcases a with a | ⟨a1,a2⟩
    ·rw [a] at b1;cases b1
    ·exact b2 a1 a2
  have qD:lB s=true:=decide_eq_true (by omega)
  have ko:nV s=cg (dm s):=by unfold nV;rw [if_pos qD]
  have oa:nm s=(fM (dm s)&&(decide (2≤cg (dm s))&&decide (Nat.gcd (cg (cU s)) (cg (dm s))=1))):=by unfold nm;rw [qD];rfl
  have Cp:=Cq (a:=s) (n:=s.idxOf 47+1) (by omega) .i64
  have fu:s.drop (s.idxOf 47+1)=dm s:=rfl
  have wi:IntKind.wrap .i64 ((s.idxOf 47:Nat)+1:Int)=((s.idxOf 47+1:Nat):Int):=by rw [wrap64 (by omega) (by omega)];omega
  simp only [cD,wi,ah,Cp,fu]
  refine Sx ?_
  intro r6 h6 x6 z6
  obtain ⟨v6,rfl,hv6⟩:=id z6
  rw [Int.natAbs_natCast] at hv6
  simp only [eJ,fq,fC,ah]
  rw [ef bR]
  simp only [aE]
  have x7:EX h6 ((h6++[aq.arr 35 [(.bool false),(.slice none 0 0)]]).set h6.length (.arr 35 [B (decide ((cg (dm s):Int)<0)),v6])):=EX.set (EX.append _ _) (Nat.le_refl _) _
  have g7:((h6++[aq.arr 35 [(.bool false),(.slice none 0 0)]]).set h6.length (.arr 35 [B (decide ((cg (dm s):Int)<0)),v6]))[h6.length]?=some (.arr 35 [B (decide ((cg (dm s):Int)<0)),v6]):=cM bR
  generalize (h6++[aq.arr 35 [(.bool false),(.slice none 0 0)]]).set h6.length (.arr 35 [B (decide ((cg (dm s):Int)<0)),v6])=h7 at x7 g7⊢
  have dK:=x6.trans x7
  have nn:fA .not (B (fM (dm s)))=some (B (!fM (dm s))):=rfl
  have bad:∀{g:ae},EX h7 g→nm s=false→(OP (cT [(.bool false),(.slice none 0 0),(.bool false),(.slice none 0 0)] []) fun hZ=>OH (aI 4 g (pt j 0) hZ) fun _ h_1=>OP (af true 4 h_1 (pt j 0)) fun r0=>K (.tuple #[r0,(.bool false)]) h_1):=by
   intro g xg hd
   refine YQ ((dK.trans xg).get Nh) (fD (if_neg ?_) _ ((xA.trans (dK.trans xg)).set hj _))
   rintro ⟨b,_⟩
   rw [hd] at b;cases b
  simp only [nn,ah]
  cases wg:fM (dm s) with
  | false=>
   rw [wg] at oa
   simp only [Bool.not_false,eZ,true_and,dA,ah,di]
   exact bad (EX.refl _) (by rw [oa];rfl)
  | true=>
   rw [wg,Bool.true_and] at oa
   have zu:ZV h7 (.agg #[B (decide ((cg (dm s):Int)<0)),v6]) (cg (dm s)):=z6.mono x7
   have zo:ZV h7 (.agg #[B (decide ((cg (cU s):Int)<0)),v]) (cg (cU s)):=⟨v,rfl,by rw [Int.natAbs_natCast];exact mn.mono dK⟩
   have small:=aic lu
   have az1:=aic lo
   have aBl:(10000:Nat)^199≤bu:=avA
   simp only [Bool.not_true,dO,cn g7,ah,true_and]
   refine uY (z:=2) (by decide) ?_
   intro r8 h8 x8 z8
   simp only [(x8.load (cn g7)),true_and]
   refine ID (zu.mono x8) z8 (by rw [Int.natAbs_natCast];omega) (by have:(2:Nat)<10000^199:=ah9;show 2<bu;omega) ?_
   intro h9 x9
   have iX:=x8.trans x9
   simp only [cI,ah,cY]
   by_cases h2:cg (dm s)<2
   ·have en:iU ((cg (dm s):Int)-2)= -1:=by unfold iU;rw [if_neg (by omega),if_pos (by omega)]
    rw [en]
    simp only [show decide ((-1:Int)<0)=true from rfl,eZ,dA,ah,di]
    refine bad iX ?_
    rw [oa,decide_eq_false (by omega)];rfl
   ·have en:0≤iU ((cg (dm s):Int)-2):=by
     unfold iU
     split
     ·decide
     ·rw [if_neg (by omega)];decide
    rw [decide_eq_false (show ¬iU ((cg (dm s):Int)-2)<0 by omega)]
    rw [decide_eq_true (show 2≤cg (dm s) by omega),Bool.true_and] at oa
    have l8:af true 2 h9 (pt h1.length 0)=some (.agg #[B (decide ((cg (cU s):Int)<0)),v]):=cn ((dK.trans iX).get MI)
    have l9:af true 2 h9 (pt h6.length 0)=some (.agg #[B (decide ((cg (dm s):Int)<0)),v6]):=cn (iX.get g7)
    simp only [dO,l8,l9,ah]
    refine So (zo.mono iX) (zu.mono iX) (by rw [Int.natAbs_natCast];exact az1) (by rw [Int.natAbs_natCast];exact small) ?_
    intro u np aG mu
    simp only [Int.natAbs_natCast] at mu
    have ZG:Nat.gcd (cg (cU s)) (cg (dm s))≤cg (dm s):=Nat.gcd_le_right _ (by omega)
    have zg:ZV np (.agg #[B false,u]) (Nat.gcd (cg (cU s)) (cg (dm s)):Nat):=⟨u,by rw [decide_eq_false (by omega)],by rw [Int.natAbs_natCast];exact mu⟩
    refine uY (z:=1) (by decide) ?_
    intro r11 h11 ay z11
    refine ID (zg.mono ay) z11 (by rw [Int.natAbs_natCast];omega) (by have:(2:Nat)<10000^199:=ah9;show 1<bu;omega) ?_
    intro Za az
    have Im:=iX.trans (aG.trans (ay.trans az))
    simp only [ng,ah,cY]
    by_cases uk:Nat.gcd (cg (cU s)) (cg (dm s))=1
    ·have en:iU ((Nat.gcd (cg (cU s)) (cg (dm s)):Nat)-1:Int)=0:=by unfold iU;rw [if_pos (by omega)]
     rw [decide_eq_true uk] at oa
     rw [en]
     have l12:af true 2 Za (pt h6.length 0)=some (.agg #[B (decide ((cg (dm s):Int)<0)),v6]):=cn (Im.get g7)
     simp only [decide_true,Bool.not_true,dp,l12,ah]
     have CC:=dK.trans Im
     have Fe:=CC.get g5
     rw [ef Fe]
     simp only [aE]
     refine Sl (h0:=h0) (i2:=j) (i8:=h1.length) (i10:=h4.length) (n:=cg (cU s)) (d:=cg (dm s)) (vn:=v) (vd:=v6) ?_ ?_ ?_ (cM Fe) ?_ hj (by omega) (by omega) (by omega) ?_ (fun a b=>?_) (fun a=>?_)
     ·rw [List.getElem?_set_ne (by omega)];exact CC.get Nh
     ·rw [List.getElem?_set_ne (by omega)];exact CC.get MI
     ·exact eR.bH (mn.mono CC) Fe _
     ·exact eR.bH (hv6.mono (x7.trans Im)) Fe _
     ·exact (xA.trans CC).set (by omega) _
     ·rw [←ko]
      exact hk _ _ (if_pos ⟨oa,a,b⟩)
     ·refine fD (if_neg ?_)
      rintro ⟨_,b1,b2⟩
      rcases a with a | ⟨a1,a2⟩
      ·rw [a] at b1;cases b1
      ·exact b2 a1 a2
    ·have en:iU ((Nat.gcd (cg (cU s)) (cg (dm s)):Nat)-1:Int)≠0:=by
      unfold iU;rw [if_neg (by omega)];split <;> decide
     rw [decide_eq_false uk] at oa
     rw [decide_eq_false en]
     simp only [Bool.not_false,di]
     exact bad Im oa

end Go.Proofs.YtelmdbpaoifmoaaGreat


namespace Go.Proofs.YtelmdbpaoifmoaaGreat
open Go.Sim
variable (P : Program) (K : VK)
/-! F108: pommel/num.Parse -/
noncomputable section
variable (s0 x2 x6 x8 x9 aG ay az cV dn cd eX dD dS gv gh : Value) (h : ae)
def abW:=bw Tryz.prog 108 [[],[],[],[],[],[],[],[2,6,8,9,10,11,38],[2,6,8,9,10,11,38,42],[2,6,8,9,10,11,12],[2,6,8,9,11,12,46],[2,6,8,9,11,46,48],[2,6,8,9,11,50],[2,6,8,9,11,50,52],[2,6,8,9,11,50,52,55],[2,6,8,9,11,50,56],[],[],[],[],[]]
@[irreducible] def DE:=bE abW
@[irreducible] def U5:=DE.r.r.r.r.r.l.r.l.r.r.l
@[irreducible] def Vb:=DE.r.r.r.r.r.r
@[irreducible] def am4:=U5.r.l
@[irreducible] def DF:=Vb.l
@[irreducible] def U6:=DF.l.l.r.l
@[irreducible] def am6:=DF.l.r
@[irreducible] def am5:=DF.r
@[irreducible] def U7:=U6.r.l
@[irreducible] def U8:=U7.r.l
@[irreducible] def U9:=U8.r.l
@[irreducible] def Va:=U9.r.l
@[irreducible] def am7:=Va.r.l
theorem at6:abW=some (78,DE,[.cell true 4 2,.tmp 3]):=by kernel_rfl
def Af (_P:Program) (K:VK):ar:=aR [.cell true 4 2,.tmp 3] K
def SM:ar:=aD (aj P Vb (Af P K)) (Af P K)
def SL:ar:=aD (aj P am5 (Af P K)) (Af P K)
def xJ:ar:=aD (aj P am6 (SL P K)) (SL P K)
def adQ:Prop:=av (aj P U5 (SM P K)) [2,6,8,9,10,11,38] [x2,x6,x8,x9,aG,ay,cV] h
def Pl:Prop:=av (aj P am4 (SM P K)) [2,6,8,9,10,11,38,42] [x2,x6,x8,x9,aG,ay,cV,dn] h
def B4:Prop:=av (aj P DF (Af P K)) [2,6,8,9,10,11,12] [x2,x6,x8,x9,aG,ay,az] h
def adR:Prop:=av (aj P U6 (xJ P K)) [2,6,8,9,11,12,46] [x2,x6,x8,x9,ay,az,cd] h
def Pm:Prop:=av (aj P U7 (xJ P K)) [2,6,8,9,11,46,48] [x2,x6,x8,x9,ay,cd,eX] h
def Pn:Prop:=av (aj P U8 (xJ P K)) [2,6,8,9,11,50] [x2,x6,x8,x9,ay,dD] h
def Po:Prop:=av (aj P U9 (xJ P K)) [2,6,8,9,11,50,52] [x2,x6,x8,x9,ay,dD,dS] h
def Pp:Prop:=av (aj P Va (xJ P K)) [2,6,8,9,11,50,52,55] [x2,x6,x8,x9,ay,dD,dS,gv] h
def B5:Prop:=av (aj P am7 (xJ P K)) [2,6,8,9,11,50,56] [x2,x6,x8,x9,ay,dD,gh] h
theorem ags:Pl P K x2 x6 x8 x9 aG ay cV dn h=
 (OP (bL cV dn (.bool false)) fun bO=>
 B4 P K x2 x6 x8 x9 aG ay bO h):=ax (by kernel_rfl)
theorem avX:adQ P K x2 x6 x8 x9 aG ay cV h=
 (bZ cV true
 (OH (dh 177 1 [(.int .u32 (0))] h [(0,1,(.int .u32 (1)))]) fun dJ h_1=>
 ak P 126 [ay,dJ] h_1 fun dC h_2=>
 OP (ai .gtr dC (.int .i64 (0))) fun dn=>
 Pl P K x2 x6 x8 x9 aG ay cV dn h_2)
 (Pl P K x2 x6 x8 x9 aG ay cV undef h)):=ax (by kernel_rfl)
theorem agw:B5 P K x2 x6 x8 x9 ay dD gh h=
 (OP (bL dD (.bool true) gh) fun dK=>
 aM dK
 (OP (cT [(.bool false),(.slice none 0 0),(.bool false),(.slice none 0 0)] []) fun gV=>
 OH (aI 4 h x2 gV) fun _ h_1=>
 OP (af true 4 h_1 x2) fun r0=>
 K (.tuple #[r0,(.bool false)]) h_1)
 (ak P 117 [x8,x9] h fun hX h_1=>
 ak P 117 [(.bool false),ay] h_1 fun iL h_2=>
 OP (cT [(.bool false),(.slice none 0 0),(.bool false),(.slice none 0 0)] [(0,2,hX),(2,2,iL)]) fun gW=>
 OH (aX 107 [(.bool false),(.slice none 0 0),(.bool false),(.slice none 0 0)] h_2) fun aA h_3=>
 OH (aI 4 h_3 aA gW) fun _ h_4=>
 OP (af true 4 h_4 aA) fun fv=>
 (True)∧
 OP (fA .not x6) fun fK=>
 bZ fK false
 (OP (aK 0 aA) fun gw=>
 OP (af true 2 h_4 gw) fun jP=>
 (True)∧
 OP (aK 2 aA) fun gX=>
 OP (af true 2 h_4 gX) fun lO=>
 (True)∧
 ak P 120 [jP,lO] h_4 fun qY h_5=>
 (af true 4 h_5 aA=some fv∧True)∧
 ak P 105 [(.int .i64 (1))] h_5 fun jQ h_6=>
 (af true 4 h_6 aA=some fv∧True)∧
 ak P 111 [qY,jQ] h_6 fun iM h_7=>
 (af true 4 h_7 aA=some fv∧True)∧
 OP (ai .eql iM (.int .i64 (0))) fun gy=>
 OP (bL fK (.bool true) gy) fun jm=>
 OH (aI 4 h_7 x2 fv) fun _ h_8=>
 (True)∧
 OP (af true 4 h_8 x2) fun r0=>
 K (.tuple #[r0,jm]) h_8)
 ((af true 4 h_4 aA=some fv∧True)∧
 (af true 4 h_4 aA=some fv∧True)∧
 (af true 4 h_4 aA=some fv∧True)∧
 OP (bL fK (.bool true) undef) fun jm=>
 OH (aI 4 h_4 x2 fv) fun _ h_5=>
 (True)∧
 OP (af true 4 h_5 x2) fun r0=>
 K (.tuple #[r0,jm]) h_5))):=ax (by kernel_rfl)
theorem Qz:Pp P K x2 x6 x8 x9 ay dD dS gv h=
 (bZ dD false
 (OP (bL dS gv (.bool false)) fun gh=>
 B5 P K x2 x6 x8 x9 ay dD gh h)
 (B5 P K x2 x6 x8 x9 ay dD undef h)):=ax (by kernel_rfl)
theorem agv:Po P K x2 x6 x8 x9 ay dD dS h=
 (bZ dS true
 (OP (aY x9) fun cS=>
 OP (ai .eql cS (.int .i64 (0))) fun gv=>
 Pp P K x2 x6 x8 x9 ay dD dS gv h)
 (Pp P K x2 x6 x8 x9 ay dD dS undef h)):=ax (by kernel_rfl)
theorem agu:Pn P K x2 x6 x8 x9 ay dD h=
 (bZ dD false
 (Po P K x2 x6 x8 x9 ay dD x8 h)
 (Po P K x2 x6 x8 x9 ay dD undef h)):=ax (by kernel_rfl)
theorem agt:Pm P K x2 x6 x8 x9 ay cd eX h=
 (OP (bL cd (.bool true) eX) fun fT=>
 Pn P K x2 x6 x8 x9 ay fT h):=ax (by kernel_rfl)
theorem avZ:adR P K x2 x6 x8 x9 ay az cd h=
 (bZ cd false
 (OP (fA .not az) fun eX=>
 Pm P K x2 x6 x8 x9 ay cd eX h)
 (Pm P K x2 x6 x8 x9 ay cd undef h)):=ax (by kernel_rfl)
theorem avY:B4 P K x2 x6 x8 x9 aG ay az h=
 (OP (fA .not aG) fun cj=>
 adR P K x2 x6 x8 x9 ay az cj h):=ax (by kernel_rfl)
def JL:Prop:=
 OH (aX 107 [(.bool false),(.slice none 0 0),(.bool false),(.slice none 0 0)] h) fun x2 h_1=>
 ak P 123 [s0,(.string ⟨#[47]⟩)] h_1 fun a9 h_2=>
 OP (cC 0 a9) fun bQ=>
 OP (cC 1 a9) fun aQ=>
 OP (cC 2 a9) fun aN=>
 ak P 124 [bQ,(.string ⟨#[45]⟩)] h_2 fun bJ h_3=>
 OP (cC 0 bJ) fun cF=>
 OP (cC 1 bJ) fun bM=>
 ak P 125 [cF] h_3 fun bD h_4=>
 OP (cC 0 bD) fun bU=>
 OP (cC 1 bD) fun cA=>
 OH (dh 177 1 [(.int .u32 (0))] h_4 [(0,1,(.int .u32 (1)))]) fun cR h_5=>
 aM aN
 (ak P 125 [aQ] h_5 fun bX h_6=>
 OP (cC 0 bX) fun dd=>
 OP (cC 1 bX) fun cJ=>
 adQ P K x2 aN bM bU cA dd cJ h_6)
 (B4 P K x2 aN bM bU cA cR (.bool true) h_5)
theorem aqP:aj P DE (aR [.cell true 4 2,.tmp 3] K) (bp [s0]) h=JL P K s0 h:=by kernel_rfl
theorem f108 {K:VK} {s0:Value} {h:ae} (H:JL Tryz.prog K s0 h):ak Tryz.prog 108 [s0] h K:=
 bF at6 (Nat.le_of_ble_eq_true rfl) ((aqP Tryz.prog K s0 h).mpr H)
end
/-! F123: strings.Cut -/
noncomputable section
variable (s0 x1 : Value) (h : ae)
def acb:=bw Tryz.prog 123 [[],[]]
@[irreducible] def Vz:=bE acb
theorem auk:acb=some (13,Vz,[.tmp 4,.tmp 5,.tmp 6]):=by kernel_rfl
def JZ:Prop:=
 ak P 131 [s0,x1] h fun x9 h_1=>
 OP (cC 0 x9) fun aG=>
 OP (cC 1 x9) fun ay=>
 OP (cC 2 x9) fun az=>
 K (.tuple #[aG,ay,az]) h_1
theorem aq3:aj P Vz (aR [.tmp 4,.tmp 5,.tmp 6] K) (bp [s0,x1]) h=JZ P K s0 x1 h:=by kernel_rfl
theorem f123 {K:VK} {s0 x1:Value} {h:ae} (H:JZ Tryz.prog K s0 x1 h):ak Tryz.prog 123 [s0,x1] h K:=
 bF auk (Nat.le_of_ble_eq_true rfl) ((aq3 Tryz.prog K s0 x1 h).mpr H)
end
/-! F124: strings.CutPrefix -/
noncomputable section
variable (s0 x1 : Value) (h : ae)
def acd:=bw Tryz.prog 124 [[],[]]
@[irreducible] def VA:=bE acd
theorem aul:acd=some (11,VA,[.tmp 4,.tmp 5]):=by kernel_rfl
def J0:Prop:=
 ak P 132 [s0,x1] h fun x8 h_1=>
 OP (cC 0 x8) fun x9=>
 OP (cC 1 x8) fun aG=>
 K (.tuple #[x9,aG]) h_1
theorem aq4:aj P VA (aR [.tmp 4,.tmp 5] K) (bp [s0,x1]) h=J0 P K s0 x1 h:=by kernel_rfl
theorem f124 {K:VK} {s0 x1:Value} {h:ae} (H:J0 Tryz.prog K s0 x1 h):ak Tryz.prog 124 [s0,x1] h K:=
 bF aul (Nat.le_of_ble_eq_true rfl) ((aq4 Tryz.prog K s0 x1 h).mpr H)
end
/-! F125: pommel/num.read -/
noncomputable section
variable (s0 i4 x5 n6 x7 x8 ay az aN cF bU cO dd cJ cV dC dD eP : Value) (L1 L2 : LQ) (xs : List Value) (h : ae)
def ace:=bw Tryz.prog 125 [[],[],[0,11],[12],[],[],[],[0,4,11,12,19],[0,11,12,19,23],[],[],[],[0],[0,28],[0,28,32],[0,28,32,35],[0,28,36],[0,38],[0,38,41],[],[],[],[],[],[0,5],[],[],[],[],[],[0,5,6,50],[7,8,51],[],[],[],[],[0,5,6,7,8],[],[5],[]]
@[irreducible] def DT:=bE ace
@[irreducible] def DV:=DT.r.l.r.l.l
@[irreducible] def VC:=DT.r.r
@[irreducible] def VB:=DV.r.r.l.l.r.l.r.l
@[irreducible] def anC:=DV.r.r.l.l.r.r
@[irreducible] def anJ:=DV.r.r.r
@[irreducible] def DU:=VC.l
@[irreducible] def anD:=VB.r.l
@[irreducible] def VD:=DU.l.l.r.l
@[irreducible] def anE:=DU.l.r
@[irreducible] def Lq:=DU.r
@[irreducible] def VE:=VD.r.l
@[irreducible] def Lr:=Lq.r.l.l.l
@[irreducible] def VI:=Lq.r.r
@[irreducible] def VF:=VE.r.l
@[irreducible] def anG:=Lr.r.l.r.r.l.r.l.l
@[irreducible] def VJ:=Lr.r.l.r.r.r
@[irreducible] def anI:=VI.l
@[irreducible] def VG:=VF.r.l
@[irreducible] def anH:=VJ.l
@[irreducible] def VH:=VG.r.l
@[irreducible] def anF:=VH.r.l
theorem aum:ace=some (77,DT,[.tmp 2,.tmp 3]):=by kernel_rfl
def tJ (_P:Program) (K:VK):ar:=aR [.tmp 2,.tmp 3] K
def akd:ar:=aD (aj P VC (tJ P K)) (tJ P K)
def akg:ar:=bz 0 (akd P K)
def I4:ar:=aD (fun f' aS=>(([0,11]:List Nat).map f':List Value)=[s0,ay]∧L1 (([12]:List Nat).map f') aS) (akg P K)
def akk:ar:=aD (aj P anJ (I4 P K s0 ay L1)) (I4 P K s0 ay L1)
def S5:ar:=bz 1 (akk P K s0 ay L1)
def S0:ar:=aD (aj P anC (S5 P K s0 ay L1)) (S5 P K s0 ay L1)
def S3:ar:=aD (aj P Lq (tJ P K)) (tJ P K)
def xL:ar:=aD (aj P anE (S3 P K)) (S3 P K)
def ake:ar:=aD (aj P VI (tJ P K)) (tJ P K)
def akf:ar:=bz 2 (ake P K)
def S4:ar:=aD (fun f' aS=>(([]:List Nat).map f':List Value)=[]∧L1 (([0,5]:List Nat).map f') aS) (akf P K)
def I3:ar:=bz 3 (S4 P K L1)
def akh:ar:=aD (aj P VJ (I3 P K L1)) (I3 P K L1)
def aki:ar:=bz 4 (akh P K L1)
def akj:ar:=aD (fun f' aS=>(([0,5,6,50]:List Nat).map f':List Value)=[s0,x5,n6,dD]∧L2 (([7,8,51]:List Nat).map f') aS) (aki P K L1)
def aej:Prop:=av (aj P DV (I4 P K s0 ay L1)) ([0,11]++[12]) ([s0,ay]++xs) h
def aee:Prop:=av (aj P VB (S0 P K s0 ay L1)) [0,4,11,12,19] [s0,i4,ay,az,aN] h
def Pu:Prop:=av (aj P anD (S0 P K s0 ay L1)) [0,11,12,19,23] [s0,ay,az,aN,cF] h
def aef:Prop:=av (aj P DU (tJ P K)) [0] [s0] h
def aeg:Prop:=av (aj P VD (xL P K)) [0,28] [s0,bU] h
def Pv:Prop:=av (aj P VE (xL P K)) [0,28,32] [s0,bU,cO] h
def Pw:Prop:=av (aj P VF (xL P K)) [0,28,32,35] [s0,bU,cO,dd] h
def Px:Prop:=av (aj P VG (xL P K)) [0,28,36] [s0,bU,cJ] h
def Py:Prop:=av (aj P VH (xL P K)) [0,38] [s0,cV] h
def B7:Prop:=av (aj P anF (xL P K)) [0,38,41] [s0,cV,dC] h
def aeh:Prop:=av (aj P Lr (S4 P K L1)) ([]++[0,5]) ([]++xs) h
def aei:Prop:=av (aj P anG (akj P K s0 x5 n6 dD L1 L2)) ([0,5,6,50]++[7,8,51]) ([s0,x5,n6,dD]++xs) h
def aek:Prop:=av (aj P anH (I3 P K L1)) [0,5,6,7,8] [s0,x5,n6,x7,x8] h
def ael:Prop:=av (aj P anI (tJ P K)) [5] [x5] h
theorem agD:Pu P K s0 ay az aN cF L1 h=
 (OP (bL aN (.bool true) cF) fun bM=>
 aM bM
 (K (.tuple #[(.slice none 0 0),(.bool false)]) h)
 (OP (ai .add az (.int .i64 (1))) fun bt=>
 ([s0,ay]:List Value)=[s0,ay]∧L1 [bt] h)):=ax (by kernel_rfl)
theorem agC:aee P K s0 i4 ay az aN L1 h=
 (bZ aN false
 (OP (iT s0 i4) fun bJ=>
 OP (ai .gtr bJ (.int .u8 (57))) fun cF=>
 Pu P K s0 ay az aN cF L1 h)
 (Pu P K s0 ay az aN undef L1 h)):=ax (by kernel_rfl)
theorem awr (s0 ay:Value) (L1:LQ) (az:Value) (h:ae):aej P K s0 ay L1 [az] h=
 (OP (ai .lss az ay) fun aA=>
 aM aA
 (OP (iT s0 az) fun bQ=>
 OP (ai .lss bQ (.int .u8 (48))) fun aQ=>
 aee P K s0 az ay az aQ L1 h)
 (aef P K s0 h)):=ax (by kernel_rfl)
theorem agG:B7 P K s0 cV dC h=
 (OP (bL cV (.bool true) dC) fun dn=>
 aM dn
 (K (.tuple #[(.slice none 0 0),(.bool false)]) h)
 (cG [s0,(.slice none 0 0)] h fun L1 xs hx=>
 aeh P K L1 xs hx)):=ax (by kernel_rfl)
theorem QD:Py P K s0 cV h=
 (bZ cV false
 (OP (fS s0) fun dJ=>
 OP (ai .gtr dJ (.int .i64 (4000))) fun dC=>
 B7 P K s0 cV dC h)
 (B7 P K s0 cV undef h)):=ax (by kernel_rfl)
theorem QC:Px P K s0 bU cJ h=
 (OP (bL bU (.bool true) cJ) fun dT=>
 Py P K s0 dT h):=ax (by kernel_rfl)
theorem QA:Pw P K s0 bU cO dd h=
 (bZ bU false
 (OP (bL cO dd (.bool false)) fun cJ=>
 Px P K s0 bU cJ h)
 (Px P K s0 bU undef h)):=ax (by kernel_rfl)
theorem agF:Pv P K s0 bU cO h=
 (bZ cO true
 (OP (fS s0) fun bX=>
 OP (ai .gtr bX (.int .i64 (1))) fun dd=>
 Pw P K s0 bU cO dd h)
 (Pw P K s0 bU cO undef h)):=ax (by kernel_rfl)
theorem agE:aeg P K s0 bU h=
 (bZ bU false
 (OP (iT s0 (.int .i64 (0))) fun cR=>
 OP (ai .eql cR (.int .u8 (48))) fun ca=>
 Pv P K s0 bU ca h)
 (Pv P K s0 bU undef h)):=ax (by kernel_rfl)
theorem awq (s0 x5 n6 dD:Value) (L1 L2:LQ) (x7 x8 eP:Value) (h:ae):aei P K s0 x5 n6 dD L1 L2 [x7,x8,eP] h=
 (OP (ai .lss eP dD) fun dS=>
 aM dS
 (OP (ai .mul (.int .u32 (10)) x7) fun gv=>
 OP (iT s0 eP) fun gV=>
 OP (ai .sub gV (.int .u8 (48))) fun eQ=>
 OP (df .u32 eQ) fun gJ=>
 OP (ai .add gv gJ) fun hX=>
 OP (ai .mul (.int .u32 (10)) x8) fun iL=>
 OP (ai .add eP (.int .i64 (1))) fun gW=>
 ([s0,x5,n6,dD]:List Value)=[s0,x5,n6,dD]∧L2 [hX,iL,gW] h)
 (aek P K s0 x5 n6 x7 x8 L1 h)):=ax (by kernel_rfl)
theorem aws:aek P K s0 x5 n6 x7 x8 L1 h=
 (OH (dh 177 1 [(.int .u32 (0))] h [(0,1,x8)]) fun fK h_1=>
 ak P 122 [x5,fK] h_1 fun gj h_2=>
 OH (dh 177 1 [(.int .u32 (0))] h_2 [(0,1,x7)]) fun jP h_3=>
 ak P 118 [jP] h_3 fun gX h_4=>
 ak P 128 [gj,gX] h_4 fun lO h_5=>
 OP (jK s0 (some n6) none) fun iM=>
 ([]:List Value)=[]∧L1 [iM,lO] h_5):=ax (by kernel_rfl)
theorem awp (L1:LQ) (s0 x5:Value) (h:ae):aeh P K L1 [s0,x5] h=
 (OP (ai .neq s0 (.string ⟨#[]⟩)) fun ba=>
 aM ba
 (OP (fS s0) fun cd=>
 OP (ai .sub cd (.int .i64 (1))) fun gU=>
 OP (ai .rem gU (.int .i64 (9))) fun eX=>
 OP (ai .add eX (.int .i64 (1))) fun fT=>
 cG [(.int .u32 (0)),(.int .u32 (1)),(.int .i64 (0))] h fun L2 xs hx=>
 aei P K s0 x5 fT fT L1 L2 xs hx)
 (ael P K x5 h)):=ax (by kernel_rfl)
theorem awt:ael P K x5 h=
 (K (.tuple #[x5,(.bool true)]) h):=ax (by kernel_rfl)
theorem awo:aef P K s0 h=
 (OP (ai .eql s0 (.string ⟨#[]⟩)) fun bD=>
 aeg P K s0 bD h):=ax (by kernel_rfl)
def J1:Prop:=
 OP (fS s0) fun ay=>
 cG [(.int .i64 (0))] h fun L1 xs hx=>
 aej P K s0 ay L1 xs hx
theorem aq5:aj P DT (aR [.tmp 2,.tmp 3] K) (bp [s0]) h=J1 P K s0 h:=by kernel_rfl
theorem f125 {K:VK} {s0:Value} {h:ae} (H:J1 Tryz.prog K s0 h):ak Tryz.prog 125 [s0] h K:=
 bF aum (Nat.le_of_ble_eq_true rfl) ((aq5 Tryz.prog K s0 h).mpr H)
end
/-! F131: internal/stringslite.Cut -/
noncomputable section
variable (s0 x1 : Value) (h : ae)
def acm:=bw Tryz.prog 131 [[],[],[],[],[],[]]
@[irreducible] def VR:=bE acm
theorem aus:acm=some (23,VR,[.tmp 4,.tmp 5,.tmp 6]):=by kernel_rfl
def J7:Prop:=
 ak P 139 [s0,x1] h fun aG h_1=>
 OP (ai .geq aG (.int .i64 (0))) fun az=>
 aM az
 (OP (jK s0 none (some aG)) fun bc=>
 OP (fS x1) fun aN=>
 OP (ai .add aG aN) fun aW=>
 OP (jK s0 (some aW) none) fun bm=>
 K (.tuple #[bc,bm,(.bool true)]) h_1)
 (K (.tuple #[s0,(.string ⟨#[]⟩),(.bool false)]) h_1)
theorem arb:aj P VR (aR [.tmp 4,.tmp 5,.tmp 6] K) (bp [s0,x1]) h=J7 P K s0 x1 h:=by kernel_rfl
theorem f131 {K:VK} {s0 x1:Value} {h:ae} (H:J7 Tryz.prog K s0 x1 h):ak Tryz.prog 131 [s0,x1] h K:=
 bF aus (Nat.le_of_ble_eq_true rfl) ((arb Tryz.prog K s0 x1 h).mpr H)
end
/-! F132: internal/stringslite.CutPrefix -/
noncomputable section
variable (s0 x1 : Value) (h : ae)
def acn:=bw Tryz.prog 132 [[],[],[],[],[]]
@[irreducible] def VS:=bE acn
theorem aut:acn=some (15,VS,[.tmp 4,.tmp 5]):=by kernel_rfl
def J8:Prop:=
 ak P 140 [s0,x1] h fun x8 h_1=>
 OP (fA .not x8) fun x9=>
 aM x9
 (K (.tuple #[s0,(.bool false)]) h_1)
 (OP (fS x1) fun aA=>
 OP (jK s0 (some aA) none) fun aP=>
 K (.tuple #[aP,(.bool true)]) h_1)
theorem arc:aj P VS (aR [.tmp 4,.tmp 5] K) (bp [s0,x1]) h=J8 P K s0 x1 h:=by kernel_rfl
theorem f132 {K:VK} {s0 x1:Value} {h:ae} (H:J8 Tryz.prog K s0 x1 h):ak Tryz.prog 132 [s0,x1] h K:=
 bF aut (Nat.le_of_ble_eq_true rfl) ((arc Tryz.prog K s0 x1 h).mpr H)
end
/-! F139: internal/stringslite.Index -/
noncomputable section
variable (s0 x1 x4 n5 As t9 uL Av aN bJ cJ tD kU : Value) (L1 : LQ) (xs : List Value) (h : ae)
def acv:=bw Tryz.prog 139 [[],[],[0,1,4,5,12,19,36,107,132],[0,1,4,5,12,19,22,36,107,132],[],[],[],[],[],[],[],[],[],[],[],[],[],[],[0,1,5,6,7,9],[8,10,12,107,132],[],[],[],[],[],[],[],[0,1,5,6,7,8,9,10,12,107,132],[0,1,5,6,7,8,9,10,12,84,107,132],[0,1,5,6,7,8,9,10,12,84,92,107,132],[],[],[],[],[],[],[],[],[],[],[],[],[],[],[],[],[],[],[]]
@[irreducible] def Au:=bE acv
@[irreducible] def V5:=Au.r.r.l.l.l.r.l
@[irreducible] def an6:=Au.r.r.l.l.r
@[irreducible] def Ly:=Au.r.r.r
@[irreducible] def an7:=V5.r.l
@[irreducible] def an5:=Ly.r.r.r.r.r.l.l.l
@[irreducible] def an4:=Ly.r.r.r.r.r.r
theorem auB:acv=some (143,Au,[.tmp 4]):=by kernel_rfl
def C0 (_P:Program) (K:VK):ar:=aR [.tmp 4] K
def akS:ar:=aD (aj P Ly (C0 P K)) (C0 P K)
def S7:ar:=bz 0 (akS P K)
def S8:ar:=aD (aj P an6 (S7 P K)) (S7 P K)
def akP:ar:=aD (aj P an4 (C0 P K)) (C0 P K)
def akQ:ar:=bz 1 (akP P K)
def akR (s0 x1 n5 As Av t9:Value) (L1:LQ):ar:=aD (fun f' aS=>(([0,1,5,6,7,9]:List Nat).map f':List Value)=[s0,x1,n5,As,Av,t9]∧L1 (([8,10,12,107,132]:List Nat).map f') aS) (akQ P K)
def aeD:Prop:=av (aj P V5 (S8 P K)) [0,1,4,5,12,19,36,107,132] [s0,x1,x4,n5,uL,aN,cJ,tD,kU] h
def PB:Prop:=av (aj P an7 (S8 P K)) [0,1,4,5,12,19,22,36,107,132] [s0,x1,x4,n5,uL,aN,bJ,cJ,tD,kU] h
def avu (s0 x1 n5 As Av t9:Value) (L1:LQ) (xs:List Value) (h:ae):Prop:=av (aj P an5 (akR P K s0 x1 n5 As Av t9 L1)) ([0,1,5,6,7,9]++[8,10,12,107,132]) ([s0,x1,n5,As,Av,t9]++xs) h
theorem awU:PB P K s0 x1 x4 n5 uL aN bJ cJ tD kU h=
 (OP (bL aN (.bool true) bJ) fun cF=>
 aM cF
 (K (.int .i64 (0)) h)
 (OP (ai .eql n5 (.int .i64 (1))) fun bC=>
 aM bC
 (OP (iT x1 (.int .i64 (0))) fun cA=>
 ak P 142 [s0,cA] h fun cR h_1=>
 K cR h_1)
 (OP (fS s0) fun bX=>
 OP (ai .geq n5 bX) fun dd=>
 aM dd
 (K (.int .i64 (-1)) h)
 (OH none fun _ h_1=>
 aM cJ
 (OH none fun _ h_2=>
 K x4 h_2)
 (OP (iT x1 (.int .i64 (0))) fun fT=>
 OP (iT x1 (.int .i64 (1))) fun eP=>
 OP (fS s0) fun jB=>
 OP (ai .sub jB n5) fun gv=>
 OP (ai .add gv (.int .i64 (1))) fun gh=>
 cG [(.int .i64 (0)),(.int .i64 (0)),uL,tD,kU] h_1 fun L1 xs hx=>
 avu P K s0 x1 n5 fT eP gh L1 xs hx))))):=ax (by kernel_rfl)
theorem awT:aeD P K s0 x1 x4 n5 uL aN cJ tD kU h=
 (bZ aN false
 (OP (ai .eql x1 s0) fun bJ=>
 PB P K s0 x1 x4 n5 uL aN bJ cJ tD kU h)
 (PB P K s0 x1 x4 n5 uL aN undef cJ tD kU h)):=ax (by kernel_rfl)
def Kf:Prop:=
 OP (fS x1) fun bc=>
 OP (ai .eql bc (.int .i64 (0))) fun aQ=>
 aeD P K s0 x1 (.int .i64 (0)) bc undef aQ undef undef undef h
theorem arl:aj P Au (aR [.tmp 4] K) (bp [s0,x1]) h=Kf P K s0 x1 h:=by kernel_rfl
theorem f139 {K:VK} {s0 x1:Value} {h:ae} (H:Kf Tryz.prog K s0 x1 h):ak Tryz.prog 139 [s0,x1] h K:=
 bF auB (Nat.le_of_ble_eq_true rfl) ((arl Tryz.prog K s0 x1 h).mpr H)
end
/-! F140: internal/stringslite.HasPrefix -/
noncomputable section
variable (s0 x1 aG a9 : Value) (h : ae)
def acw:=bw Tryz.prog 140 [[],[0,1,10],[10,16],[]]
@[irreducible] def D7:=bE acw
@[irreducible] def Wi:=D7.r.l.r.l
@[irreducible] def aoh:=D7.r.r
@[irreducible] def aoi:=Wi.r.l
theorem auC:acw=some (18,D7,[.tmp 4]):=by kernel_rfl
def Tc (_P:Program) (K:VK):ar:=aR [.tmp 4] K
def Td:ar:=aD (aj P aoh (Tc P K)) (Tc P K)
def aeL:Prop:=av (aj P Wi (Td P K)) [0,1,10] [s0,x1,aG] h
def PI:Prop:=av (aj P aoi (Td P K)) [10,16] [aG,a9] h
theorem agL:PI P K aG a9 h=
 (OP (bL aG a9 (.bool false)) fun bQ=>
 K bQ h):=ax (by kernel_rfl)
theorem aw7:aeL P K s0 x1 aG h=
 (bZ aG true
 (OP (fS x1) fun aA=>
 OP (jK s0 none (some aA)) fun aP=>
 OP (ai .eql aP x1) fun a9=>
 PI P K aG a9 h)
 (PI P K aG undef h)):=ax (by kernel_rfl)
def Kg:Prop:=
 OP (fS s0) fun x6=>
 OP (fS x1) fun x8=>
 OP (ai .geq x6 x8) fun x9=>
 aeL P K s0 x1 x9 h
theorem arn:aj P D7 (aR [.tmp 4] K) (bp [s0,x1]) h=Kg P K s0 x1 h:=by kernel_rfl
theorem f140 {K:VK} {s0 x1:Value} {h:ae} (H:Kg Tryz.prog K s0 x1 h):ak Tryz.prog 140 [s0,x1] h K:=
 bF auC (Nat.le_of_ble_eq_true rfl) ((arn Tryz.prog K s0 x1 h).mpr H)
end
/-! F142: internal/stringslite.IndexByte -/
noncomputable section
variable (s0 c1 : Value) (h : ae)
def acy:=bw Tryz.prog 142 [[],[]]
@[irreducible] def Wk:=bE acy
theorem auE:acy=some (8,Wk,[.tmp 4]):=by kernel_rfl
def Ki (_:Program) (K:VK) (s0 c1:Value) (h:ae):Prop:=
 OP (BI s0 c1) fun x7=>
 K x7 h
theorem arp:aj P Wk (aR [.tmp 4] K) (bp [s0,c1]) h=Ki P K s0 c1 h:=by kernel_rfl
theorem f142 {K:VK} {s0 c1:Value} {h:ae} (H:Ki Tryz.prog K s0 c1 h):ak Tryz.prog 142 [s0,c1] h K:=
 bF auE (Nat.le_of_ble_eq_true rfl) ((arp Tryz.prog K s0 c1 h).mpr H)
end
end Go.Proofs.YtelmdbpaoifmoaaGreat

namespace Go.Proofs.YtelmdbpaoifmoaaGreat
open Go.Sim

theorem aaO (c:UInt8):∀s:List UInt8,Lib.indexByte s c=if s.idxOf c<s.length then (s.idxOf c:Int) else -1
 | []=>rfl
 | x::s=>by
  have ih:=aaO c s
  rw [Lib.indexByte]
  by_cases h:(x==c)=true
  ·have e1:(x::s).idxOf c=0:=by rw [List.idxOf_cons,h];rfl
   rw [if_pos h,e1,if_pos (by simp)];rfl
  ·have h':(x==c)=false:=by simpa using h
   have e1:(x::s).idxOf c=s.idxOf c+1:=by rw [List.idxOf_cons,h'];rfl
   rw [if_neg h,ih,e1,List.length_cons]
   by_cases h2:s.idxOf c<s.length
   ·have h3:¬(((s.idxOf c:Nat):Int)== -1)=true:=by
     rw [beq_iff_eq];omega
    rw [if_pos h2,if_pos (show s.idxOf c+1<s.length+1 by omega),if_neg h3]
    omega
   ·rw [if_neg h2,if_neg (show ¬s.idxOf c+1<s.length+1 by omega)]
    rfl

theorem tB (a b c:Value):(#[a,b,c]:Array Value)[0]?=some a∧(#[a,b,c]:Array Value)[1]?=some b∧(#[a,b,c]:Array Value)[2]?=some c:=⟨rfl,rfl,rfl⟩

section
variable {h : ae} {K : Value → ae → Prop} {s : List UInt8}

theorem aiY {c:UInt8} (hk:K (I (if s.idxOf c<s.length then (s.idxOf c:Int) else -1)) h):ak Tryz.prog 142 [S s,cv c] h K:=by
 refine f142 ?_
 have e:BI (S s) (cv c)=some (I (if s.idxOf c<s.length then (s.idxOf c:Int) else -1)):=by
  have e1:BI (S s) (cv c)=some (Value.int .i64 (Lib.indexByte (Go.Sim.bytes (ByteArray.mk s.toArray)) ((c.toNat:Int)).toNat.toUInt8)):=rfl
  rw [e1,amL,Int.toNat_natCast,aaO]
  have:c.toNat.toUInt8=c:=by simp
  rw [this]
 simp only [Ki,e,ah]
 exact hk

theorem aiV {c:UInt8} (hk:K (I (if s.idxOf c<s.length then (s.idxOf c:Int) else -1)) h):ak Tryz.prog 139 [S s,S [c]] h K:=by
 refine f139 ?_
 have l1:fS (S [c])=some (I 1):=rfl
 have ix:iT (S [c]) (.int .i64 0)=some (cv c):=rfl
 have e1:ai .eql (I 1) (.int .i64 0)=some (B false):=rfl
 have e2:ai .eql (I 1) (.int .i64 1)=some (B true):=rfl
 simp only [Kf,l1,ah,e1]
 rw [awT]
 simp only [dO,Ld,ah]
 rw [awU]
 simp only [cY,ah,bK]
 refine ⟨fun he=>?_,fun _=>?_⟩
 ·have e3:s.idxOf c=0:=by rw [←he];simp
  have e4:0<s.length:=by rw [←he];simp
  rw [e3,if_pos e4] at hk
  exact hk
 ·simp only [e2,ah,di,ix]
  exact aiY hk

theorem aiL (hl:s.length≤1000) (hk:K (.tuple #[S (cU s),S (if lB s=true then dm s else []),B (lB s)]) h):ak Tryz.prog 123 [S s,S [47]] h K:=by
 refine f123 ?_
 unfold JZ
 refine f131 ?_
 unfold J7
 refine aiV ?_
 have l1:fS (S [47])=some (I 1):=rfl
 by_cases aC:s.idxOf 47<s.length
 ·have hs:lB s=true:=decide_eq_true aC
  rw [hs,if_pos rfl] at hk
  rw [if_pos aC]
  have wi:IntKind.wrap .i64 (((s.idxOf 47:Nat):Int)+1)=((s.idxOf 47+1:Nat):Int):=by rw [wrap64 (by omega) (by omega)];omega
  have tu:=HN (a:=s) (n:=s.idxOf 47) (by omega) .i64
  have Cp:=Cq (a:=s) (n:=s.idxOf 47+1) (by omega) .i64
  simp only [kl,ah,decide_eq_true (show (0:Int)≤((s.idxOf 47:Nat):Int) by omega),di,tu,l1,cD,wi,Cp,eJ,(tB _ _ _).1,(tB _ _ _).2.1,(tB _ _ _).2.2]
  exact hk
 ·have hs:lB s=false:=decide_eq_false aC
  rw [hs,if_neg (by decide)] at hk
  rw [if_neg aC]
  have ho:cU s=s:=by unfold cU;exact List.take_of_length_le (by omega)
  rw [ho] at hk
  simp only [kl,ah,show decide ((0:Int)≤ -1)=false from rfl,dp,eJ,(tB _ _ _).1,(tB _ _ _).2.1,(tB _ _ _).2.2]
  exact hk

theorem aiM (hl:s.length≤1000) (hk:K (.tuple #[S (if s.head?=some 45 then s.tail else s),B (decide (s.head?=some 45))]) h):ak Tryz.prog 124 [S s,S [45]] h K:=by
 refine f124 ?_
 unfold J0
 refine f132 ?_
 unfold J8
 refine f140 ?_
 have l1:fS (S [45])=some (I 1):=rfl
 have fin:∀b:Bool,b=decide (s.head?=some 45)→(OP (fA .not (B b)) fun x9=>
   aM x9
    (OP (cC 0 (.tuple #[S s,.bool false])) fun x9=>OP (cC 1 (.tuple #[S s,.bool false])) fun aG=>K (.tuple #[x9,aG]) h)
    (OP (jK (S s) (some (I 1)) none) fun aP=>OP (cC 0 (.tuple #[aP,.bool true])) fun x9=>OP (cC 1 (.tuple #[aP,.bool true])) fun aG=>K (.tuple #[x9,aG]) h)):=by
  intro b hb
  by_cases hh:s.head?=some 45
  ·rw [decide_eq_true hh] at hb hk
   rw [if_pos hh] at hk
   subst hb
   have h1:1≤s.length:=by
    cases s with
    | nil=>simp at hh
    | cons x t=>simp
   have Cp:jK (S s) (some (I 1)) none=some (S s.tail):=by
    rw [←List.drop_one]
    exact Cq (a:=s) (n:=1) h1 .i64
   simp only [nO,ah,Bool.not_true,dp,Cp,eJ,fq,fC]
   exact hk
  ·rw [decide_eq_false hh] at hb hk
   rw [if_neg hh] at hk
   subst hb
   simp only [nO,ah,Bool.not_false,di,eJ,fq,fC]
   exact hk
 unfold Kg
 simp only [kC,l1,ah,kl]
 rw [aw7]
 cases s with
 | nil=>
  simp only [List.length_nil,show decide ((1:Int)≤((0:Nat):Int))=false from rfl,iz]
  rw [agL]
  simp only [cY,ah]
  exact fin false (by simp)
 | cons x t=>
  have tu:jK (S (x::t)) none (some (I 1))=some (S [x]):=by
   have:=HN (a:=x::t) (n:=1) (by simp) .i64
   simpa using this
  rw [decide_eq_true (show (1:Int)≤((x::t).length:Int) by rw [List.length_cons];omega)]
  simp only [fy,l1,ah,tu,Ld]
  rw [agL]
  simp only [dA,ah]
  exact fin (decide ([x]=[45])) (by rw [decide_eq_decide];constructor <;> intro h <;> simpa using h)

end
end Go.Proofs.YtelmdbpaoifmoaaGreat


namespace Go.Proofs.YtelmdbpaoifmoaaGreat
open Go.Sim

theorem aAx {s:List UInt8} {i:Nat} (h:i<s.length):dF (s.take (i+1))=10*dF (s.take i)+(s[i].toNat-48):=by
 rw [List.take_succ_eq_append_getElem h,zP,H9]
 simp
 omega

theorem ayY (k:IntKind) {a b:Int} (ha:0≤a) (hb:0<b):ai .rem (.int k a) (.int k b)=some (.int k (a%b)):=by
 simp only [ai,gn,if_true]
 rw [if_neg (by omega),Int.tmod_eq_emod_of_nonneg ha]

theorem ON {g:ae} {d:Nat} (hd:d<4294967296) (h0:0<d):cX (g++[.arr 177 [.int .u32 (d:Int)]]) (sl 177 g.length 0 1) d:=
 ⟨[d],.inr ⟨g.length,rfl,.inr ⟨[],by simp [aO]⟩⟩,⟨fun x hx=>by rw [List.mem_singleton.1 hx];exact hd,by simp;omega⟩,by simp [val]⟩

section
variable {h : ae} {K : Value → ae → Prop} {s : List UInt8}

theorem R7 (hl:s.length≤700) (hk:∀v h',EX h h'→cX h' v (cg s)→K (.tuple #[v,B (fM s)]) h'):ak Tryz.prog 125 [S s] h K:=by
 have bad:fM s=false→K (.tuple #[.slice none 0 0,.bool false]) h:=by
  intro hb
  have:=hk (.slice none 0 0) h (EX.refl h) ⟨[],DS.nil _ _ _,Canon.nil _,by unfold cg;rw [if_neg (by rw [hb];decide)];rfl⟩
  rw [hb] at this
  exact this
 refine f125 ?_
 unfold J1
 simp only [kC,ah]
 refine dc (σ:=Nat) (fun i=>[I i]) (fun _=>h) (fun i=>i≤s.length∧jq (s.take i)) (fun i=>s.length-i) 0 rfl rfl ⟨Nat.zero_le _,by simp [jq]⟩ ?_
 intro i ⟨hi,lC⟩ L hL
 rw [awr]
 simp only [cI,ah,bK]
 refine ⟨fun aC=>?_,fun cH=>?_⟩
 ·have nv:i<s.length:=by omega
  have ix:=tb (a:=s) (i:=i) nv .i64
  have Gj:ai .lss (cv s[i]) (.int .u8 48)=some (B (decide ((s[i].toNat:Int)<48))):=rfl
  have Fk:ai .gtr (cv s[i]) (.int .u8 57)=some (B (decide ((s[i].toNat:Int)>57))):=rfl
  have no:¬(48≤s[i].toNat∧s[i].toNat≤57)→fM s=false:=by
   intro hn
   cases e:fM s with
   | false=>rfl
   | true=>exact absurd ((oZ.1 e).2.2 _ (List.getElem_mem nv)) hn
  simp only [ix,ah,Gj]
  by_cases kL:s[i].toNat<48
  ·rw [decide_eq_true (show (s[i].toNat:Int)<48 by omega),agC]
   simp only [eZ]
   rw [agD]
   simp only [dA,ah,di]
   exact bad (no (by omega))
  ·rw [decide_eq_false (show ¬(s[i].toNat:Int)<48 by omega),agC]
   simp only [dO,ix,ah,Fk]
   rw [agD]
   simp only [cY,ah,bK]
   refine ⟨fun h57=>bad (no (by omega)),fun h57=>?_⟩
   simp only [cD,inc i (by omega),ah,true_and]
   refine hL (i+1) ⟨by omega,?_⟩ (by omega)
   rw [List.take_succ_eq_append_getElem nv]
   intro c hc
   rcases List.mem_append.1 hc with hc | hc
   ·exact lC c hc
   ·rw [List.mem_singleton.1 hc];omega
 have fN:i=s.length:=by omega
 subst fN
 rw [List.take_length] at lC
 clear hL
 have eE:(.string ⟨#[]⟩:Value)=S []:=rfl
 rw [awo,eE]
 simp only [Ld,ah]
 -- pQ is left of ft aBd
 have go:fM s=true→B7 Tryz.prog K (S s) (B false) (B false) h:=by
  intro aB
  have hv:cg s=dF s:=by unfold cg;rw [if_pos aB]
  rw [aB,hv] at hk
  rw [agG]
  simp only [cY,ah,dp]
  refine dc (σ:=List UInt8×List UInt8×Value×ae) (fun q=>[S q.2.1,q.2.2.1]) (fun q=>q.2.2.2) (fun q=>s=q.1++q.2.1∧cX q.2.2.2 q.2.2.1 (dF q.1)∧EX h q.2.2.2) (fun q=>q.2.1.length)
   ([],s,.slice none 0 0,h) rfl rfl ⟨rfl,⟨[],DS.nil _ _ _,Canon.nil _,rfl⟩,EX.refl h⟩ ?_
  rintro ⟨p,t,v,g⟩ ⟨dM,hm,hx⟩ L hL
  simp only at dM hm hx hL⊢
  rw [awp,eE]
  simp only [amG,ah]
  by_cases ht:t=[]
  ·subst ht
   rw [decide_eq_true rfl]
   simp only [Bool.not_true,dp]
   rw [awt]
   rw [List.append_nil] at dM
   rw [dM] at hk
   exact hk v g hx hm
  rw [decide_eq_false ht]
  have Bw:0<t.length:=List.length_pos_iff.2 ht
  have qD:p.length+t.length=s.length:=by rw [dM,List.length_append]
  have ko:jq t:=fun c hc=>lC c (by rw [dM];simp [hc])
  have ZA:jq p:=fun c hc=>lC c (by rw [dM];simp [hc])
  have w1:IntKind.wrap .i64 ((t.length:Int)-1)=((t.length-1:Nat):Int):=by rw [wrap64 (by omega) (by omega)];omega
  have w2:ai .rem (I (t.length-1:Nat)) (.int .i64 9)=some (I ((t.length-1)%9:Nat)):=by
   have:ai .rem (I (t.length-1:Nat)) (.int .i64 9)=some (I (((t.length-1:Nat):Int)%9)):=ayY .i64 (by omega) (by decide)
   rw [this];congr 2
  have w3:IntKind.wrap .i64 (((t.length-1)%9:Nat)+1:Int)=(((t.length-1)%9+1:Nat):Int):=by rw [wrap64 (by omega) (by omega)];omega
  simp only [Bool.not_false,di,kC,ah,fz,w1,w2,cD,w3]
  have hn9:(t.length-1)%9+1≤9:=by omega
  have mh:(t.length-1)%9+1≤t.length:=by omega
  have hn1:1≤(t.length-1)%9+1:=by omega
  generalize (t.length-1)%9+1=n at*
  refine dc (σ:=Nat) (fun i=>[.int .u32 (dF (t.take i):Int),.int .u32 ((10^i:Nat):Int),I i]) (fun _=>g) (fun i=>i≤n) (fun i=>n-i) 0 rfl rfl (Nat.zero_le _) ?_
  intro i iQ L2 gP
  have aC:=uP (s:=t.take i) fun c hc=>ko c (List.mem_of_mem_take hc)
  rw [List.length_take,Nat.min_eq_left (by omega)] at aC
  have p9:(10:Nat)^i≤10^9:=Nat.pow_le_pow_right (by decide) (by omega)
  rw [awq]
  simp only [cI,ah,bK]
  refine ⟨fun h1=>?_,fun h1=>?_⟩
  ·have qx:i<t.length:=by omega
   have hc:=ko _ (List.getElem_mem qx)
   have p8:(10:Nat)^i≤10^8:=Nat.pow_le_pow_right (by decide) (by omega)
   have ix:=tb (a:=t) (i:=i) qx .i64
   have m1:ai .mul (.int .u32 10) (.int .u32 (dF (t.take i):Int))=some (.int .u32 ((10*dF (t.take i):Nat):Int)):=by
    rw [tR,show (10:Int)*(dF (t.take i):Int)=((10*dF (t.take i):Nat):Int) by omega,mA (by omega) (by omega)]
   have m2:ai .mul (.int .u32 10) (.int .u32 ((10^i:Nat):Int))=some (.int .u32 ((10^(i+1):Nat):Int)):=by
    rw [tR,show (10:Int)*((10^i:Nat):Int)=((10^(i+1):Nat):Int) by rw [Nat.pow_succ];omega,mA (by omega) (by rw [Nat.pow_succ];omega)]
   have Ra:ai .sub (cv t[i]) (.int .u8 48)=some (.int .u8 ((t[i].toNat-48:Nat):Int)):=by
    show some (Value.int .u8 (IntKind.wrap .u8 ((t[i].toNat:Int)-48)))=_
    have e:IntKind.wrap .u8 ((t[i].toNat:Int)-48)=((t[i].toNat:Int)-48)%256:=by simp [IntKind.wrap,IntKind.bits,IntKind.signed]
    rw [e];congr 2;omega
   have c1:df .u32 (.int .u8 ((t[i].toNat-48:Nat):Int))=some (.int .u32 ((t[i].toNat-48:Nat):Int)):=by rw [jU,mA (by omega) (by omega)]
   have a1:ai .add (.int .u32 ((10*dF (t.take i):Nat):Int)) (.int .u32 ((t[i].toNat-48:Nat):Int))=some (.int .u32 (dF (t.take (i+1)):Int)):=by
    rw [aAx qx,cD,←Int.natCast_add,mA (by omega) (by omega)]
   simp only [m1,ix,Ra,c1,a1,m2,cD,inc i (by omega),ah,true_and]
   exact gP (i+1) (by omega) (by omega)
  ·have fN:i=n:=by omega
   subst fN
   have Z2:(10:Nat)^i<4294967296:=by omega
   have fQ:0<(10:Nat)^i:=Nat.pow_pos (by decide)
   have lp:=uP ZA
   have aBb:(10:Nat)^p.length≤bu:=nJ (by omega)
   have FW:dF p*10^i+dF (t.take i)=dF (p++t.take i):=by
    rw [zP,List.length_take,Nat.min_eq_left mh]
   have asr:jq (p++t.take i):=fun c hc=>by
    rcases List.mem_append.1 hc with hc | hc
    ·exact ZA c hc
    ·exact ko c (List.mem_of_mem_take hc)
   have lpt:=uP asr
   rw [List.length_append,List.length_take,Nat.min_eq_left mh] at lpt
   have aBc:(10:Nat)^(p.length+i)≤bu:=nJ (by omega)
   have mk:∀(g:ae) (r:Nat),dh 177 1 [(.int .u32 (0))] g [(0,1,.int .u32 (r:Int))]=some (sl 177 g.length 0 1,g++[.arr 177 [.int .u32 (r:Int)]]):=fun _ _=>rfl
   rw [aws]
   simp only [mk,aE]
   have x1:EX g (g++[.arr 177 [.int .u32 ((10^i:Nat):Int)]]):=EX.append _ _
   refine R6 (hm.mono x1) (ON Z2 fQ) (by omega) (xy Z2) ?_
   intro r1 g2 x2 m2
   have x3:EX g2 (g2++[.arr 177 [.int .u32 (dF (t.take i):Int)]]):=EX.append _ _
   have dr:DS 177 .u32 (g2++[.arr 177 [.int .u32 (dF (t.take i):Int)]]) (sl 177 g2.length 0 1) [dF (t.take i)]:=.inr ⟨g2.length,rfl,.inr ⟨[],by simp [aO]⟩⟩
   refine pV dr (fun x hx=>by rw [List.mem_singleton.1 hx];omega) (by simp) ?_
   intro r2 m3
   have e:val 4294967296 [dF (t.take i)]=dF (t.take i):=by simp [val]
   rw [e] at m3
   refine R8 (m2.mono x3) m3 (by omega) (xy (by omega)) ?_
   intro r3 g4 x4 m4
   rw [FW] at m4
   have tu:=Cq (a:=t) (n:=i) mh .i64
   simp only [tu,ah,true_and]
   refine hL (p++t.take i,t.drop i,r3,g4) ⟨by rw [List.append_assoc,List.take_append_drop];exact dM,m4,((hx.trans x1).trans x2).trans (x3.trans x4)⟩ (by rw [List.length_drop];omega)
 have fail:fM s=false→∀t u:Value,bL t (.bool true) u=some (B true)→B7 Tryz.prog K (S s) t u h:=by
  intro hb t u ht
  rw [agG,ht]
  simp only [ah,di]
  exact bad hb
 by_cases h0:s=[]
 ·have hb:fM s=false:=by subst h0;rfl
  rw [decide_eq_true h0,agE]
  simp only [eZ]
  rw [agF]
  simp only [u7]
  rw [QA]
  simp only [eZ]
  rw [QC]
  simp only [dA,ah]
  rw [QD]
  simp only [eZ]
  exact fail hb _ _ rfl
 have fQ:0<s.length:=List.length_pos_iff.2 h0
 rw [decide_eq_false h0,agE]
 have ix:=tb (a:=s) (i:=0) fQ .i64
 simp only [Int.natCast_zero] at ix
 have hh:s.head?=some s[0]:=by rw [List.head?_eq_getElem?,List.getElem?_eq_getElem fQ]
 have e5:ai .eql (cv s[0]) (.int .u8 48)=some (B (decide ((s[0].toNat:Int)=48))):=rfl
 simp only [dO,ix,ah,e5]
 rw [agF]
 have tail:∀(b:Bool),b=false→fM s=true→Py Tryz.prog K (S s) (B b) h:=by
  rintro _ rfl aB
  rw [QD]
  simp only [dO,kC,ah,fe,decide_eq_false (show ¬(4000:Int)<(s.length:Int) by omega)]
  exact go aB
 by_cases kL:s[0].toNat=48
 ·have NQ:s.head?=some 48:=by rw [hh];congr 1;exact UInt8.toNat_inj.1 kL
  rw [decide_eq_true (show (s[0].toNat:Int)=48 by omega)]
  simp only [fy,kC,ah,fe]
  rw [QA]
  simp only [dO,dA,ah]
  rw [QC]
  simp only [cY,ah]
  by_cases h1:1<s.length
  ·have hb:fM s=false:=by
    cases e:fM s with
    | false=>rfl
    | true=>have:=(oZ.1 e).2.1 NQ;omega
   rw [decide_eq_true (show (1:Int)<(s.length:Int) by omega),QD]
   simp only [eZ]
   exact fail hb _ _ rfl
  ·rw [decide_eq_false (show ¬(1:Int)<(s.length:Int) by omega)]
   exact tail false rfl (oZ.2 ⟨⟨fQ,by omega⟩,fun _=>by omega,lC⟩)
 ·rw [decide_eq_false (show ¬(s[0].toNat:Int)=48 by omega)]
  simp only [iz]
  rw [QA]
  simp only [dO,cY,ah]
  rw [QC]
  simp only [cY,ah]
  refine tail false rfl (oZ.2 ⟨⟨fQ,by omega⟩,fun hc=>?_,lC⟩)
  rw [hh] at hc
  injection hc with hc
  rw [hc] at kL
  exact absurd rfl kL

end
end Go.Proofs.YtelmdbpaoifmoaaGreat


namespace Go.Proofs.YtelmdbpaoifmoaaGreat
open Go.Sim

def dW (s:List UInt8):List UInt8:=if s.head?=some 45 then s.tail else s

theorem Ha (s:List UInt8):jz s=pL (decide (s.head?=some 45)) (dW s):=by
 unfold jz dW
 by_cases h:s.head?=some 45
 ·rw [if_pos h,if_pos h,decide_eq_true h]
 ·rw [if_neg h,if_neg h,decide_eq_false h]

theorem avs (s:List UInt8):((cU s).head?=some 45↔s.head?=some 45)∧(if (cU s).head?=some 45 then (cU s).tail else cU s)=cU (dW s)∧lB s=lB (dW s)∧dm s=dm (dW s):=by
 cases s with
 | nil=>simp [cU,dW]
 | cons x t=>
  by_cases hx:x=45
  ·subst hx
   have e:((45:UInt8)::t).idxOf 47=t.idxOf 47+1:=by
    rw [List.idxOf_cons]
    have:((45:UInt8)==47)=false:=by decide
    rw [this];rfl
   have eu:dW (45::t)=t:=by unfold dW;simp
   have eo:cU (45::t)=45::cU t:=by unfold cU;rw [e,List.take_succ_cons]
   rw [eu,eo]
   refine ⟨by simp,by simp,?_,?_⟩
   ·unfold lB;rw [e,List.length_cons,decide_eq_decide];omega
   ·unfold dm;rw [e];rfl
  ·have eu:dW (x::t)=x::t:=by unfold dW;rw [if_neg (by simpa using hx)]
   have cW:¬(cU (x::t)).head?=some 45:=by
    unfold cU
    cases h:(x::t).idxOf 47 with
    | zero=>simp
    | succ k=>rw [List.take_succ_cons];simpa using hx
   rw [eu,if_neg cW]
   exact ⟨⟨fun h=>absurd h cW,fun h=>absurd (by simpa using h) hx⟩,rfl,rfl,rfl⟩

theorem arQ {g:ae} {j:Nat} {K:Value→ae→Prop} (hg:g[j]?=some (.arr 107 z4)) (hk:K (.tuple #[pS,B false]) (g.set j (.arr 107 z4))):
  OP (cT [(.bool false),(.slice none 0 0),(.bool false),(.slice none 0 0)] []) fun hZ=>OH (aI 4 g (pt j 0) hZ) fun _ h_1=>OP (af true 4 h_1 (pt j 0)) fun r0=>K (.tuple #[r0,(.bool false)]) h_1:=by
 have e:cT [(.bool false),(.slice none 0 0),(.bool false),(.slice none 0 0)] []=some pS:=rfl
 rw [e,ah]
 have s:=nN (x:=B false) (y:=.slice none 0 0) (z:=B false) (w:=.slice none 0 0) hg
 have s':aI 4 g (pt j 0) pS=some (undef,g.set j (.arr 107 z4)):=s
 rw [s',aE]
 have l:=iu (cM (o:=.arr 107 z4) hg)
 have l':af true 4 (g.set j (.arr 107 z4)) (pt j 0)=some pS:=l
 rw [l',ah]
 exact hk

section
variable {h : ae} {K : Value → ae → Prop} {s : List UInt8}

theorem HL {m:Bool} {n:Nat}:(m&&decide (0<n))=decide ((if m=true then -(n:Int) else (n:Int))<0)∧(if m=true then -(n:Int) else (n:Int)).natAbs=n:=by
 cases m with
 | false=>simp
 | true=>
  refine ⟨?_,by simp⟩
  simp only [Bool.true_and,if_true]
  rw [decide_eq_decide];omega

theorem RW {h0:ae} {m rW ok is:Bool} {n d:Nat} {v1 v2:Value} {i2:Nat} (k2:h[i2]?=some (.arr 107 z4)) (b2:h0.length≤i2) (hx:EX h0 h) (m1:cX h v1 n) (m2:cX h v2 d) (ln:n<bu) (ld:d<bu) (hd:is=true→0<d)
  (hk:ok=true→is=true→(m=true→n≠0)→(rW=true→Nat.gcd n d=1)→∀r h',EX h0 h'→gN h' r (if m=true then -(n:Int) else n) d→K (.tuple #[r,B true]) h')
  (fD:¬(ok=true∧is=true∧(m=true→n≠0)∧(rW=true→Nat.gcd n d=1))→∀a b c e h',EX h0 h'→K (.tuple #[.agg #[a,b,c,e],B false]) h'):
  B4 Tryz.prog K (pt i2 0) (B rW) (B m) v1 (B ok) v2 (B is) h:=by
 have fail:¬(ok=true∧is=true∧(m=true→n≠0)∧(rW=true→Nat.gcd n d=1))→∀t u:Value,bL t (.bool true) u=some (B true)→B5 Tryz.prog K (pt i2 0) (B rW) (B m) v1 v2 t u h:=by
  intro hb t u ht
  rw [agw,ht]
  simp only [ah,di]
  exact arQ k2 (fD hb _ _ _ _ _ (hx.set b2 _))
 have n1:∀b:Bool,fA .not (B b)=some (B (!b)):=fun _=>rfl
 have early:¬(ok=true∧is=true)→Pn Tryz.prog K (pt i2 0) (B rW) (B m) v1 v2 (B true) h:=by
  intro hb
  rw [agu]
  simp only [eZ]
  rw [agv]
  simp only [u7]
  rw [Qz]
  simp only [eZ]
  exact fail (fun hc=>hb ⟨hc.1,hc.2.1⟩) _ _ rfl
 rw [avY,n1,ah,avZ]
 cases ok with
 | false=>
  simp only [Bool.not_false,eZ]
  rw [agt]
  simp only [dA,ah]
  exact early (fun hc=>by cases hc.1)
 | true=>
 simp only [Bool.not_true,dO,n1,ah]
 rw [agt]
 simp only [cY,ah]
 cases is with
 | false=>exact early (fun hc=>by cases hc.2)
 | true=>
 have hd:=hd rfl
 simp only [Bool.not_true]
 rw [agu]
 simp only [dO]
 have main:(m=true→n≠0)→B5 Tryz.prog K (pt i2 0) (B rW) (B m) v1 v2 (B false) (B false) h:=by
  intro hm
  rw [agw]
  simp only [cY,ah,dp]
  refine pU m1 ?_
  intro g1 x1
  refine pU (m2.mono x1) ?_
  intro g2 x2
  have az:=x1.trans x2
  obtain ⟨sg1,HI⟩:=HL (m:=m) (n:=n)
  rw [sg1,Bool.false_and]
  have Gk:=m1.mono az
  have m2':=(m2.mono x1).mono x2
  obtain ⟨xs,dx,_⟩:=id Gk
  obtain ⟨ys,dy,_⟩:=id m2'
  have eb:cT [(.bool false),(.slice none 0 0),(.bool false),(.slice none 0 0)] [(0,2,.agg #[B (decide ((if m=true then -(n:Int) else (n:Int))<0)),v1]),(2,2,.agg #[B false,v2])]=some (.agg #[B (decide ((if m=true then -(n:Int) else (n:Int))<0)),v1,B false,v2]):=by
   simp [cT,qg,gS,cZ,Value.cells,setAt]
  have e3:∀(g:ae),aX 107 [(.bool false),(.slice none 0 0),(.bool false),(.slice none 0 0)] g=some (pt g.length 0,g++[.arr 107 z4]):=fun _=>rfl
  simp only [eb,e3,ah,aE]
  have y1:EX g2 (g2++[.arr 107 z4]):=EX.append _ _
  have BM:(g2++[aq.arr 107 z4])[g2.length]?=some (.arr 107 z4):=bR
  generalize g2++[aq.arr 107 z4]=g3 at y1 BM⊢
  have od:i2<g2.length:=(List.getElem?_eq_some_iff.1 (az.get k2)).1
  rw [nN BM]
  simp only [aE]
  have k4:(g3.set g2.length (.arr 107 [B (decide ((if m=true then -(n:Int) else (n:Int))<0)),v1,B false,v2]))[g2.length]?=some (.arr 107 [B (decide ((if m=true then -(n:Int) else (n:Int))<0)),v1,B false,v2]):=cM BM
  have y2:EX g2 (g3.set g2.length (.arr 107 [B (decide ((if m=true then -(n:Int) else (n:Int))<0)),v1,B false,v2])):=y1.set (Nat.le_refl _) _
  generalize g3.set g2.length (.arr 107 [B (decide ((if m=true then -(n:Int) else (n:Int))<0)),v1,B false,v2])=g4 at k4 y2⊢
  have xA:=(hx.trans az).trans y2
  have BN:=(az.trans y2).get k2
  have mm1:=Gk.mono y2
  have mm2:=m2'.mono y2
  generalize hN:(if m=true then -(n:Int) else (n:Int))=N at*
  have fin:∀{g5:ae} (b:Bool),EX g4 g5→((b=true→rW=true→Nat.gcd n d=1)∧(b=false→¬(rW=true→Nat.gcd n d=1)))→OH (aI 4 g5 (pt i2 0) (.agg #[B (decide (N<0)),v1,B false,v2])) fun _ h_8=>OP (af true 4 h_8 (pt i2 0)) fun r0=>K (.tuple #[r0,B b]) h_8:=by
   intro g5 b x5 hb
   have kk:=x5.get BN
   refine qh (K:=fun v h=>K (.tuple #[v,B b]) h) kk ?_
   have xB:=(xA.trans x5).set b2 (.arr 107 [B (decide (N<0)),v1,B false,v2])
   cases b with
   | true=>
    refine hk rfl rfl hm (hb.1 rfl) _ _ xB ⟨v1,v2,by rw [decide_eq_false (show ¬(d:Int)<0 by omega)],?_,?_⟩
    ·rw [HI];exact (mm1.mono x5).bH kk _
    ·rw [Int.natAbs_natCast];exact (mm2.mono x5).bH kk _
   | false=>exact fD (fun hc=>hb.2 rfl hc.2.2.2) _ _ _ _ _ xB
  rw [iu k4]
  simp only [ah,n1,true_and]
  cases rW with
  | false=>
   simp only [Bool.not_false,eZ,dA,ah]
   exact fin true (EX.refl g4) ⟨fun _ h=>(by cases h),fun h=>by cases h⟩
  | true=>
   simp only [Bool.not_true,dO,bW,Nat.add_zero,Nat.zero_add,jg k4,lJ k4,ah]
   refine R4 (a:=N) (b:=(d:Int)) ⟨v1,rfl,by rw [HI];exact mm1⟩ (dE.nat mm2) (by rw [HI];exact ln) (by rw [Int.natAbs_natCast];exact ld) ?_
   intro r5 g5 x5 i5
   rw [HI,Int.natAbs_natCast] at i5
   simp only [iu (x5.get k4),true_and]
   refine z9 (by decide) (by decide) ?_
   intro r6 g6 x6 i6
   have sK:Nat.gcd n d≤d:=Nat.gcd_le_right _ hd
   simp only [iu ((x5.trans x6).get k4),true_and]
   refine Iu (i5.mono x6) i6 (by rw [Int.natAbs_natCast];omega) (by rw [show (1:Int).natAbs=1 from rfl];exact xy (by decide)) ?_
   intro g7 x7
   have dK:=x5.trans (x6.trans x7)
   simp only [iu (dK.get k4),true_and,fX,ah,cY]
   by_cases uk:Nat.gcd n d=1
   ·rw [uk]
    have:(if ((1:Nat):Int)-1=0 then (0:Int) else if ((1:Nat):Int)-1<0 then -1 else 1)=0:=rfl
    rw [this]
    exact fin true dK ⟨fun _ _=>uk,fun h=>by cases h⟩
   ·have:(if ((Nat.gcd n d:Nat):Int)-1=0 then (0:Int) else if ((Nat.gcd n d:Nat):Int)-1<0 then -1 else 1)≠0:=by
     rw [if_neg (by omega)];split <;> decide
    rw [decide_eq_false this]
    exact fin false dK ⟨fun h=>(by cases h),fun _ hc=>uk (hc rfl)⟩
 rw [agv]
 cases m with
 | false=>
  simp only [iz]
  rw [Qz]
  simp only [dO,cY,ah]
  exact main (fun h=>by cases h)
 | true=>
  obtain ⟨l,p1,p2⟩:=m1.nE
  simp only [fy,p1,ah,fX]
  rw [Qz]
  simp only [dO,dA,ah]
  by_cases hn:n=0
  ·rw [decide_eq_true (show (l:Int)=0 by omega)]
   exact fail (fun hc=>hc.2.2.1 rfl hn) _ _ rfl
  ·rw [decide_eq_false (show ¬(l:Int)=0 by omega)]
   exact main (fun _=>hn)

end
end Go.Proofs.YtelmdbpaoifmoaaGreat


namespace Go.Proofs.YtelmdbpaoifmoaaGreat
open Go.Sim

theorem aib {s:List UInt8} (h:s.length≤700):cg s<bu:=Nat.lt_of_lt_of_le (H8 s) (nJ (by omega))

theorem aiG {h:ae} {K:Value→ae→Prop} {s:List UInt8} (hl:s.length≤700)
  (hk:∀n d,jz s=some (n,d)→∀r h',EX h h'→gN h' r n d→K (.tuple #[r,B true]) h')
  (fD:jz s=none→∀a b c e h',EX h h'→K (.tuple #[.agg #[a,b,c,e],B false]) h'):ak Tryz.prog 108 [S s] h K:=by
 obtain ⟨o1,o2,o3,o4⟩:=avs s
 have hp:=Ha s
 have pC:(dW s).length≤700:=by
  unfold dW
  split
  ·rw [List.length_tail];omega
  ·exact hl
 have lo:(cU (dW s)).length≤700:=by unfold cU;rw [List.length_take];omega
 have lu:(dm s).length≤700:=by unfold dm;rw [List.length_drop];omega
 have los:(cU s).length≤700:=by unfold cU;rw [List.length_take];omega
 have hm:decide ((cU s).head?=some 45)=decide (s.head?=some 45):=by rw [decide_eq_decide];exact o1
 refine f108 ?_
 have e1:∀(g:ae),aX 107 [(.bool false),(.slice none 0 0),(.bool false),(.slice none 0 0)] g=some (pt g.length 0,g++[.arr 107 z4]):=fun _=>rfl
 have eS:(.string ⟨#[47]⟩:Value)=S [47]:=rfl
 have eM:(.string ⟨#[45]⟩:Value)=S [45]:=rfl
 simp only [JL,e1,aE,eS,eM]
 have x0:EX h (h++[.arr 107 z4]):=EX.append _ _
 have k0:(h++[aq.arr 107 z4])[h.length]?=some (.arr 107 z4):=bR
 generalize h++[aq.arr 107 z4]=g at x0 k0⊢
 refine aiL (by omega) ?_
 simp only [eJ,(tB _ _ _).1,(tB _ _ _).2.1,(tB _ _ _).2.2,ah]
 refine aiM (by omega) ?_
 rw [o2,hm]
 simp only [eJ,fq,fC,ah]
 refine R7 lo ?_
 intro v1 g1 x1 m1
 have mk:∀(g:ae),dh 177 1 [(.int .u32 (0))] g [(0,1,(.int .u32 (1)))]=some (sl 177 g.length 0 1,g++[.arr 177 [.int .u32 ((1:Nat):Int)]]):=fun _=>rfl
 simp only [eJ,fq,fC,ah,mk,aE]
 have x2:EX g1 (g1++[.arr 177 [.int .u32 ((1:Nat):Int)]]):=EX.append _ _
 have abB:=ON (g:=g1) (d:=1) (by decide) (by decide)
 generalize g1++[aq.arr 177 [.int .u32 ((1:Nat):Int)]]=g2 at x2 abB⊢
 have kf:=x1.trans x2
 have hvo:=aib lo
 -- pQ ft parts say is pQ ft text aBJ
 have AY:∀{d:Nat},nm (dW s)=true→nV (dW s)=d→fM (cU (dW s))=true→(decide (s.head?=some 45)=true→cg (cU (dW s))≠0)→
   jz s=some (if decide (s.head?=some 45)=true then -(cg (cU (dW s)):Int) else (cg (cU (dW s)):Int),d):=by
  intro d a b c e
  rw [hp]
  unfold pL
  rw [if_pos ⟨a,c,e⟩,b]
 have bad:¬(nm (dW s)=true∧fM (cU (dW s))=true∧(decide (s.head?=some 45)=true→cg (cU (dW s))≠0))→jz s=none:=by
  intro hb
  rw [hp]
  unfold pL
  rw [if_neg hb]
 cases qD:lB s with
 | false=>
  rw [qD] at o3
  have iD:nm (dW s)=true:=by unfold nm;rw [←o3];rfl
  have v3:nV (dW s)=1:=by unfold nV;rw [←o3];rfl
  simp only [dp]
  refine RW (h0:=h) (n:=cg (cU (dW s))) (d:=1) (is:=true) (kf.get k0) (by omega) (x0.trans kf) (m1.mono x2) abB hvo (xy (by decide)) (fun _=>by decide) (fun a _ c _=>?_) (fun hb=>?_)
  ·exact hk _ _ (AY iD v3 a c)
  ·refine fD (bad fun hc=>hb ⟨hc.2.1,rfl,hc.2.2,fun h=>by cases h⟩)
 | true=>
  rw [qD] at o3
  have hlu:=lu
  simp only [di,if_true]
  refine R7 lu ?_
  intro v2 g3 x3 m2
  simp only [eJ,fq,fC,ah]
  rw [avX]
  have v3:nV (dW s)=cg (dm s):=by unfold nV;rw [←o3,←o4];rfl
  have iD:nm (dW s)=(fM (dm s)&&(decide (2≤cg (dm s))&&decide (Nat.gcd (cg (cU (dW s))) (cg (dm s))=1))):=by unfold nm;rw [←o3,←o4];rfl
  have hvu:=aib lu
  have x03:=x0.trans (kf.trans x3)
  have fin:∀{g4:ae},EX g3 g4→∀is:Bool,is=(fM (dm s)&&decide (2≤cg (dm s)))→B4 Tryz.prog K (pt h.length 0) (B true) (B (decide (s.head?=some 45))) v1 (B (fM (cU (dW s)))) v2 (B is) g4:=by
   intro g4 x4 is nv
   refine RW (h0:=h) (n:=cg (cU (dW s))) (d:=cg (dm s)) ((kf.trans (x3.trans x4)).get k0) (by omega) (x03.trans x4) ((m1.mono x2).mono (x3.trans x4)) (m2.mono x4) hvo hvu (fun h=>?_) (fun a b c d=>?_) (fun hb=>?_)
   ·rw [h] at nv
    have:=(Bool.and_eq_true_iff.1 nv.symm).2
    have:=of_decide_eq_true this
    omega
   ·refine hk _ _ (AY ?_ v3 a c)
    rw [b] at nv
    have h2:=Bool.and_eq_true_iff.1 nv.symm
    rw [iD,h2.1,h2.2,decide_eq_true (d rfl)];rfl
   ·refine fD (bad fun hc=>hb ⟨hc.2.1,?_,hc.2.2,fun _=>?_⟩)
    ·have h2:=hc.1
     rw [iD,Bool.and_eq_true,Bool.and_eq_true] at h2
     rw [nv,h2.1,h2.2.1];rfl
    ·have h2:=hc.1
     rw [iD,Bool.and_eq_true,Bool.and_eq_true] at h2
     exact of_decide_eq_true h2.2.2
  cases wg:fM (dm s) with
  | false=>
   simp only [iz]
   rw [ags]
   simp only [cY,ah]
   exact fin (EX.refl g3) false (by rw [wg];rfl)
  | true=>
   simp only [fy,mk,aE]
   have x4:EX g3 (g3++[.arr 177 [.int .u32 ((1:Nat):Int)]]):=EX.append _ _
   refine CI (m2.mono x4) (ON (by decide) (by decide)) hvu (xy (by decide)) ?_
   have hs:decide ((0:Int)<kS (cg (dm s)) 1)=decide (2≤cg (dm s)):=by
    rw [decide_eq_decide]
    unfold kS
    split
    ·omega
    ·split <;> omega
   simp only [fe,ah,hs]
   rw [ags]
   simp only [dA,ah]
   exact fin x4 _ (by rw [wg];rfl)

end Go.Proofs.YtelmdbpaoifmoaaGreat


namespace Go.Proofs.YtelmdbpaoifmoaaGreat
open Go.Sim
variable (P : Program) (K : VK)
/-! F24: pommel/pommelref01.Valid -/
noncomputable section
variable (x0 : Value) (h : ae)
def acB:=bw Tryz.prog 24 [[],[],[]]
@[irreducible] def Wo:=bE acB
theorem k24:acB=some (11,Wo,[.tmp 2]):=by kernel_rfl
def Kl:Prop:=
 ak P 67 [x0] h fun x7 h_1=>
 OP (cC 0 x7) fun x8=>
 OP (cC 1 x7) fun x9=>
 OH (aX 37 [(.bool false),(.slice none 0 0),(.bool false),(.slice none 0 0)] h_1) fun x3 h_2=>
 OH (aI 4 h_2 x3 x8) fun _ h_3=>
 K x9 h_3
theorem e24:aj P Wo (aR [.tmp 2] K) (bp [x0]) h=Kl P K x0 h:=by kernel_rfl
theorem f24 {K:VK} {x0:Value} {h:ae} (H:Kl Tryz.prog K x0 h):ak Tryz.prog 24 [x0] h K:=
 bF k24 (Nat.le_of_ble_eq_true rfl) ((e24 Tryz.prog K x0 h).mpr H)
end
end Go.Proofs.YtelmdbpaoifmoaaGreat

namespace Go.Proofs.YtelmdbpaoifmoaaGreat
open Go.Sim
end Go.Proofs.YtelmdbpaoifmoaaGreat


namespace Go.Proofs.YtelmdbpaoifmoaaGreat
open Go.Sim

def cut (fG n:Nat):Nat:=min n (if 10<n then 11 else fG)

end Go.Proofs.YtelmdbpaoifmoaaGreat


namespace Go.Proofs.YtelmdbpaoifmoaaGreat
open Go.Sim


structure LL (h:ae) (v:Value) (ll:List (List Nat)):Prop where
 len:aY v=some (I ll.length)
 get:∀i (hi:i<ll.length),∃b o w,aU 1 v (I i)=some (pt b o)∧af false 1 h (pt b o)=some w∧NS h w .i64 (ll[i].map fun i:Nat=>(i:Int))

theorem LL.mono {h h':ae} {v:Value} {ll:List (List Nat)} (x:EX h h') (p:LL h v ll):LL h' v ll:=
 ⟨p.len,fun i hi=>let ⟨b,o,w,a,c,d⟩:=p.get i hi;⟨b,o,w,a,EX.load x c,d.mono x⟩⟩

def aaY:Value→Bool
 | .slice _ _ _=>true
 | _=>false

structure OL (b:Nat) (g:ae) (v:Value) (ws:List Value) (ll:List (List Nat)):Prop where
 own:fW b g 33 v ws
 len:ws.length=ll.length
 sls:∀w∈ws,aaY w=true
 get:∀(i:Nat) (w:Value) (l:List Nat),ws[i]?=some w→ll[i]?=some l→NS g w .i64 (l.map fun i:Nat=>(i:Int))

theorem NS.auG {g g':ae} {w:Value} {ns:List Int} (p:NS g w .i64 ns) (hk:∀b,b<g.length→(∃o n,af false 1 g (pt b o)=some (I n))→g'[b]?=g[b]?):NS g' w .i64 ns:=by
 refine ⟨p.len,fun i hi=>?_,p.le⟩
 obtain ⟨b,o,h1,h2⟩:=p.get i hi
 have hb:b<g.length:=by
  apply Classical.byContradiction
  intro cH
  simp only [af] at h2
  rw [aO,List.getElem?_eq_none (by omega)] at h2
  cases h2
 refine ⟨b,o,h1,?_⟩
 have:=hk b hb ⟨o,_,h2⟩
 simp only [af,aO,this] at h2⊢
 exact h2

theorem OL.dN {b:Nat} {g g':ae} {v w:Value} {ws:List Value} {ll:List (List Nat)} {ns:List Int} (o:OL b g v ws ll) (p:NS g w .i64 ns) (hold:∀d,d<g.length→(∀n,v≠sl 33 d 0 n)→g'[d]?=g[d]?):NS g' w .i64 ns:=by
 refine NS.auG p fun d hd ⟨o',n,hl⟩=>hold d hd fun m hv=>?_
 obtain ⟨_,_,h3⟩:=o.own.lt hv
 simp only [af,aO,h3,Option.bind_some,ck,Bool.false_eq_true,if_false] at hl
 have:=o.sls _ (List.mem_of_getElem? hl)
 cases this

theorem OL.app {h0 hx:ae} {v w:Value} {ws:List Value} {ll:List (List Nat)} {l:List Nat} {K:Value→ae→Prop} (o:OL h0.length hx v ws ll) (hex:EX h0 hx) (hw:NS hx w .i64 (l.map fun i:Nat=>(i:Int))) (hl:ws.length≤1000)
  (hk:∀v' bG,EX h0 bG→OL h0.length bG v' (ws++[w]) (ll++[l])→K v' bG):OH (dh 33 1 [(.slice none 0 0)] hx [(0,1,w)]) fun a h2=>OH (dj 33 1 24 h2 v a) K:=by
 obtain ⟨t1,t2⟩:=azY hw.len
 have qD:aaY w=true:=by
  have:=hw.len
  unfold aY at this
  split at this
  ·rfl
  ·cases this
 refine Dr o.own (by omega) (by simp [maxLen];omega) t1 t2 ?_
 intro w1 bG _ hlen hold iR
 simp only [aE]
 have key:∀{w':Value} {ns:List Int},NS hx w' .i64 ns→NS bG w' .i64 ns:=fun p=>o.dN p hold
 refine hk _ _ ⟨by have:=hex.1;omega,fun d hd=>?_⟩ ⟨.inr ⟨hx.length+1,by have:=hex.1;omega,by simp,iR⟩,by simp [o.len],fun x hx=>?_,fun i x y hx hy=>?_⟩
 ·rw [hold d (by have:=hex.1;omega) fun n hv=>?_]
  ·exact hex.2 d hd
  ·have:=(o.own.lt hv).1
   omega
 ·rcases List.mem_append.1 hx with hx | hx
  ·exact o.sls x hx
  ·rw [List.mem_singleton.1 hx];exact qD
 ·by_cases hi:i<ws.length
  ·rw [List.getElem?_append_left hi] at hx
   rw [List.getElem?_append_left (by rw [←o.len];exact hi)] at hy
   exact key (o.get i x y hx hy)
  ·rw [List.getElem?_append_right (by omega)] at hx
   rw [List.getElem?_append_right (by rw [←o.len];omega),←o.len] at hy
   have h0:i-ws.length=0:=by
    have:=(List.getElem?_eq_some_iff.1 hx).1
    simp at this;omega
   rw [h0] at hx hy
   simp only [List.getElem?_cons_zero,Option.some.injEq] at hx hy
   subst hx hy
   exact key hw

theorem OL.ll {b:Nat} {g:ae} {v:Value} {ws:List Value} {ll:List (List Nat)} (o:OL b g v ws ll):LL g v ll:=by
 rcases o.own with ⟨rfl,h2⟩ | ⟨i,_,rfl,h3⟩
 ·have hl:=o.len
  rw [h2] at hl
  have:ll=[]:=List.length_eq_zero_iff.1 hl.symm
  subst this
  exact ⟨rfl,fun i hi=>by simp at hi⟩
 ·refine ⟨by rw [←o.len];rfl,fun j hj=>?_⟩
  have Np:j<ws.length:=by rw [o.len];exact hj
  refine ⟨i,j,ws[j],kZ Np,?_,o.get j _ _ (List.getElem?_eq_getElem Np) (List.getElem?_eq_getElem hj)⟩
  simp [af,aO,h3,ck,Np]

theorem OL.start (b:Nat) (g:ae):OL b g (.slice none 0 0) [] []:=⟨.inl ⟨rfl,rfl⟩,rfl,fun w hw=>by simp at hw,fun i w l h=>by simp at h⟩

end Go.Proofs.YtelmdbpaoifmoaaGreat


namespace Go.Sim

structure lQ (bs:List Nat) (js:List (Int×Int)) (n d k aZ b:Nat):Prop where
 none:aZ=0→b=0∧∀m,m<k→¬dY bs n d m
 rel:aZ≠0→(b<k∧dY bs n d b)∧(∀m,m<k→dY bs n d m→wS js m*lS js b≤wS js b*lS js m)∧∀i,aZ.testBit i=true↔∃m,m<k∧dY bs n d m∧wS js m*lS js b=wS js b*lS js m∧m.testBit i=true

section
variable {bs : List Nat} {js : List (Int × Int)} {n d k aZ b : Nat}

theorem lQ.start:lQ bs js n d 1 0 0:=⟨fun _=>⟨rfl,fun m hm h=>h.ne (by omega)⟩,fun h=>absurd rfl h⟩

theorem lQ.skip (g:lQ bs js n d k aZ b) (h:¬dY bs n d k):lQ bs js n d (k+1) aZ b:=by
 refine ⟨fun h0=>⟨(g.none h0).1,fun m hm hr=>?_⟩,fun h0=>?_⟩
 ·by_cases e:m=k
  ·subst e;exact h hr
  ·exact (g.none h0).2 m (by omega) hr
 ·obtain ⟨⟨a1,a2⟩,a3,a4⟩:=g.rel h0
  refine ⟨⟨by omega,a2⟩,fun m hm hr=>?_,fun i=>?_⟩
  ·by_cases e:m=k
   ·subst e;exact absurd hr h
   ·exact a3 m (by omega) hr
  ·rw [a4 i]
   constructor
   ·rintro ⟨m,q1,q2,q3⟩;exact ⟨m,by omega,q2,q3⟩
   ·rintro ⟨m,q1,q2,q3⟩
    by_cases e:m=k
    ·subst e;exact absurd q2 h
    ·exact ⟨m,by omega,q2,q3⟩

theorem lQ.take (P:nc js n) (hn:n≤10) (g:lQ bs js n d k aZ b) (h:dY bs n d k) (hb:aZ=0∨wS js b*lS js k<wS js k*lS js b):lQ bs js n d (k+1) k k:=by
 refine ⟨fun h0=>absurd h0 h.ne,fun _=>?_⟩
 have less:∀m,m<k→dY bs n d m→wS js m*lS js k<wS js k*lS js m:=by
  intro m hm hr
  rcases hb with hb | hb
  ·exact absurd hr ((g.none hb).2 m hm)
  ·have h0:aZ≠0:=by
    rintro rfl
    exact (g.none rfl).2 m hm hr
   obtain ⟨⟨a1,a2⟩,a3,_⟩:=g.rel h0
   have h1:=a3 m hm hr
   have p1:=tf P hn hr.lt hr.ne
   have p2:=tf P hn a2.lt a2.ne
   have p3:=tf P hn h.lt h.ne
   apply Classical.byContradiction
   intro hc
   have:=L9 p3 p1 p2 (show wS js k*lS js m≤wS js m*lS js k by omega) h1
   omega
 refine ⟨⟨by omega,h⟩,fun m hm hr=>?_,fun i=>?_⟩
 ·by_cases e:m=k
  ·subst e;exact Int.le_refl _
  ·exact Int.le_of_lt (less m (by omega) hr)
 ·constructor
  ·intro hi;exact ⟨k,by omega,h,rfl,hi⟩
  ·rintro ⟨m,q1,q2,q3,q4⟩
   by_cases e:m=k
   ·subst e;exact q4
   ·have:=less m (by omega) q2
    omega

theorem lQ.join (g:lQ bs js n d k aZ b) (h:dY bs n d k) (h0:aZ≠0) (hb:wS js k*lS js b=wS js b*lS js k):lQ bs js n d (k+1) (aZ ||| k) b:=by
 have br:aZ ||| k≠0:=by
  intro e
  have:aZ≤aZ ||| k:=Nat.left_le_or
  omega
 refine ⟨fun e=>absurd e br,fun _=>?_⟩
 obtain ⟨⟨a1,a2⟩,a3,a4⟩:=g.rel h0
 refine ⟨⟨by omega,a2⟩,fun m hm hr=>?_,fun i=>?_⟩
 ·by_cases e:m=k
  ·subst e;omega
  ·exact a3 m (by omega) hr
 ·rw [Nat.testBit_or,Bool.or_eq_true,a4 i]
  constructor
  ·rintro (⟨m,q1,q2⟩ | hi)
   ·exact ⟨m,by omega,q2⟩
   ·exact ⟨k,by omega,h,hb,hi⟩
  ·rintro ⟨m,q1,q2,q3,q4⟩
   by_cases e:m=k
   ·subst e;exact .inr q4
   ·exact .inl ⟨m,by omega,q2,q3,q4⟩

theorem lQ.pass (g:lQ bs js n d k aZ b) (h0:aZ≠0) (hb:wS js k*lS js b<wS js b*lS js k):lQ bs js n d (k+1) aZ b:=by
 refine ⟨fun e=>absurd e h0,fun _=>?_⟩
 obtain ⟨⟨a1,a2⟩,a3,a4⟩:=g.rel h0
 refine ⟨⟨by omega,a2⟩,fun m hm hr=>?_,fun i=>?_⟩
 ·by_cases e:m=k
  ·subst e;omega
  ·exact a3 m (by omega) hr
 ·rw [a4 i]
  constructor
  ·rintro ⟨m,q1,q2⟩;exact ⟨m,by omega,q2⟩
  ·rintro ⟨m,q1,q2,q3,q4⟩
   by_cases e:m=k
   ·subst e;omega
   ·exact ⟨m,by omega,q2,q3,q4⟩

theorem lQ.all (P:nc js n) (hn:n≤10) (hb:∀b∈bs,b<2^n) (hd:d<cB n) (g:lQ bs js n d (2^n) aZ b):oQ bs js n d aZ:=by
 obtain ⟨s,hs⟩:=oQ.ex (js:=js) P hn hb hd
 have h0:aZ≠0:=fun e=>(g.none e).2 s hs.1.1.lt hs.1.1
 obtain ⟨⟨a1,a2⟩,a3,a4⟩:=g.rel h0
 have jY:lR bs js n d b:=⟨a2,fun x hx=>a3 x hx.lt hx⟩
 have e:aZ=s:=by
  apply Nat.eq_of_testBit_eq
  intro i
  rw [Bool.eq_iff_iff,a4 i]
  constructor
  ·rintro ⟨m,_,q2,q3,q4⟩
   have hm:=jY.same P hn q2 (Int.le_of_eq q3.symm)
   exact mY.1 (hs.2 m hm) i q4
  ·intro hi
   exact ⟨s,hs.1.1.lt,hs.1.1,Int.le_antisymm (a3 s hs.1.1.lt hs.1.1) (hs.1.2 b a2),hi⟩
 rw [e]
 exact hs
end

end Go.Sim


namespace Go.Proofs.YtelmdbpaoifmoaaGreat
open Go.Sim
end Go.Proofs.YtelmdbpaoifmoaaGreat


namespace Go.Sim

def KP (p:Value→Bool) (h h':ae):Prop:=∀d c r,aO h d=some (c::r)→p c=true→aO h' d=some (c::r)

theorem KP.refl (p:Value→Bool) (h:ae):KP p h h:=fun _ _ _ a _=>a
theorem KP.trans {p:Value→Bool} {a b c:ae} (x:KP p a b) (y:KP p b c):KP p a c:=fun d v r h1 h2=>y d v r (x d v r h1 h2) h2
theorem KP.ex {p:Value→Bool} {a b:ae} (x:EX a b):KP p a b:=fun _ _ _ h1 _=>x.cells h1
theorem KP.set {p:Value→Bool} {h:ae} {i:Nat} {e:TypeId} {cs:List Value} (hg:h[i]?=some (.arr e cs)) (hp:∀c r,cs=c::r→p c=false) (o:aq):KP p h (h.set i o):=by
 intro d c r h1 h2
 have br:i≠d:=by
  rintro rfl
  simp only [aO,hg] at h1
  cases h1
  rw [hp _ _ rfl] at h2
  cases h2
 simp only [aO] at h1⊢
 rw [List.getElem?_set_ne br]
 exact h1

def RS (h:ae) (e:TypeId) (aV:Nat) (v:Value) (rows:List (List Value)):Prop:=
 (∀r∈rows,r.length=aV)∧((v=.slice none 0 0∧rows=[])∨∃i o,v=sl e i o rows.length∧(rows=[]∨∃pre post,aO h i=some (pre++rows.flatten++post)∧pre.length=o))

section
variable {h h' : ae} {e : TypeId} {aV : Nat} {v : Value} {rows : List (List Value)}

theorem RS.mono (x:EX h h') (p:RS h e aV v rows):RS h' e aV v rows:=
 ⟨p.1,p.2.imp id fun ⟨i,o,a,b⟩=>⟨i,o,a,b.imp id fun ⟨pre,post,c,d⟩=>⟨pre,post,x.cells c,d⟩⟩⟩

theorem RS.len (p:RS h e aV v rows):aY v=some (I rows.length):=by
 rcases p.2 with ⟨rfl,rfl⟩ | ⟨i,o,rfl,_⟩ <;> rfl

theorem RS.one (p:RS h e aV v rows):gS v=true∧cZ v=[v]:=by
 rcases p.2 with ⟨rfl,_⟩ | ⟨i,o,rfl,_⟩ <;> exact ⟨rfl,rfl⟩

theorem Fb:∀{rows:List (List Value)},(∀r∈rows,r.length=aV)→rows.flatten.length=rows.length*aV
 | [],_=>by simp
 | r::rows,h=>by
  have ih:=Fb (rows:=rows) fun x hx=>h x (List.mem_cons_of_mem _ hx)
  simp only [List.flatten_cons,List.length_append,List.length_cons,h r (List.mem_cons_self ..),ih]
  rw [Nat.succ_mul];omega

theorem YT:∀{rows:List (List Value)},(∀r∈rows,r.length=aV)→∀k (hk:k<rows.length),(rows.flatten.drop (k*aV)).take aV=rows[k]
 | r::rows,h,0,_=>by
  have:=h r (by simp)
  simp only [List.flatten_cons,Nat.zero_mul,List.drop_zero,List.getElem_cons_zero]
  rw [←this,List.take_left']
  rfl
 | r::rows,h,k+1,hk=>by
  have hr:=h r (by simp)
  have:=YT (rows:=rows) (fun x hx=>h x (by simp [hx])) k (by simpa using hk)
  simp only [List.flatten_cons,List.getElem_cons_succ]
  rw [←this,show (k+1)*aV=r.length+k*aV by rw [Nat.succ_mul,hr];omega,List.drop_append,List.drop_eq_nil_of_le (by omega),List.nil_append,show r.length+k*aV-r.length=k*aV by omega]

theorem RS.get (p:RS h e aV v rows) {k:Nat} (hk:k<rows.length):∃i o cs,aU aV v (I k)=some (pt i o)∧aO h i=some cs∧o+aV≤cs.length∧(cs.drop o).take aV=rows[k]:=by
 rcases p.2 with ⟨_,rfl⟩ | ⟨i,o,rfl,rfl | ⟨pre,post,hc,ho⟩⟩
 ·simp at hk
 ·simp at hk
 have hf:=Fb p.1
 have hle:(k+1)*aV≤rows.length*aV:=Nat.mul_le_mul_right _ hk
 rw [Nat.succ_mul] at hle
 refine ⟨i,o+k*aV,_,?_,hc,?_,?_⟩
 ·have:(0:Int)≤(k:Int)∧(k:Int)<(rows.length:Int):=by omega
  simp [sl,aU,this]
 ·simp only [List.length_append,hf];omega
 ·rw [←YT p.1 k hk,←ho,List.append_assoc,List.drop_append,List.drop_eq_nil_of_le (by omega),List.nil_append,show pre.length+k*aV-pre.length=k*aV by omega]
  rw [List.drop_append_of_le_length (by rw [hf];omega),List.take_append_of_le_length (by rw [List.length_drop,hf];omega)]

theorem Q0 {i o:Nat} {cs row:List Value} (hc:aO h i=some cs) (hl:o+aV≤cs.length) (ht:(cs.drop o).take aV=row):af true aV h (pt i o)=some (.agg row.toArray):=by
 simp [af,hc,ck,hl,ht]

theorem RS.nil (h:ae) (e:TypeId) (aV:Nat):RS h e aV (.slice none 0 0) []:=⟨fun r hr=>by simp at hr,.inl ⟨rfl,rfl⟩⟩

theorem RS.arr {i:Nat} (hw:∀r∈rows,r.length=aV) (hg:h[i]?=some (.arr e rows.flatten)):RS h e aV (sl e i 0 rows.length) rows:=
 ⟨hw,.inr ⟨i,0,rfl,.inr ⟨[],[],by simp [aO,hg],rfl⟩⟩⟩

theorem RS.from (p:RS h e aV v rows) {k:Nat} (hk:k≤rows.length):∃v',j5 e aV v (some (I k)) none=some v'∧RS h e aV v' (rows.drop k):=by
 have hw:∀r∈rows.drop k,r.length=aV:=fun r hr=>p.1 r (List.mem_of_mem_drop hr)
 rcases p.2 with ⟨rfl,rfl⟩ | ⟨i,o,rfl,hc⟩
 ·have:k=0:=by simpa using hk
  subst this
  exact ⟨_,rfl,⟨hw,.inl ⟨rfl,rfl⟩⟩⟩
 ·refine ⟨sl e i (o+k*aV) (rows.length-k),by simp [j5,sl,pG,qL,hk],hw,.inr ⟨i,_,by rw [List.length_drop],?_⟩⟩
  rcases hc with rfl | ⟨pre,post,hc,ho⟩
  ·left;simp
  ·right
   refine ⟨pre++(rows.take k).flatten,post,?_,?_⟩
   ·rw [hc]
    have:rows.flatten=(rows.take k).flatten++(rows.drop k).flatten:=by rw [←List.flatten_append,List.take_append_drop]
    rw [this];simp
   ·rw [List.length_append,ho,Fb fun r hr=>p.1 r (List.mem_of_mem_take hr),List.length_take,Nat.min_eq_left hk]

def ja (b:Nat) (hx:ae) (e:TypeId) (aV:Nat) (v:Value) (rows:List (List Value)):Prop:=
 (∀r∈rows,r.length=aV)∧((v=.slice none 0 0∧rows=[])∨∃i,b≤i∧v=sl e i 0 rows.length∧hx[i]?=some (.arr e rows.flatten))

theorem ja.start (b:Nat) (hx:ae) (e:TypeId) (aV:Nat):ja b hx e aV (.slice none 0 0) []:=⟨fun r hr=>by simp at hr,.inl ⟨rfl,rfl⟩⟩

theorem ja.rs {b:Nat} (o:ja b h e aV v rows):RS h e aV v rows:=by
 rcases o.2 with ⟨rfl,rfl⟩ | ⟨i,_,rfl,hg⟩
 ·exact .nil _ _ _
 ·exact .arr o.1 hg

theorem ja.dN {b:Nat} (o:ja b h e aV v rows) (x:∀d n,v=sl e d 0 n→b≤d→h'[d]?=h[d]?):ja b h' e aV v rows:=
 ⟨o.1,o.2.imp id fun ⟨i,h1,h2,h3⟩=>⟨i,h1,h2,by rw [x i _ h2 h1];exact h3⟩⟩

theorem ja.lt {b d n:Nat} (o:ja b h e aV v rows) (hv:v=sl e d 0 n):b≤d∧d<h.length∧h[d]?=some (.arr e rows.flatten):=by
 rcases o.2 with ⟨h1,_⟩ | ⟨i,h1,h2,h3⟩
 ·rw [h1] at hv;cases hv
 ·rw [h2] at hv
  obtain ⟨rfl,_⟩:=Rf hv
  exact ⟨h1,(List.getElem?_eq_some_iff.1 h3).1,h3⟩

theorem ja.ex {b:Nat} (o:ja b h e aV v rows) (x:EX h h'):ja b h' e aV v rows:=o.dN fun d _ hv _=>x.2 d (o.lt hv).2.1

theorem ja.kp {b:Nat} {p:Value→Bool} (o:ja b h e aV v rows) (hp:∀c r,rows.flatten=c::r→p c=false) (hold:∀d,d<h.length→(∀n,v≠sl e d 0 n)→h'[d]?=h[d]?):KP p h h':=by
 intro d c r h1 h2
 have hd:d<h.length:=by
  apply Classical.byContradiction
  intro cH
  rw [aO,List.getElem?_eq_none (by omega)] at h1
  cases h1
 have br:∀n,v≠sl e d 0 n:=by
  intro n hv
  have:=(o.lt hv).2.2
  simp only [aO,this] at h1
  cases yq:rows.flatten with
  | nil=>rw [yq] at h1;cases h1
  | cons y ys=>
   rw [yq] at h1
   cases h1
   rw [hp _ _ yq] at h2
   cases h2
 simp only [aO,hold d hd br] at h1⊢
 exact h1

theorem ja.app {h0:ae} {bytes:Nat} {x:Value} {row zs:List Value} {K:Value→ae→Prop} (o:ja h0.length h e aV v rows) (hex:EX h0 h) (hz:zs.length=aV) (h1:gS x=true) (h2:cZ x=row) (hr:row.length=aV)
  (hb:(rows.length+1)*bytes≤140737488355328) (hm:rows.length+1≤maxLen)
  (hk:∀v' h',EX h0 h'→(∀d,d<h.length→(∀n,v≠sl e d 0 n)→h'[d]?=h[d]?)→ja h0.length h' e aV v' (rows++[row])→K v' h'):
  OH (dh e 1 zs h [(0,aV,x)]) fun a h2=>OH (dj e aV bytes h2 v a) K:=by
 have hw:∀r∈rows++[row],r.length=aV:=by
  intro r ot
  rcases List.mem_append.1 ot with ot | ot
  ·exact o.1 r ot
  ·rw [List.mem_singleton.1 ot];exact hr
 have e1:dh e 1 zs h [(0,aV,x)]=some (sl e h.length 0 1,h++[.arr e row]):=by
  have wN:gL zs 1=zs:=by simp [gL]
  have hs:setAt zs 0 row=row:=by
   unfold setAt
   rw [List.take_zero,List.nil_append,List.drop_eq_nil_of_le (by omega),List.append_nil]
  simp only [dh,wN,qg,h1,h2,hs]
  rw [if_pos ⟨trivial,hr,by omega⟩]
  rfl
 rw [e1]
 simp only [aE]
 have e2:jj (h++[.arr e row]) aV (sl e h.length 0 1)=some row:=by
  simp [jj,sl,aO,hr]
  rw [←hr,List.take_length]
 have e3:mU (sl e h.length 0 1)=some 1:=rfl
 rcases o.2 with ⟨rfl,rfl⟩ | ⟨i,hi,rfl,bN⟩
 ·refine Di (v:=sl e (h.length+1) 0 1) (h:=h++[.arr e row]++[.arr e row]) ?_ (hk _ _ ((hex.push _).push _) (fun d hd _=>by rw [List.getElem?_append_left (by simp;omega),List.getElem?_append_left hd]) ⟨hw,.inr ⟨h.length+1,by have:=hex.1;omega,rfl,by simp⟩⟩)
  have jH:1*bytes≤140737488355328:=by simpa using hb
  have fE:1≤maxLen:=by simpa using hm
  simp only [dj,e2,e3]
  rw [if_neg (by omega),if_pos ⟨jH,fE⟩]
  simp
 ·have aC:=(List.getElem?_eq_some_iff.1 bN).1
  have hg:(h++[.arr e row])[i]?=some (.arr e rows.flatten):=by rw [List.getElem?_append_left aC];exact bN
  refine Di (v:=sl e (h.length+1) 0 (rows.length+1)) (h:=(h++[aq.arr e row]).set i aq.dead++[aq.arr e (rows.flatten++row)]) ?_
   (hk _ _ (((hex.push _).set hi _).push _) (fun d hd br=>?_) ⟨hw,.inr ⟨h.length+1,by have:=hex.1;omega,by simp,?_⟩⟩)
  ·simp only [dj,e2,e3]
   simp only [sl,hg]
   rw [if_pos ⟨trivial,trivial,Fb o.1,hb,hm⟩,if_neg (by omega)]
   simp
  ·have lC:i≠d:=by rintro rfl;exact br _ rfl
   rw [List.getElem?_append_left (by simp;omega),List.getElem?_set_ne lC,List.getElem?_append_left hd]
  ·rw [List.getElem?_append_right (by simp)]
   simp

end

end Go.Sim


namespace Go.Proofs.YtelmdbpaoifmoaaGreat
open Go.Sim

/-- Fractions in memory. -/
def oT (h:ae) (v:Value) (qs:List (Int×Int)):Prop:=
 ∃rows,RS h 107 4 v rows∧rows.length=qs.length∧∀(k:Nat) (row:List Value) (q:Int×Int),rows[k]?=some row→qs[k]?=some q→gN h (.agg row.toArray) q.1 q.2


theorem oT.mono {h h':ae} {v:Value} {qs:List (Int×Int)} (x:EX h h') (p:oT h v qs):oT h' v qs:=
 let ⟨rows,a,b,c⟩:=p;⟨rows,a.mono x,b,fun k row q h1 h2=>(c k row q h1 h2).mono x⟩

theorem oT.len {h:ae} {v:Value} {qs:List (Int×Int)} (p:oT h v qs):aY v=some (I qs.length):=by
 obtain ⟨rows,a,b,_⟩:=p;rw [←b];exact a.len

theorem oT.get {h:ae} {v:Value} {qs:List (Int×Int)} (p:oT h v qs) {k:Nat} (hk:k<qs.length):∃i o r,aU 4 v (I k)=some (pt i o)∧af true 4 h (pt i o)=some r∧gN h r qs[k].1 qs[k].2:=by
 obtain ⟨rows,a,b,c⟩:=p
 have bV:k<rows.length:=by omega
 obtain ⟨i,o,cs,g1,g2,g3,g4⟩:=a.get bV
 exact ⟨i,o,_,g1,Q0 g2 g3 g4,c k _ _ (List.getElem?_eq_getElem bV) (List.getElem?_eq_getElem hk)⟩

def uG:Value→Bool
 | .int .u32 _=>true
 | _=>false

theorem DSw.dN {e:TypeId} {h h':ae} {v:Value} {xs:List Nat} (x:KP uG h h') (p:DS e .u32 h v xs):DS e .u32 h' v xs:=by
 refine p.imp id fun ⟨i,a,b⟩=>⟨i,a,?_⟩
 cases xs with
 | nil=>exact .inl rfl
 | cons y ys=>
  obtain ⟨r,c⟩:=b.resolve_left (by simp)
  exact .inr ⟨r,x i _ _ c rfl⟩

theorem cX.dN {h h':ae} {v:Value} {n:Nat} (x:KP uG h h') (p:cX h v n):cX h' v n:=let ⟨xs,a,b,c⟩:=p;⟨xs,DSw.dN x a,b,c⟩
theorem gN.dN {h h':ae} {v:Value} {a b:Int} (x:KP uG h h') (p:gN h v a b):gN h' v a b:=let ⟨u,w,e,m,n⟩:=p;⟨u,w,e,m.dN x,n.dN x⟩

theorem gN.cells {h:ae} {v:Value} {a b:Int} (p:gN h v a b):gS v=true∧∃s u t w,v=.agg #[B s,u,B t,w]∧cZ v=[B s,u,B t,w]:=by
 obtain ⟨u,w,rfl,_⟩:=p
 exact ⟨rfl,_,_,_,_,rfl,rfl⟩

/-- Fractions that are being gathered. -/
def lU (b:Nat) (h:ae) (v:Value) (qs:List (Int×Int)):Prop:=
 ∃rows,ja b h 107 4 v rows∧rows.length=qs.length∧(∀r∈rows,∃s t,r=.bool s::t)∧∀(k:Nat) (row:List Value) (q:Int×Int),rows[k]?=some row→qs[k]?=some q→gN h (.agg row.toArray) q.1 q.2

theorem lU.start (b:Nat) (h:ae):lU b h (.slice none 0 0) []:=⟨[],ja.start ..,rfl,fun r hr=>by simp at hr,fun k r q h=>by simp at h⟩

theorem lU.ayS {b:Nat} {h:ae} {v:Value} {qs:List (Int×Int)} (o:lU b h v qs):oT h v qs:=let ⟨rows,a,c,_,d⟩:=o;⟨rows,a.rs,c,d⟩

theorem lU.ex {b:Nat} {h h':ae} {v:Value} {qs:List (Int×Int)} (x:EX h h') (o:lU b h v qs):lU b h' v qs:=
 let ⟨rows,a,c,e,d⟩:=o;⟨rows,a.ex x,c,e,fun k r q h1 h2=>(d k r q h1 h2).mono x⟩

theorem arW {rows:List (List Value)} (h:∀r∈rows,∃s t,r=.bool s::t):∀c r,rows.flatten=c::r→uG c=false:=by
 intro c r hc
 cases rows with
 | nil=>simp at hc
 | cons x xs=>
  obtain ⟨s,t,rfl⟩:=h x (by simp)
  simp at hc
  rw [←hc.1];rfl

theorem lU.app {h0 h:ae} {v x:Value} {a b:Int} {qs:List (Int×Int)} {zs:List Value} {K:Value→ae→Prop} (o:lU h0.length h v qs) (hex:EX h0 h) (hx:gN h x a b) (hz:zs.length=4) (hl:qs.length≤10000)
  (hk:∀v' h',EX h0 h'→KP uG h h'→lU h0.length h' v' (qs++[(a,b)])→K v' h'):OH (dh 107 1 zs h [(0,4,x)]) fun y h2=>OH (dj 107 4 64 h2 v y) K:=by
 obtain ⟨rows,o1,o2,o3,o4⟩:=o
 obtain ⟨t1,s,u,t,w,e1,e2⟩:=hx.cells
 refine o1.app hex hz t1 e2 rfl (by omega) (by simp [maxLen];omega) ?_
 intro v' h' x' hold o'
 have kp:KP uG h h':=o1.kp (arW o3) hold
 refine hk v' h' x' kp ⟨_,o',by simp [o2],fun r hr=>?_,fun k row q h1 h2=>?_⟩
 ·rcases List.mem_append.1 hr with hr | hr
  ·exact o3 r hr
  ·rw [List.mem_singleton.1 hr];exact ⟨s,_,rfl⟩
 ·by_cases hk:k<rows.length
  ·rw [List.getElem?_append_left hk] at h1
   rw [List.getElem?_append_left (by omega)] at h2
   exact (o4 k row q h1 h2).dN kp
  ·rw [List.getElem?_append_right (by omega)] at h1
   rw [List.getElem?_append_right (by omega),←o2] at h2
   have h0:k-rows.length=0:=by
    have:=(List.getElem?_eq_some_iff.1 h1).1
    simp at this;omega
   rw [h0] at h1 h2
   simp only [List.getElem?_cons_zero,Option.some.injEq] at h1 h2
   subst h1 h2
   rw [←e1]
   exact hx.dN kp

end Go.Proofs.YtelmdbpaoifmoaaGreat


namespace Go.Proofs.YtelmdbpaoifmoaaGreat
open Go.Sim

theorem Sm {s:List UInt8} {h:ae} {K:Value→ae→Prop} (hl:s.length≤700)
  (hk:∀n d,jz s=some (n,d)→∀r h',EX h h'→QZ h' r n d→K (.tuple #[r,B true]) h')
  (fD:jz s=none→∀h',EX h h'→K (.tuple #[pS,B false]) h'):ak Tryz.prog 67 [S s] h K:=by
 refine f67 ?_
 have e1:aX 37 [(.bool false),(.slice none 0 0),(.bool false),(.slice none 0 0)] h=some (pt h.length 0,h++[.arr 37 z4]):=rfl
 have x1:EX h (h++[.arr 37 z4]):=EX.append _ _
 simp only [KF,e1,aE,kC,ah,fe,decide_eq_false (show ¬(s.length:Int)>8002 by omega),dp,axQ]
 by_cases h0:s.length=0
 ·have e:s=[]:=List.length_eq_zero_iff.1 h0
  subst e
  rw [decide_eq_false (show ¬((([]:List UInt8).length:Int)>0) by simp)]
  simp only [iz,ag1,cY,ah,dp]
  exact IB (m:=false) hl x1 (Nat.le_refl _) bR (fun n d hp=>hk n d hp) (fun hp=>fD hp)
 ·rw [decide_eq_true (show (s.length:Int)>0 by omega)]
  have ix:=tb (a:=s) (i:=0) (by omega) .i64
  simp only [Int.natCast_zero] at ix
  have hh:s.head?=some (s[0]'(by omega)):=by rw [List.head?_eq_getElem?,List.getElem?_eq_getElem (by omega)]
  have e5:ai .eql (cv (s[0]'(by omega))) (.int .u8 45)=some (B (decide (((s[0]'(by omega)).toNat:Int)=45))):=rfl
  simp only [fy,ix,ah,e5,ag1,dA,bK]
  refine ⟨fun hm=>?_,fun hm=>?_⟩
  ·have fE:s[0]'(by omega)=45:=by apply UInt8.toNat_inj.1;show (s[0]'(by omega)).toNat=45;omega
   have hp:jz s=pL true s.tail:=by unfold jz;rw [if_pos (by rw [hh,fE])]
   have sl:=Cq (a:=s) (n:=1) (by omega) .i64
   have sl':jK (S s) (some (.int .i64 1)) none=some (S s.tail):=by rw [←List.drop_one];exact sl
   simp only [sl',ah]
   refine IB (m:=true) (by rw [List.length_tail];omega) x1 (Nat.le_refl _) bR (fun n d hq=>hk n d (by rw [hp];exact hq)) (fun hq=>fD (by rw [hp];exact hq))
  ·have fE:s[0]'(by omega)≠45:=by intro h;rw [h] at hm;exact hm rfl
   have hp:jz s=pL false s:=by unfold jz;rw [if_neg (by rw [hh];intro h;injection h with h;exact fE h)]
   exact IB (m:=false) hl x1 (Nat.le_refl _) bR (fun n d hq=>hk n d (by rw [hp];exact hq)) (fun hq=>fD (by rw [hp];exact hq))

theorem ai6 {s:List UInt8} {n:Int} {d:Nat} {h:ae} {K:Value→ae→Prop} (hl:s.length≤700) (hp:jz s=some (n,d)) (hk:∀r h',EX h h'→QZ h' r n d→K r h'):ak Tryz.prog 28 [S s] h K:=by
 refine f28 ?_
 have e1:∀g:ae,aX 37 [(.bool false),(.slice none 0 0),(.bool false),(.slice none 0 0)] g=some (pt g.length 0,g++[.arr 37 z4]):=fun _=>rfl
 simp only [Kp,e1,aE]
 refine Sm hl (fun n' d' wC r h1 x1 q1=>?_) (fun wC=>by rw [hp] at wC;cases wC)
 rw [hp] at wC
 obtain ⟨rfl,rfl⟩:n=n'∧d=d':=by injection wC with wC;injection wC with a b;exact ⟨a,b⟩
 obtain ⟨u,w,rfl,hu,hw⟩:=id q1
 have g1:=x1.get (bR (h:=h) (o:=.arr 37 z4))
 simp only [eJ,fq,fC,ah]
 rw [nN bR]
 simp only [aE]
 rw [iu (cM bR)]
 simp only [ah]
 have x2:EX h1 ((h1++[aq.arr 37 z4]).set h1.length (.arr 37 [B (decide (n<0)),u,B (decide ((d:Int)<0)),w])):=EX.set (EX.append _ _) (Nat.le_refl _) _
 have g2:=x2.get g1
 have xA:=((EX.append h [.arr 37 z4]).trans x1).trans x2
 refine qh g2 (hk _ _ (xA.set (Nat.le_refl _) _) ?_)
 exact (q1.mono x2).bH g2 _

theorem C24 {s:List UInt8} {h:ae} {K:Value→ae→Prop} (hl:s.length≤700) (hk:∀h',EX h h'→K (B (jz s).isSome) h'):ak Tryz.prog 24 [S s] h K:=by
 refine f24 ?_
 have e1:∀g:ae,aX 37 [(.bool false),(.slice none 0 0),(.bool false),(.slice none 0 0)] g=some (pt g.length 0,g++[.arr 37 z4]):=fun _=>rfl
 unfold Kl
 refine Sm hl (fun n d hp r h1 x1 q1=>?_) (fun hp h1 x1=>?_)
 ·obtain ⟨u,w,rfl,hu,hw⟩:=q1
  simp only [eJ,fq,fC,ah,e1,aE]
  rw [nN bR]
  simp only [aE]
  rw [hp] at hk
  exact hk _ (x1.trans (EX.set (EX.append _ _) (Nat.le_refl _) _))
 ·simp only [eJ,fq,fC,ah,e1,aE]
  have st:=nN (x:=B false) (y:=.slice none 0 0) (z:=B false) (w:=.slice none 0 0) (bR (h:=h1) (o:=.arr 37 z4))
  have st':aI 4 (h1++[.arr 37 z4]) (pt h1.length 0) pS=_:=st
  rw [st']
  simp only [aE]
  rw [hp] at hk
  exact hk _ (x1.trans (EX.set (EX.append _ _) (Nat.le_refl _) _))

end Go.Proofs.YtelmdbpaoifmoaaGreat


namespace Go.Proofs.YtelmdbpaoifmoaaGreat
open Go.Sim
end Go.Proofs.YtelmdbpaoifmoaaGreat


namespace Go.Proofs.YtelmdbpaoifmoaaGreat
open Go.Sim

theorem PL.zk {h h':ae} {p:Value} {js:List (Int×Int)} {bs:List Nat} (x:CX h h') (q:PL h p js bs):PL h' p js bs:=
 let ⟨i,vj,vb,a,b,c,d⟩:=q;⟨i,vj,vb,a,x _ _ b,c.zk x,NS.zk x d⟩

section
variable (js : List (Int × Int)) (bs : List Nat) (n : Nat)

structure aA9 (es:List (Int×Value)):Prop where
 val:∀s v,mJ s es=some v→∃t:Nat,s=t∧t<2^n∧v=I (jh bs js n t)
 full:(mJ (cB n:Nat) es).isSome=true
 next:∀s:Nat,s<cB n→(mJ (s:Int) es).isSome=true→∀i,i<n→iV bs s i=true→(mJ ((s ||| 2^i:Nat):Int) es).isSome=true

def xQ (es Mn:List (Int×Value)):Prop:=∀k,(mJ k es).isSome=true→(mJ k Mn).isSome=true
end

theorem xQ.refl (es:List (Int×Value)):xQ es es:=fun _ h=>h
theorem xQ.trans {a b c:List (Int×Value)} (h:xQ a b) (k:xQ b c):xQ a c:=fun x hx=>k x (h x hx)

structure IJ (im ox px cx:Nat) (p:Value) (js:List (Int×Int)) (bs:List Nat) (h:ae):Prop where
 o:aO h ox=some [.map (some im)]
 q:aO h px=some [p]
 c:aO h cx=some [.func (.func 97) #[] #[pt ox 0,pt px 0,pt cx 0]]
 pl:PL h p js bs

theorem IJ.mono {im ox px cx:Nat} {p:Value} {js:List (Int×Int)} {bs:List Nat} {h h':ae} (k:CX h h') (e:IJ im ox px cx p js bs h):IJ im ox px cx p js bs h':=
 ⟨k _ _ e.o,k _ _ e.q,k _ _ e.c,e.pl.zk k⟩

end Go.Proofs.YtelmdbpaoifmoaaGreat


namespace Go.Sim

def gC (bs:List Nat) (js:List (Int×Int)) (n s i:Nat):Int:=iJ js i*(jy js s+fa js i)+jh bs js n (s ||| 2^i)

def m8 (bs:List Nat) (js:List (Int×Int)) (n:Nat):Nat→List Nat→Prop
 | s,[]=>s=cB n
 | s,i::l=>((i<n∧iV bs s i=true)∧gC bs js n s i=jh bs js n s∧∀j,j<i→¬(iV bs s j=true∧gC bs js n s j=jh bs js n s))∧m8 bs js n (s ||| 2^i) l

theorem ahn {bs:List Nat} {n i:Nat} (hi:i<n):iV bs (cB n) i=false:=by
 unfold iV
 rw [ub,decide_eq_true hi];rfl

theorem m8.uniq {bs:List Nat} {js:List (Int×Int)} {n:Nat}:∀{l l':List Nat} {s:Nat},m8 bs js n s l→m8 bs js n s l'→l=l'
 | [],[],_,_,_=>rfl
 | [],i::l',s,h,k=>by
  have h':s=cB n:=h
  subst h'
  have:=k.1.1.2
  rw [ahn k.1.1.1] at this
  cases this
 | i::l,[],s,h,k=>by
  have k':s=cB n:=k
  subst k'
  have:=h.1.1.2
  rw [ahn h.1.1.1] at this
  cases this
 | i::l,i'::l',s,h,k=>by
  have e:i=i':=by
   rcases Nat.lt_trichotomy i i' with aC | he | qw
   ·exact absurd ⟨h.1.1.2,h.1.2.1⟩ (k.1.2.2 i aC)
   ·exact he
   ·exact absurd ⟨k.1.1.2,k.1.2.1⟩ (h.1.2.2 i' qw)
  subst e
  rw [m8.uniq h.2 k.2]

theorem m8.ok {bs:List Nat} {js:List (Int×Int)} {n:Nat} (hn:n≤10):∀{l:List Nat} {s:Nat},m8 bs js n s l→nH bs n s l=true∧rY s l=cB n∧ri js (jy js s) l=jh bs js n s
 | [],s,h=>by
  have h':s=cB n:=h
  subst h'
  exact ⟨rfl,rfl,by rw [abw];rfl⟩
 | i::l,s,h=>by
  obtain ⟨⟨⟨h1,h2⟩,h3,_⟩,h4⟩:=h
  obtain ⟨a,b,c⟩:=m8.ok hn h4
  refine ⟨?_,b,?_⟩
  ·simp only [nH,a,h2,h1,decide_true,Bool.and_self]
  ·have e:=Gu js (show i<10 by omega) (zE h2)
   have yr:iJ js i*(jy js s+fa js i)+jh bs js n (s ||| 2^i)=jh bs js n s:=h3
   simp only [ri]
   rw [←e] at yr⊢
   rw [c]
   exact yr

theorem m8.split {bs:List Nat} {js:List (Int×Int)} {n:Nat}:∀{a b:List Nat} {s:Nat},m8 bs js n s (a++b)→m8 bs js n (rY s a) b
 | [],_,_,h=>h
 | i::a,b,s,h=>m8.split (a:=a) (b:=b) (s:=s ||| 2^i) h.2

end Go.Sim


namespace Go.Proofs.YtelmdbpaoifmoaaGreat
open Go.Sim

theorem fW.ns {b:Nat} {g:ae} {v:Value} {l:List Nat} (o:fW b g 3 v (l.map fun i:Nat=>I i)) (hl:l.length≤1000):NS g v .i64 (l.map fun i:Nat=>(i:Int)):=by
 rcases o with ⟨h1,h2⟩ | ⟨a,_,h2,h3⟩
 ·have:l=[]:=by simpa using h2
  rw [this,h1]
  exact NS.nil g .i64
 ·rw [h2,List.length_map]
  have:=NS.sl (h:=g) (e:=3) (i:=a) (k:=.i64) (ns:=l.map fun i:Nat=>(i:Int)) (.inr (by simp [aO,h3])) (by simp [maxLen];omega)
  rw [List.length_map] at this
  exact this

theorem fW.base {b c:Nat} {hx:ae} {e:TypeId} {v:Value} {xs:List Value} (o:fW c hx e v xs) (h:b≤c):fW b hx e v xs:=by
 rcases o with o | ⟨i,h1,h2,h3⟩
 ·exact .inl o
 ·exact .inr ⟨i,by omega,h2,h3⟩

end Go.Proofs.YtelmdbpaoifmoaaGreat


namespace Go.Proofs.YtelmdbpaoifmoaaGreat
open Go.Sim
end Go.Proofs.YtelmdbpaoifmoaaGreat


namespace Go.Proofs.YtelmdbpaoifmoaaGreat
open Go.Sim

theorem CP.arr {h:ae} {e:TypeId} {i:Nat} {ps:List (Int×Int)} (hg:h[i]?=some (.arr e (pM ps))):CP h e (sl e i 0 ps.length) ps:=
 ⟨by rw [agd];omega,.inr ⟨i,rfl,.inr (by simp [aO,hg])⟩⟩


end Go.Proofs.YtelmdbpaoifmoaaGreat


namespace Go.Sim


theorem HV:∀(l:List Nat) (s j:Nat),(rY s l).testBit j=(s.testBit j||decide (j∈l))
 | [],s,j=>by simp [rY]
 | i::l,s,j=>by
  simp only [rY,HV l,qT]
  by_cases e:i=j
  ·subst e;simp
  ·have e':¬j=i:=fun h=>e h.symm
   simp [e,e']

structure SC (bs:List Nat) (n:Nat) (l:List Nat):Prop where
 lt:∀i∈l,i<n
 nodup:l.Nodup
 all:∀i,i<n→i∈l
 before:l.Pairwise fun a b=>(bs.getD a 0).testBit b=false
 self:∀i,i<n→∀j,(bs.getD i 0).testBit j=true→j<n∧j≠i

theorem O6 {bs:List Nat} {n:Nat}:∀{l:List Nat} {S:Nat},(∀i∈l,i<n∧S.testBit i=false)→l.Nodup→l.Pairwise (fun a b=>(bs.getD a 0).testBit b=false)→(∀i∈l,∀j,(bs.getD i 0).testBit j=true→j≠i∧(S.testBit j=true∨j∈l))→nH bs n S l=true
 | [],_,_,_,_,_=>rfl
 | i::l,S,h1,h2,h3,h4=>by
  have hn:=List.nodup_cons.1 h2
  have hp:=List.pairwise_cons.1 h3
  have hi:=h1 i (by simp)
  simp only [nH,Bool.and_eq_true,decide_eq_true_eq]
  refine ⟨⟨hi.1,?_⟩,?_⟩
  ·unfold iV
   rw [hi.2,Bool.not_false,Bool.true_and,mY]
   intro j hj
   obtain ⟨b1,b2⟩:=h4 i (by simp) j hj
   rcases b2 with b2 | b2
   ·exact b2
   ·rcases List.mem_cons.1 b2 with b2 | b2
    ·exact absurd b2 b1
    ·rw [hp.1 j b2] at hj;cases hj
  ·refine O6 (fun j hj=>?_) hn.2 hp.2 fun k hk j hj=>?_
   ·have:=h1 j (by simp [hj])
    refine ⟨this.1,?_⟩
    rw [qT,this.2,Bool.false_or]
    exact decide_eq_false fun e=>hn.1 (e ▸ hj)
   ·obtain ⟨b1,b2⟩:=h4 k (by simp [hk]) j hj
    refine ⟨b1,?_⟩
    rcases b2 with b2 | b2
    ·exact .inl (by rw [qT,b2];rfl)
    ·rcases List.mem_cons.1 b2 with b2 | b2
     ·exact .inl (by rw [qT,b2];simp)
     ·exact .inr b2

theorem SC.ok {bs:List Nat} {n:Nat} {l:List Nat} (h:SC bs n l):nH bs n 0 l=true∧rY 0 l=cB n:=by
 refine ⟨O6 (fun i hi=>⟨h.lt i hi,by simp⟩) h.nodup h.before fun i hi j hj=>?_,?_⟩
 ·obtain ⟨a,b⟩:=h.self i (h.lt i hi) j hj
  exact ⟨b,.inr (h.all j a)⟩
 ·apply Nat.eq_of_testBit_eq
  intro j
  rw [HV,ub]
  simp only [Nat.zero_testBit,Bool.false_or]
  rw [decide_eq_decide]
  exact ⟨fun hm=>h.lt j hm,fun hl=>h.all j hl⟩

def K5 (bs cs:List Nat) (n:Nat):Prop:=∀i j,i<n→j<n→(bs.getD i 0).testBit j=(cs.getD j 0).testBit i

theorem K5.symm {bs cs:List Nat} {n:Nat} (t:K5 bs cs n):K5 cs bs n:=fun i j hi hj=>(t j i hj hi).symm

end Go.Sim


namespace Go.Sim

theorem avi {bs:List Nat} {n:Nat}:∀{l:List Nat} {s:Nat},nH bs n s l=true→(l.Nodup∧∀i∈l,s.testBit i=false)∧(l.Pairwise fun a b=>(bs.getD a 0).testBit b=false)∧∀i∈l,∀j,(bs.getD i 0).testBit j=true→j≠i∧(s.testBit j=true∨j∈l):=by
 intro l
 induction l with
 | nil=>intro s _;simp
 | cons i l ih=>
  intro s h
  simp only [nH,Bool.and_eq_true,decide_eq_true_eq] at h
  obtain ⟨⟨a1,a2⟩,a3,a4⟩:=ih h.2
  have yy:=zE h.1.2
  have pB:iH (bs.getD i 0) s=true:=by
   have:=h.1.2
   unfold iV at this
   rw [Bool.and_eq_true] at this
   exact this.2
  rw [mY] at pB
  have old:∀j∈l,s.testBit j=false∧j≠i:=by
   intro j hj
   have:=a2 j hj
   rw [qT,Bool.or_eq_false_iff] at this
   exact ⟨this.1,fun e=>by subst e;simp at this⟩
  refine ⟨⟨?_,?_⟩,?_,?_⟩
  ·exact List.nodup_cons.2 ⟨fun hm=>(old i hm).2 rfl,a1⟩
  ·intro j hj
   rcases List.mem_cons.1 hj with rfl | hj
   ·exact yy
   ·exact (old j hj).1
  ·refine List.pairwise_cons.2 ⟨fun j hj=>?_,a3⟩
   cases hc:(bs.getD i 0).testBit j with
   | false=>rfl
   | true=>have:=pB j hc;rw [(old j hj).1] at this;cases this
  ·intro k hk j hj
   rcases List.mem_cons.1 hk with rfl | hk
   ·have:=pB j hj
    exact ⟨fun e=>(by subst e;rw [yy] at this;cases this),.inl this⟩
   ·obtain ⟨b1,b2⟩:=a4 k hk j hj
    refine ⟨b1,?_⟩
    rcases b2 with b2 | b2
    ·rw [qT,Bool.or_eq_true] at b2
     rcases b2 with b2 | b2
     ·exact .inl b2
     ·have:i=j:=of_decide_eq_true b2
      subst this;exact .inr (by simp)
    ·exact .inr (by simp [b2])

theorem avq {d s j:Nat} (h:d &&& s=0) (hs:s.testBit j=true):d.testBit j=false:=by
 have:=congrArg (Nat.testBit · j) h
 simp only [Nat.testBit_and,Nat.zero_testBit,hs,Bool.and_true] at this
 exact this

structure CR (bs:List Nat) (s:Nat) (l:List Nat):Prop where
 nd:l.Nodup
 mem:∀i,i∈l↔s.testBit i=true
 fit:l.Pairwise fun a b=>(bs.getD a 0).testBit b=false

theorem kh.apart {bs:List Nat} {js:List (Int×Int)} {n:Nat}:∀{os:List Nat} {d:Nat},kh bs js n d os→∀s∈os,∀i,s.testBit i=true→d.testBit i=false
 | [],_,_,s,hs,_,_=>by simp at hs
 | b::os,d,h,s,hs,i,hi=>by
  rcases List.mem_cons.1 hs with rfl | hs
  ·exact avq h.1.1.1.apart hi
  ·have:=kh.apart h.2 s hs i hi
   rw [Nat.testBit_or,Bool.or_eq_false_iff] at this
   exact this.1

end Go.Sim


namespace Go.Sim

structure Own (bs:List Nat) (js:List (Int×Int)) (s:Nat) (E:List Nat) (lh:List Nat) (qI:List (Int×Int)):Prop where
 nd:E.Nodup
 mem:∀i,i∈E↔s.testBit i=true
 len:∀k,k<E.length→fa qI k=fa js (E.getD k 0)∧iJ qI k=iJ js (E.getD k 0)
 bit:∀k,k<E.length→∀j,(lh.getD k 0).testBit j=true↔j<E.length∧(bs.getD (E.getD k 0) 0).testBit (E.getD j 0)=true

section
variable {bs lh : List Nat} {js qI : List (Int × Int)} {s : Nat} {E : List Nat}

theorem yn {E:List Nat} {k:Nat} (h:k<E.length):E.getD k 0=E[k]:=by simp [List.getD_eq_getElem?_getD,h]

theorem Own.inj (w:Own bs js s E lh qI) {a b:Nat} (ha:a<E.length) (hb:b<E.length) (h:E.getD a 0=E.getD b 0):a=b:=by
 rw [yn ha,yn hb] at h
 exact (List.getElem_inj w.nd).1 h

theorem Own.cost (w:Own bs js s E lh qI):∀(o:List Nat) (now:Int),(∀k∈o,k<E.length)→ri qI now o=ri js now (o.map fun k=>E.getD k 0)
 | [],_,_=>rfl
 | k::o,now,h=>by
  have:=w.len k (h k (by simp))
  simp only [List.map_cons,ri,this.1,this.2]
  rw [w.cost o _ fun k hk=>h k (by simp [hk])]

theorem Own.part (w:Own bs js s E lh qI) {o:List Nat} (ho:nH lh E.length 0 o=true) (hf:rY 0 o=cB E.length):CR bs s (o.map fun k=>E.getD k 0):=by
 obtain ⟨⟨nd,_⟩,pw,_⟩:=avi ho
 have aC:=Gx ho
 have eW:∀k,k<E.length→k∈o:=by
  intro k hk
  have:=HV o 0 k
  rw [hf,ub,decide_eq_true hk,Nat.zero_testBit,Bool.false_or] at this
  exact of_decide_eq_true this.symm
 refine ⟨?_,fun i=>?_,?_⟩
 ·unfold List.Nodup
  rw [List.pairwise_map]
  refine List.Pairwise.imp_of_mem (fun ha hb h=>?_) nd
  exact fun e=>h (w.inj (aC _ ha) (aC _ hb) e)
 ·rw [←w.mem,List.mem_map]
  constructor
  ·rintro ⟨k,hk,rfl⟩
   rw [yn (aC k hk)]
   exact List.getElem_mem _
  ·intro hi
   obtain ⟨k,hk,rfl⟩:=List.mem_iff_getElem.1 hi
   exact ⟨k,eW k hk,yn hk⟩
 ·rw [List.pairwise_map]
  refine List.Pairwise.imp_of_mem (fun ha hb h=>?_) pw
  cases hc:(bs.getD (E.getD _ 0) 0).testBit (E.getD _ 0) with
  | false=>rfl
  | true=>rw [(w.bit _ (aC _ ha) _).2 ⟨aC _ hb,hc⟩] at h;cases h

theorem Own.back (w:Own bs js s E lh qI) (hi:∀i,i∈E→(bs.getD i 0).testBit i=false) {l:List Nat} (p:CR bs s l):
  ∃o,nH lh E.length 0 o=true∧rY 0 o=cB E.length∧l=o.map fun k=>E.getD k 0:=by
 have inE:∀i∈l,i∈E:=fun i h=>(w.mem i).2 ((p.mem i).1 h)
 have ix:∀i∈l,E.idxOf i<E.length∧E.getD (E.idxOf i) 0=i:=by
  intro i h
  have hl:=List.idxOf_lt_length_of_mem (inE i h)
  exact ⟨hl,by rw [yn hl];exact List.getElem_idxOf hl⟩
 have hm:l=(l.map fun i=>E.idxOf i).map fun k=>E.getD k 0:=by
  rw [List.map_map]
  conv=>lhs;rw [←List.map_id l]
  exact List.map_congr_left fun i h=>(ix i h).2.symm
 have eW:∀k,k<E.length→k∈l.map fun i=>E.idxOf i:=by
  intro k hk
  have hx:E[k]∈l:=(p.mem _).2 ((w.mem _).1 (List.getElem_mem hk))
  refine List.mem_map.2 ⟨E[k],hx,?_⟩
  have h2:=ix _ hx
  exact w.inj h2.1 hk (by rw [h2.2,yn hk])
 refine ⟨l.map fun i=>E.idxOf i,?_,?_,hm⟩
 ·refine O6 (fun k hk=>?_) ?_ ?_ (fun k hk j hj=>?_)
  ·obtain ⟨i,h,rfl⟩:=List.mem_map.1 hk
   exact ⟨(ix i h).1,by simp⟩
  ·unfold List.Nodup
   rw [List.pairwise_map]
   refine List.Pairwise.imp_of_mem (fun ha hb h=>?_) p.nd
   exact fun e=>h (by rw [←(ix _ ha).2,←(ix _ hb).2,e])
  ·rw [List.pairwise_map]
   refine List.Pairwise.imp_of_mem (fun {a b} ha hb h=>?_) p.fit
   cases hc:(lh.getD (E.idxOf a) 0).testBit (E.idxOf b) with
   | false=>rfl
   | true=>
    have:=((w.bit _ (ix a ha).1 _).1 hc).2
    rw [(ix a ha).2,(ix b hb).2,h] at this
    cases this
  ·obtain ⟨i,h,rfl⟩:=List.mem_map.1 hk
   obtain ⟨h1,h2⟩:=(w.bit _ (ix i h).1 _).1 hj
   rw [(ix i h).2] at h2
   refine ⟨?_,.inr (eW j h1)⟩
   rintro rfl
   rw [(ix i h).2,hi i (inE i h)] at h2
   cases h2
 ·apply Nat.eq_of_testBit_eq
  intro j
  rw [HV,ub,Nat.zero_testBit,Bool.false_or]
  rw [decide_eq_decide]
  refine ⟨fun h=>?_,eW j⟩
  obtain ⟨i,h2,rfl⟩:=List.mem_map.1 h
  exact (ix i h2).1

theorem Own.aZ (w:Own bs js s E lh qI) (hi:∀i,i∈E→(bs.getD i 0).testBit i=false) (hj:uN qI) (hn:E.length≤10) (hu:xV lh E.length) {o:List Nat} (hg:m8 lh qI E.length 0 o):
  CR bs s (o.map fun k=>E.getD k 0)∧∀l,CR bs s l→ri js 0 (o.map fun k=>E.getD k 0)≤ri js 0 l:=by
 obtain ⟨h1,h2,h3⟩:=m8.ok hn hg
 refine ⟨w.part h1 h2,fun l hl=>?_⟩
 obtain ⟨o',p1,p2,rfl⟩:=w.back hi hl
 have:=abx hj hn hu (s:=0) (Nat.pow_pos (by decide)) p1 p2
 rw [avd] at this h3
 rw [←w.cost o 0 (Gx h1),←w.cost o' 0 (Gx p1)]
 omega

end
end Go.Sim


namespace Go.Proofs.YtelmdbpaoifmoaaGreat
open Go.Sim

theorem C29 {va vb:Value} {a b c d:Int} {h:ae} {K:Value→ae→Prop} (ha:QZ h va a b) (hb:QZ h vb c d) (la:a.natAbs<bu) (lb:b.natAbs<bu) (lc:c.natAbs<bu) (ld:d.natAbs<bu) (BO:(a*d).natAbs<bu) (Oy:(c*b).natAbs<bu)
  (hk:∀h',EX h h'→K (I (iU (a*d-c*b))) h'):ak Tryz.prog 29 [va,vb] h K:=by
 obtain ⟨u,w,rfl,hu,hw⟩:=ha
 obtain ⟨u',w',rfl,sV,lG⟩:=hb
 refine f29 ?_
 unfold Kq
 have e1:∀(g:ae) (s s':Bool) (b d:Value),bk 37 g (.agg #[B s,b,B s',d])=some (pt g.length 0,g++[.arr 37 [B s,b,B s',d]]):=fun _ _ _ _ _=>rfl
 simp only [e1,aE]
 have x1:EX h (h++[.arr 37 [B (decide (a<0)),u,B (decide (b<0)),w]]):=EX.append _ _
 have k1:(h++[aq.arr 37 [B (decide (a<0)),u,B (decide (b<0)),w]])[h.length]?=some (.arr 37 [B (decide (a<0)),u,B (decide (b<0)),w]):=bR
 generalize h++[aq.arr 37 [B (decide (a<0)),u,B (decide (b<0)),w]]=g at x1 k1⊢
 have x2:EX g (g++[.arr 37 [B (decide (c<0)),u',B (decide (d<0)),w']]):=EX.append _ _
 have k2:(g++[aq.arr 37 [B (decide (c<0)),u',B (decide (d<0)),w']])[g.length]?=some (.arr 37 [B (decide (c<0)),u',B (decide (d<0)),w']):=bR
 generalize g++[aq.arr 37 [B (decide (c<0)),u',B (decide (d<0)),w']]=g2 at x2 k2⊢
 have k1:=x2.get k1
 have xx:=x1.trans x2
 have za:ZV g2 (.agg #[B (decide (a<0)),u]) a:=⟨u,rfl,hu.mono xx⟩
 have zb:ZV g2 (.agg #[B (decide (b<0)),w]) b:=⟨w,rfl,hw.mono xx⟩
 have zc:ZV g2 (.agg #[B (decide (c<0)),u']) c:=⟨u',rfl,sV.mono xx⟩
 have zd:ZV g2 (.agg #[B (decide (d<0)),w']) d:=⟨w',rfl,lG.mono xx⟩
 have a0:=jg k1
 have a2:=lJ k1
 have b0:=jg k2
 have b2:=lJ k2
 simp only [bW,Nat.add_zero,Nat.zero_add,ah,a0,b2,true_and]
 refine nP za zd la ld ?_
 intro r3 g3 x3 z3
 simp only [EX.load x3 b0,EX.load x3 a2,ah,b0,a2,true_and]
 refine nP (zc.mono x3) (zb.mono x3) lc lb ?_
 intro r4 g4 x4 qZ
 refine ID (z3.mono x4) qZ BO Oy ?_
 intro g5 x5
 exact hk g5 (xx.trans (x3.trans (x4.trans x5)))


end Go.Proofs.YtelmdbpaoifmoaaGreat


namespace Go.Proofs.YtelmdbpaoifmoaaGreat
open Go.Sim
end Go.Proofs.YtelmdbpaoifmoaaGreat


namespace Go.Proofs.YtelmdbpaoifmoaaGreat
open Go.Sim

theorem aqz {a k:Nat} (ha:a<10^k) (hk:1≤k) (hb:a<bu):(lj a).length≤k:=by
 obtain ⟨d1,d2,d3,d4,d5⟩:=Yn hb
 cases e:lj a with
 | nil=>simp
 | cons c r=>
  rw [e] at d1 d4 d5
  by_cases hc:c=48
  ·have:=d4 (by rw [hc];rfl)
   omega
  ·have h1:=d1 c (by simp)
   rw [Rv] at d5
   have h2:c.toNat≠48:=fun h=>hc (UInt8.toNat_inj.1 h)
   have h3:=Nat.mul_le_mul_right (10^r.length) (show 1≤c.toNat-48 by omega)
   have h4:10^r.length<10^k:=by omega
   have:=(Nat.pow_lt_pow_iff_right (show 1<10 by decide)).1 h4
   simp;omega

end Go.Proofs.YtelmdbpaoifmoaaGreat


namespace Go.Proofs.YtelmdbpaoifmoaaGreat
open Go.Sim

theorem avw {s:List UInt8} {n:Int} {d:Nat} (h:jz s=some (n,d)):0<d∧Nat.gcd n.natAbs d=1:=by
 rw [Ha] at h
 unfold pL at h
 split at h
 ·rename_i hc
  injection h with h
  injection h with h1 h2
  have e:=(HL (m:=decide (s.head?=some 45)) (n:=cg (cU (dW s)))).2
  have hn:n.natAbs=cg (cU (dW s)):=by rw [←h1];exact e
  rw [hn,←h2]
  unfold nV
  have hd:=hc.1
  unfold nm at hd
  split
  ·rename_i hs
   rw [hs,Bool.not_true,Bool.false_or,Bool.and_eq_true,Bool.and_eq_true,decide_eq_true_eq,decide_eq_true_eq] at hd
   exact ⟨by omega,hd.2.2⟩
  ·exact ⟨by decide,Nat.gcd_one_right _⟩
 ·cases h

theorem au4 {n:Int} {d:Nat} (h0:0<d) (hg:Nat.gcd n.natAbs d=1):(mkRat n d).num=n∧(mkRat n d).den=d:=by
 obtain ⟨e1,e2⟩:=zi (N:=n) h0
 rw [hg] at e1 e2
 exact ⟨by rw [e1];simp,by rw [e2];simp⟩

def bP (s:List UInt8):Rat:=match jz s with | some (n,d)=>mkRat n d | none=>0
def isNum (s:List UInt8):Bool:=(jz s).isSome

theorem QS {s:List UInt8} {n:Int} {d:Nat} (h:jz s=some (n,d)):(bP s).num=n∧(bP s).den=d:=by
 obtain ⟨h1,h2⟩:=avw h
 have:=au4 h1 h2
 unfold bP
 rw [h]
 exact this

theorem aaX {s:List UInt8} (h:isNum s=true):jz s=some ((bP s).num,(bP s).den):=by
 unfold isNum at h
 cases e:jz s with
 | none=>rw [e] at h;cases h
 | some q=>
  obtain ⟨n,d⟩:=q
  obtain ⟨e1,e2⟩:=QS e
  rw [e1,e2]

theorem aiH {h:ae} {K:Value→ae→Prop} {s:List UInt8} (hl:s.length≤700)
  (hk:isNum s=true→∀r h',EX h h'→RV h' r (bP s)→K (.tuple #[r,B true]) h')
  (fD:isNum s=false→∀a b c e h',EX h h'→K (.tuple #[.agg #[a,b,c,e],B false]) h'):ak Tryz.prog 108 [S s] h K:=by
 refine aiG hl (fun n d hp r h' x hr=>?_) (fun hp=>fD (by unfold isNum;rw [hp];rfl))
 obtain ⟨e1,e2⟩:=QS hp
 refine hk (by unfold isNum;rw [hp];rfl) r h' x ?_
 unfold RV
 rw [e1,e2]
 exact hr

theorem Yo {a k:Nat} (hk:1≤k) (hb:a<bu):(lj a).length≤k↔a<10^k:=by
 constructor
 ·intro h
  obtain ⟨d1,_,_,_,d5⟩:=Yn hb
  have:=uP d1
  rw [d5] at this
  exact Nat.lt_of_lt_of_le this (Nat.pow_le_pow_right (by decide) h)
 ·intro h
  exact aqz h hk hb

def sC (k:Nat) (q:Rat):Bool:=decide (q.num.natAbs<10^k)&&decide (q.den<10^k)

theorem C84 {h:ae} {K:Value→ae→Prop} {va:Value} {p:Rat} {i k:Nat} (ha:RV h va p) (sp:cw i p) (hi:i≤900) (kN:1≤k) (_:k≤1000) (hk:∀h',EX h h'→K (B (sC k p)) h'):ak Tryz.prog 84 [va,I k] h K:=by
 obtain ⟨u,w,rfl,hu,hw⟩:=ha
 obtain ⟨l1,l2⟩:=sp.dZ hi
 rw [Int.natAbs_natCast] at hw
 refine f84 ?_
 have e1:∀(g:ae) (s t:Bool) (v w:Value),bk 107 g (.agg #[B s,v,B t,w])=some (pt g.length 0,g++[.arr 107 [B s,v,B t,w]]):=fun _ _ _ _ _=>rfl
 simp only [KU,e1,aE]
 generalize decide ((p.den:Int)<0)=t1 at*
 have q0:EX h (h++[.arr 107 [B (decide (p.num<0)),u,B t1,w]]):=EX.append _ _
 have p0:(h++[aq.arr 107 [B (decide (p.num<0)),u,B t1,w]])[h.length]?=some (.arr 107 [B (decide (p.num<0)),u,B t1,w]):=bR
 generalize h++[aq.arr 107 [B (decide (p.num<0)),u,B t1,w]]=ga at q0 p0⊢
 have pJ:af false 1 ga (pt h.length 1)=some u:=by simp [af,aO,p0,ck]
 simp only [bW,Nat.zero_add,Nat.add_zero,ah,pJ]
 refine Su (hu.mono q0) l1 ?_
 intro g1 x1
 have ld3:af false 1 g1 (pt h.length 3)=some w:=by simp [af,aO,x1.get p0,ck]
 have d1:decide (((lj p.num.natAbs).length:Int)≤(k:Int))=decide (p.num.natAbs<10^k):=by
  rw [decide_eq_decide]
  have:=Yo kN l1
  omega
 simp only [kC,ah,rf,d1]
 rw [aym]
 unfold sC at hk
 by_cases h1:p.num.natAbs<10^k
 ·rw [decide_eq_true h1] at hk⊢
  simp only [fy,bW,ah,ld3]
  refine Su ((hw.mono q0).mono x1) l2 ?_
  intro g2 x2
  have d2:decide (((lj p.den).length:Int)≤(k:Int))=decide (p.den<10^k):=by
   rw [decide_eq_decide]
   have:=Yo kN l2
   omega
  simp only [kC,ah,rf,d2]
  rw [ahc]
  simp only [dA,ah]
  rw [Bool.true_and] at hk
  exact hk g2 (q0.trans (x1.trans x2))
 ·rw [decide_eq_false h1] at hk⊢
  simp only [iz]
  rw [ahc]
  simp only [cY,ah]
  exact hk g1 (q0.trans x1)

end Go.Proofs.YtelmdbpaoifmoaaGreat


namespace Go.Proofs.YtelmdbpaoifmoaaGreat
open Go.Sim
variable (P : Program) (K : VK)
/-! F80: pommel/mend.numbers -/
noncomputable section
variable (c0 x4 aG ay az : Value) (L1 : LQ) (xs : List Value) (h : ae)
def ac7:=bw Tryz.prog 80 [[],[],[],[10,11],[4,12],[],[],[],[],[],[],[],[],[4],[]]
@[irreducible] def Ex:=bE ac7
@[irreducible] def apu:=Ex.r.r.l.r.l.l
@[irreducible] def Xz:=Ex.r.r.r
@[irreducible] def apt:=Xz.l
theorem k80:ac7=some (29,Ex,[.tmp 2,.tmp 3]):=by kernel_rfl
def Jr (_P:Program) (K:VK):ar:=aR [.tmp 2,.tmp 3] K
def al7:ar:=aD (aj P Xz (Jr P K)) (Jr P K)
def al8:ar:=bz 0 (al7 P K)
def al9:ar:=aD (fun f' aS=>(([10,11]:List Nat).map f':List Value)=[aG,ay]∧L1 (([4,12]:List Nat).map f') aS) (al8 P K)
def afJ:Prop:=av (aj P apu (al9 P K aG ay L1)) ([10,11]++[4,12]) ([aG,ay]++xs) h
def afI:Prop:=av (aj P apt (Jr P K)) [4] [x4] h
theorem ayk (aG ay:Value) (L1:LQ) (x4 az:Value) (h:ae):afJ P K aG ay L1 [x4,az] h=
 (OP (ai .lss az ay) fun aA=>
 aM aA
 (OP (aU 1 aG az) fun aP=>
 OP (af false 1 h aP) fun bc=>
 ak P 108 [bc] h fun aQ h_1=>
 OP (cC 0 aQ) fun aN=>
 OP (cC 1 aQ) fun aW=>
 OH (aX 107 [(.bool false),(.slice none 0 0),(.bool false),(.slice none 0 0)] h_1) fun x7 h_2=>
 OH (aI 4 h_2 x7 aN) fun _ h_3=>
 OP (fA .not aW) fun bJ=>
 aM bJ
 (K (.tuple #[(.slice none 0 0),(.bool false)]) h_3)
 (OP (af true 4 h_3 x7) fun bM=>
 OH (dh 107 1 [(.bool false),(.slice none 0 0),(.bool false),(.slice none 0 0)] h_3 [(0,4,bM)]) fun bt h_4=>
 OH (dj 107 4 64 h_4 x4 bt) fun bC h_5=>
 OP (ai .add az (.int .i64 (1))) fun bD=>
 ([aG,ay]:List Value)=[aG,ay]∧L1 [bC,bD] h_5))
 (afI P K x4 h)):=ax (by kernel_rfl)
theorem ayj:afI P K x4 h=
 (K (.tuple #[x4,(.bool true)]) h):=ax (by kernel_rfl)
def KQ:Prop:=
 OH (bk 24 h c0) fun c1 h_1=>
 OP (aK 0 c1) fun x9=>
 OP (af false 1 h_1 x9) fun aG=>
 OP (aY aG) fun ay=>
 cG [(.slice none 0 0),(.int .i64 (0))] h_1 fun L1 xs hx=>
 afJ P K aG ay L1 xs hx
theorem e80:aj P Ex (aR [.tmp 2,.tmp 3] K) (bp [c0]) h=KQ P K c0 h:=by kernel_rfl
theorem f80 {K:VK} {c0:Value} {h:ae} (H:KQ Tryz.prog K c0 h):ak Tryz.prog 80 [c0] h K:=
 bF k80 (Nat.le_of_ble_eq_true rfl) ((e80 Tryz.prog K c0 h).mpr H)
end
/-! F82: slices.ContainsFunc[[]pommel/num.Rat,pommel/num.Rat] -/
noncomputable section
variable (s0 f1 : Value) (h : ae)
def ac9:=bw Tryz.prog 82 [[],[]]
@[irreducible] def XB:=bE ac9
theorem k82:ac9=some (9,XB,[.tmp 4]):=by kernel_rfl
def KS:Prop:=
 ak P 110 [s0,f1] h fun x7 h_1=>
 OP (ai .geq x7 (.int .i64 (0))) fun x8=>
 K x8 h_1
theorem e82:aj P XB (aR [.tmp 4] K) (bp [s0,f1]) h=KS P K s0 f1 h:=by kernel_rfl
theorem f82 {K:VK} {s0 f1:Value} {h:ae} (H:KS Tryz.prog K s0 f1 h):ak Tryz.prog 82 [s0,f1] h K:=
 bF k82 (Nat.le_of_ble_eq_true rfl) ((e82 Tryz.prog K s0 f1 h).mpr H)
end
/-! F83: pommel/mend.chances$1 -/
noncomputable section
variable (x0 x1 x6 x9 : Value) (h : ae)
def ada:=bw Tryz.prog 83 [[],[1,6],[6,9],[]]
@[irreducible] def Ey:=bE ada
@[irreducible] def XC:=Ey.r.l.r.l
@[irreducible] def apv:=Ey.r.r
@[irreducible] def apw:=XC.r.l
theorem k83:ada=some (11,Ey,[.tmp 2]):=by kernel_rfl
def TQ (_P:Program) (K:VK):ar:=aR [.tmp 2] K
def TR:ar:=aD (aj P apv (TQ P K)) (TQ P K)
def afK:Prop:=av (aj P XC (TR P K)) [1,6] [x1,x6] h
def P8:Prop:=av (aj P apw (TR P K)) [6,9] [x6,x9] h
theorem ahb:P8 P K x6 x9 h=
 (OP (bL x6 (.bool true) x9) fun aG=>
 K aG h):=ax (by kernel_rfl)
theorem ayl:afK P K x1 x6 h=
 (bZ x6 false
 (OP (af true 4 h x1) fun x7=>
 ak P 84 [x7,(.int .i64 (4))] h fun x8 h_1=>
 OP (fA .not x8) fun x9=>
 P8 P K x6 x9 h_1)
 (P8 P K x6 undef h)):=ax (by kernel_rfl)
def KT:Prop:=
 OH (bk 107 h x0) fun x1 h_1=>
 OP (af true 4 h_1 x1) fun x3=>
 ak P 81 [x3] h_1 fun x4 h_2=>
 OP (ai .lss x4 (.int .i64 (0))) fun x5=>
 afK P K x1 x5 h_2
theorem e83:aj P Ey (aR [.tmp 2] K) (bp [x0]) h=KT P K x0 h:=by kernel_rfl
theorem f83 {K:VK} {x0:Value} {h:ae} (H:KT Tryz.prog K x0 h):ak Tryz.prog 83 [x0] h K:=
 bF k83 (Nat.le_of_ble_eq_true rfl) ((e83 Tryz.prog K x0 h).mpr H)
end
/-! F85: (pommel/mend.lucky).above -/
noncomputable section
variable (j0 x1 x4 x5 az aA aP : Value) (L1 : LQ) (xs : List Value) (h : ae)
def ade:=bw Tryz.prog 85 [[],[],[],[4,5,12,13],[14],[],[],[],[],[4,5],[]]
@[irreducible] def EA:=bE ade
@[irreducible] def apA:=EA.r.r.l.r.l.l
@[irreducible] def XE:=EA.r.r.r
@[irreducible] def apz:=XE.l
theorem k85:ade=some (23,EA,[.cell true 4 4]):=by kernel_rfl
def Js (_P:Program) (K:VK):ar:=aR [.cell true 4 4] K
def ama:ar:=aD (aj P XE (Js P K)) (Js P K)
def amb:ar:=bz 0 (ama P K)
def amc:ar:=aD (fun f' aS=>(([4,5,12,13]:List Nat).map f':List Value)=[x4,x5,az,aA]∧L1 (([14]:List Nat).map f') aS) (amb P K)
def afN:Prop:=av (aj P apA (amc P K x4 x5 az aA L1)) ([4,5,12,13]++[14]) ([x4,x5,az,aA]++xs) h
def afM:Prop:=av (aj P apz (Js P K)) [4,5] [x4,x5] h
theorem ayo (x4 x5 az aA:Value) (L1:LQ) (aP:Value) (h:ae):afN P K x4 x5 az aA L1 [aP] h=
 (OP (ai .lss aP aA) fun bc=>
 aM bc
 (OP (aU 4 az aP) fun a9=>
 OP (af true 4 h a9) fun bQ=>
 OH (aX 107 [(.bool false),(.slice none 0 0),(.bool false),(.slice none 0 0)] h) fun x7 h_1=>
 OH (aI 4 h_1 x7 bQ) fun _ h_2=>
 OP (af true 4 h_2 x5) fun aQ=>
 OP (af true 4 h_2 x7) fun aN=>
 ak P 87 [aQ,aN] h_2 fun aW h_3=>
 OH (aI 4 h_3 x5 aW) fun _ h_4=>
 OP (ai .add aP (.int .i64 (1))) fun bm=>
 ([x4,x5,az,aA]:List Value)=[x4,x5,az,aA]∧L1 [bm] h_4)
 (afM P K x4 x5 h)):=ax (by kernel_rfl)
theorem ayn:afM P K x4 x5 h=
 (OP (af true 4 h x5) fun bJ=>
 OH (aI 4 h x4 bJ) fun _ h_1=>
 OP (af true 4 h_1 x4) fun r0=>
 K r0 h_1):=ax (by kernel_rfl)
def KV:Prop:=
 OH (bk 102 h j0) fun j2 h_1=>
 OH (aX 107 [(.bool false),(.slice none 0 0),(.bool false),(.slice none 0 0)] h_1) fun x4 h_2=>
 ak P 75 [(.int .i64 (0))] h_2 fun x8 h_3=>
 OH (aX 107 [(.bool false),(.slice none 0 0),(.bool false),(.slice none 0 0)] h_3) fun x5 h_4=>
 OH (aI 4 h_4 x5 x8) fun _ h_5=>
 OP (aK 2 j2) fun x9=>
 OP (af false 1 h_5 x9) fun aG=>
 OP (j5 107 4 aG (some x1) none) fun az=>
 OP (aY az) fun aA=>
 cG [(.int .i64 (0))] h_5 fun L1 xs hx=>
 afN P K x4 x5 az aA L1 xs hx
theorem e85:aj P EA (aR [.cell true 4 4] K) (bp [j0,x1]) h=KV P K j0 x1 h:=by kernel_rfl
theorem f85 {K:VK} {j0 x1:Value} {h:ae} (H:KV Tryz.prog K j0 x1 h):ak Tryz.prog 85 [j0,x1] h K:=
 bF k85 (Nat.le_of_ble_eq_true rfl) ((e85 Tryz.prog K j0 x1 h).mpr H)
end
/-! F110: slices.IndexFunc[[]pommel/num.Rat,pommel/num.Rat] -/
noncomputable section
variable (s0 f1 x7 x8 : Value) (L1 : LQ) (xs : List Value) (h : ae)
def abZ:=bw Tryz.prog 110 [[],[],[0,1,7],[8],[],[],[],[],[],[],[],[]]
@[irreducible] def DH:=bE abZ
@[irreducible] def am9:=DH.r.l.r.l.l
@[irreducible] def am8:=DH.r.r
theorem at8:abZ=some (19,DH,[.tmp 4]):=by kernel_rfl
def SN (_P:Program) (K:VK):ar:=aR [.tmp 4] K
def ajO:ar:=aD (aj P am8 (SN P K)) (SN P K)
def ajP:ar:=bz 0 (ajO P K)
def ajQ:ar:=aD (fun f' aS=>(([0,1,7]:List Nat).map f':List Value)=[s0,f1,x7]∧L1 (([8]:List Nat).map f') aS) (ajP P K)
def adS:Prop:=av (aj P am9 (ajQ P K s0 f1 x7 L1)) ([0,1,7]++[8]) ([s0,f1,x7]++xs) h
theorem av0 (s0 f1 x7:Value) (L1:LQ) (x8:Value) (h:ae):adS P K s0 f1 x7 L1 [x8] h=
 (OP (ai .lss x8 x7) fun x9=>
 aM x9
 (OP (aU 4 s0 x8) fun aP=>
 OP (af true 4 h aP) fun bc=>
 uZ P f1 [bc] h fun a9 h_1=>
 aM a9
 (K x8 h_1)
 (OP (ai .add x8 (.int .i64 (1))) fun aQ=>
 ([s0,f1,x7]:List Value)=[s0,f1,x7]∧L1 [aQ] h_1))
 (K (.int .i64 (-1)) h)):=ax (by kernel_rfl)
def JO:Prop:=
 OP (aY s0) fun x7=>
 cG [(.int .i64 (0))] h fun L1 xs hx=>
 adS P K s0 f1 x7 L1 xs hx
theorem aqR:aj P DH (aR [.tmp 4] K) (bp [s0,f1]) h=JO P K s0 f1 h:=by kernel_rfl
theorem f110 {K:VK} {s0 f1:Value} {h:ae} (H:JO Tryz.prog K s0 f1 h):ak Tryz.prog 110 [s0,f1] h K:=
 bF at8 (Nat.le_of_ble_eq_true rfl) ((aqR Tryz.prog K s0 f1 h).mpr H)
end
end Go.Proofs.YtelmdbpaoifmoaaGreat

namespace Go.Proofs.YtelmdbpaoifmoaaGreat
open Go.Sim

def oI (qs:List Rat):List (Int×Int):=qs.map fun q=>(q.num,(q.den:Int))
def QL (h:ae) (v:Value) (qs:List Rat):Prop:=oT h v (oI qs)
theorem QL.mono {h h':ae} {v:Value} {qs:List Rat} (x:EX h h') (p:QL h v qs):QL h' v qs:=oT.mono x p
theorem xo (qs:List Rat):(oI qs).length=qs.length:=by simp [oI]
theorem QL.len {h:ae} {v:Value} {qs:List Rat} (p:QL h v qs):aY v=some (I qs.length):=by have:=oT.len p;rwa [xo] at this
theorem QL.get {h:ae} {v:Value} {qs:List Rat} (p:QL h v qs) {k:Nat} (hk:k<qs.length):∃i o r,aU 4 v (I k)=some (pt i o)∧af true 4 h (pt i o)=some r∧RV h r qs[k]:=by
 obtain ⟨i,o,r,g1,g2,g3⟩:=oT.get p (k:=k) (by rw [xo];exact hk)
 refine ⟨i,o,r,g1,g2,?_⟩
 unfold RV
 simpa [oI] using g3

theorem RV.agg {h:ae} {v:Value} {q:Rat} (p:RV h v q):∃a b c d,v=.agg #[B a,b,B c,d]:=by
 obtain ⟨u,w,rfl,_⟩:=p
 exact ⟨_,_,_,_,rfl⟩

section
variable {h : ae} {K : Value → ae → Prop}

theorem C80 {vs:Value} {w:Int} {ls:List (List UInt8)} (hv:SS h vs ls) (hl:∀s∈ls,s.length≤700) (hn:ls.length≤1000)
  (hk:ls.all isNum=true→∀v h' b,EX h h'→lU b h' v (oI (ls.map bP))→K (.tuple #[v,B true]) h')
  (fD:ls.all isNum=false→∀h',EX h h'→K (.tuple #[.slice none 0 0,B false]) h'):ak Tryz.prog 80 [.agg #[vs,I w]] h K:=by
 refine f80 ?_
 have e1:bk 24 h (.agg #[vs,I w])=some (pt h.length 0,h++[.arr 24 [vs,I w]]):=rfl
 simp only [KQ,e1,aE]
 have x0:EX h (h++[.arr 24 [vs,I w]]):=EX.append _ _
 have k0:(h++[aq.arr 24 [vs,I w]])[h.length]?=some (.arr 24 [vs,I w]):=bR
 generalize h++[aq.arr 24 [vs,I w]]=g0 at x0 k0⊢
 have ld:af false 1 g0 (pt h.length 0)=some vs:=by simp [af,aO,k0,ck]
 have hlen:=hv.len
 simp only [bW,Nat.add_zero,ah,ld,hlen]
 refine dc (σ:=Nat×Value×ae) (fun q=>[q.2.1,I q.1]) (fun q=>q.2.2) (fun q=>q.1≤ls.length∧EX g0 q.2.2∧(ls.take q.1).all isNum=true∧lU g0.length q.2.2 q.2.1 (oI ((ls.take q.1).map bP))) (fun q=>ls.length-q.1)
  (0,.slice none 0 0,g0) rfl rfl ⟨Nat.zero_le _,EX.refl _,by simp,by simpa [oI] using lU.start g0.length g0⟩ ?_
 rintro ⟨i,vo,g⟩ ⟨hi,xg,eW,own⟩ L hL
 simp only at hi xg eW own hL⊢
 rw [ayk]
 simp only [cI,ah,bK]
 refine ⟨fun aC=>?_,fun cH=>?_⟩
 ·have bf:i<ls.length:=by omega
  obtain ⟨b,o,r1,r2⟩:=(hv.mono (x0.trans xg)).get i bf
  simp only [r1,r2,ah]
  have e7:∀(g:ae),aX 107 [(.bool false),(.slice none 0 0),(.bool false),(.slice none 0 0)] g=some (pt g.length 0,g++[.arr 107 z4]):=fun _=>rfl
  refine aiH (hl _ (List.getElem_mem bf)) (fun rF r g1 x1 hr=>?_) (fun rF a b c e g1 x1=>?_)
  ·obtain ⟨a,b',c,d,rfl⟩:=hr.agg
   simp only [eJ,fq,fC,ah,e7,aE]
   rw [nN bR]
   simp only [aE,nO,ah,Bool.not_true,dp]
   rw [iu (cM bR)]
   simp only [ah]
   have x2:EX g1 ((g1++[aq.arr 107 z4]).set g1.length (.arr 107 [B a,b',B c,d])):=EX.set (EX.append _ _) (Nat.le_refl _) _
   generalize (g1++[aq.arr 107 z4]).set g1.length (.arr 107 [B a,b',B c,d])=g2 at x2⊢
   have az:=x1.trans x2
   refine (own.ex az).app (xg.trans az) (hr.mono x2) rfl (by rw [xo,List.length_map,List.length_take];omega) ?_
   intro v' g3 x3 _ B3
   simp only [cD,ah,inc i (by omega),true_and]
   refine hL (i+1,v',g3) ⟨by show i+1≤_;omega,x3,?_,?_⟩ (by show ls.length-(i+1)<ls.length-i;omega)
   ·show (ls.take (i+1)).all isNum=true
    rw [List.take_succ_eq_append_getElem bf,List.all_append,eW]
    simpa using rF
   ·show lU g0.length g3 v' (oI ((ls.take (i+1)).map bP))
    rw [List.take_succ_eq_append_getElem bf,List.map_append]
    simpa [oI] using B3
  ·simp only [eJ,fq,fC,ah,e7,aE]
   rw [nN bR]
   simp only [aE,nO,ah,Bool.not_false,di]
   refine fD ?_ _ ((x0.trans (xg.trans x1)).trans (EX.set (EX.append _ _) (Nat.le_refl _) _))
   cases he:ls.all isNum with
   | false=>rfl
   | true=>rw [List.all_eq_true] at he;rw [he _ (List.getElem_mem bf)] at rF;cases rF
 ·have fN:i=ls.length:=by omega
  subst fN
  rw [List.take_length] at eW own
  rw [ayj]
  exact hk eW vo g _ (x0.trans xg) own

end
end Go.Proofs.YtelmdbpaoifmoaaGreat


namespace Go.Proofs.YtelmdbpaoifmoaaGreat
open Go.Sim

def eA (qs:List Rat):Rat:=qs.foldl (·+·) 0
theorem zN {qs:List Rat} {i:Nat} (h:i<qs.length):eA (qs.take (i+1))=eA (qs.take i)+qs[i]:=by
 unfold eA
 rw [List.take_succ_eq_append_getElem h,List.foldl_append]
 rfl

theorem OQ {N:Int} {D k:Nat} (hD:0<D) (h1:N.natAbs<10^k) (h2:D<10^k):cw k (mkRat N D):=by
 obtain ⟨e1,e2⟩:=zi (N:=N) hD
 have hg:0<Nat.gcd N.natAbs D:=Nat.gcd_pos_of_pos_right _ hD
 refine ⟨?_,?_⟩
 ·rw [e1]
  have hd:(Nat.gcd N.natAbs D:Int) ∣ N:=Int.ofNat_dvd_left.2 (Nat.gcd_dvd_left ..)
  rw [Int.natAbs_ediv_of_dvd hd,Int.natAbs_natCast]
  exact Nat.lt_of_le_of_lt (Nat.div_le_self ..) h1
 ·rw [e2];exact Nat.lt_of_le_of_lt (Nat.div_le_self ..) h2

theorem cw.add {i j:Nat} {p q:Rat} (hp:cw i p) (hq:cw j q):cw (i+j+1) (p+q):=by
 obtain ⟨c1,c2,c3,_⟩:=vI hp hq
 rw [K7]
 have h1:10^(i+j+1)=10^(i+j)*10:=Nat.pow_succ ..
 refine OQ (Nat.mul_pos p.den_pos q.den_pos) ?_ ?_
 ·rw [h1];generalize 10^(i+j)=Z at*;omega
 ·rw [h1];generalize 10^(i+j)=Z at*;omega
theorem cw.mul {i j:Nat} {p q:Rat} (hp:cw i p) (hq:cw j q):cw (i+j) (p*q):=by
 obtain ⟨_,_,c3,c4⟩:=vI hp hq
 rw [OR]
 exact OQ (Nat.mul_pos p.den_pos q.den_pos) c4 c3
theorem cw.div {i j:Nat} {p q:Rat} (hp:cw i p) (hq:cw j q) (h0:0<q.num):cw (i+j) (p / q):=by
 obtain ⟨c1,c2,_,_⟩:=vI hp hq
 rw [Yu h0]
 refine OQ (Nat.mul_pos p.den_pos (by omega)) c1 ?_
 rw [Int.natAbs_mul,Int.natAbs_natCast,Nat.mul_comm] at c2
 have:q.num.toNat=q.num.natAbs:=by omega
 rw [this];exact c2
theorem cw.le {i j:Nat} {p:Rat} (h:cw i p) (dG:i≤j):cw j p:=
 ⟨Nat.lt_of_lt_of_le h.1 (Nat.pow_le_pow_right (by decide) dG),Nat.lt_of_lt_of_le h.2 (Nat.pow_le_pow_right (by decide) dG)⟩
theorem cw.zero:cw 1 (0:Rat):=by constructor <;> decide

theorem xw {qs:List Rat} (h:∀q∈qs,cw 4 q):∀i,i≤qs.length→cw (5*i+1) (eA (qs.take i))
 | 0,_=>by rw [List.take_zero];exact cw.zero
 | i+1,hi=>by
  rw [zN (by omega)]
  exact ((xw h i (by omega)).add (h _ (List.getElem_mem (by omega)))).le (by omega)

theorem RV.bH {h:ae} {v:Value} {q:Rat} {j:Nat} {e:TypeId} {s:Bool} {r:List Value} (p:RV h v q) (hj:h[j]?=some (.arr e (.bool s::r))) (o:aq):RV (h.set j o) v q:=gN.bH p hj o

theorem QL.from {h:ae} {v:Value} {qs:List Rat} (p:QL h v qs) {k:Nat} (hk:k≤qs.length):∃v',j5 107 4 v (some (I k)) none=some v'∧QL h v' (qs.drop k):=by
 obtain ⟨rows,a,b,c⟩:=p
 rw [xo] at b
 obtain ⟨v',e1,e2⟩:=a.from (k:=k) (by omega)
 refine ⟨v',e1,rows.drop k,e2,by simp [oI];omega,fun j row q h1 h2=>?_⟩
 rw [List.getElem?_drop] at h1
 refine c (k+j) row q h1 ?_
 rw [←h2]
 unfold oI
 rw [List.getElem?_map,List.getElem?_map,List.getElem?_drop]

section
variable {h : ae} {K : Value → ae → Prop}

theorem St {v:Value} {n w:Int} {age:Nat} {qs:List Rat} (hq:QL h v qs) (ha:age≤qs.length) (hs:∀q∈qs,cw 4 q) (hn:qs.length≤20) (hk:∀r h',EX h h'→RV h' r (eA (qs.drop age))→K r h'):
  ak Tryz.prog 85 [.agg #[I n,I w,v],I age] h K:=by
 obtain ⟨rows,rs,_,_⟩:=id hq
 obtain ⟨t1,t2⟩:=rs.one
 refine f85 ?_
 have e1:bk 102 h (.agg #[I n,I w,v])=some (pt h.length 0,h++[.arr 102 [I n,I w,v]]):=rfl
 have e7:∀(g:ae),aX 107 [(.bool false),(.slice none 0 0),(.bool false),(.slice none 0 0)] g=some (pt g.length 0,g++[.arr 107 z4]):=fun _=>rfl
 simp only [KV,e1,e7,aE]
 have x0:EX h (h++[.arr 102 [I n,I w,v]]):=EX.append _ _
 have k0:(h++[aq.arr 102 [I n,I w,v]])[h.length]?=some (.arr 102 [I n,I w,v]):=bR
 generalize h++[aq.arr 102 [I n,I w,v]]=g0 at x0 k0⊢
 have x1:EX g0 (g0++[.arr 107 z4]):=EX.append _ _
 have k1:(g0++[aq.arr 107 z4])[g0.length]?=some (.arr 107 z4):=bR
 generalize g0++[aq.arr 107 z4]=g1 at x1 k1⊢
 refine xG (n:=0) (by decide) (by decide) ?_
 intro r2 g2 x2 yM
 obtain ⟨a,b,c,d,rfl⟩:=yM.agg
 have x3:EX g2 (g2++[.arr 107 z4]):=EX.append _ _
 have k3:(g2++[aq.arr 107 z4])[g2.length]?=some (.arr 107 z4):=bR
 generalize g2++[aq.arr 107 z4]=g3 at x3 k3⊢
 have yN:=yM.mono x3
 rw [nN k3]
 simp only [aE]
 have hl0:=x0.1
 have yH:=x1.1
 have od:=x2.1
 have FJ:=(List.getElem?_eq_some_iff.1 k1).1
 have k4:(g3.set g2.length (.arr 107 [B a,b,B c,d]))[g2.length]?=some (.arr 107 [B a,b,B c,d]):=cM k3
 have wE:RV (g3.set g2.length (.arr 107 [B a,b,B c,d])) (.agg #[B a,b,B c,d]) 0:=by
  have:=yN.bH k3 (.arr 107 [B a,b,B c,d])
  simpa using this
 have x4:EX g2 (g3.set g2.length (.arr 107 [B a,b,B c,d])):=x3.set (Nat.le_refl _) _
 generalize g3.set g2.length (.arr 107 [B a,b,B c,d])=g4 at k4 wE x4⊢
 have zS:=x0.trans (x1.trans x2)
 have jx:=(x2.trans x4).get k1
 have ld:af false 1 g4 (pt h.length 2)=some v:=by simp [af,aO,(x1.trans (x2.trans x4)).get k0,ck]
 obtain ⟨v',s1,s2⟩:=(hq.mono zS).from ha
 have hlen:=s2.len
 simp only [bW,Nat.zero_add,ah,ld,s1,hlen]
 have hsd:∀q∈qs.drop age,cw 4 q:=fun q hm=>hs q (List.mem_of_mem_drop hm)
 have ny:(qs.drop age).length≤20:=by rw [List.length_drop];omega
 generalize qs.drop age=ps at*
 refine dc (σ:=Nat×ae×(Bool×Value×Bool×Value)) (fun q=>[I q.1]) (fun q=>q.2.1)
  (fun q=>q.1≤ps.length∧EX g2 q.2.1∧q.2.1[g2.length]?=some (.arr 107 [B q.2.2.1,q.2.2.2.1,B q.2.2.2.2.1,q.2.2.2.2.2])∧q.2.1[g0.length]?=some (.arr 107 z4)∧RV q.2.1 (.agg #[B q.2.2.1,q.2.2.2.1,B q.2.2.2.2.1,q.2.2.2.2.2]) (eA (ps.take q.1))) (fun q=>ps.length-q.1)
  (0,g4,a,b,c,d) rfl rfl ⟨Nat.zero_le _,x4,k4,jx,wE⟩ ?_
 rintro ⟨i,g,a,b,c,d⟩ ⟨hi,xg,kg,kz,hr⟩ L hL
 simp only at hi xg kg kz hr hL⊢
 have om:=s2.mono xg
 rw [ayo]
 simp only [cI,ah,bK]
 refine ⟨fun aC=>?_,fun cH=>?_⟩
 ·have bf:i<ps.length:=by omega
  obtain ⟨bi,oi,r,u1,u2,u3⟩:=om.get bf
  obtain ⟨a',b',c',d',rfl⟩:=u3.agg
  simp only [u1,u2,ah,e7,aE]
  have y1:EX g (g++[.arr 107 z4]):=EX.append _ _
  have j1:(g++[aq.arr 107 z4])[g.length]?=some (.arr 107 z4):=bR
  generalize g++[aq.arr 107 z4]=ga at y1 j1⊢
  rw [nN j1]
  simp only [aE]
  have y2:EX g (ga.set g.length (.arr 107 [B a',b',B c',d'])):=y1.set (Nat.le_refl _) _
  have j2:(ga.set g.length (.arr 107 [B a',b',B c',d']))[g.length]?=some (.arr 107 [B a',b',B c',d']):=cM j1
  generalize ga.set g.length (.arr 107 [B a',b',B c',d'])=gb at y2 j2⊢
  have kb:=y2.get kg
  rw [iu kb,ah,iu j2,ah]
  refine IG (hr.mono y2) (u3.mono y2) (xw hsd i hi) (hsd _ (List.getElem_mem bf)) (by omega) ?_
  intro r5 g5 x5 wF
  rw [←zN bf] at wF
  obtain ⟨a2,b2,c2,d2,rfl⟩:=wF.agg
  have kc:=x5.get kb
  rw [nN kc]
  simp only [aE,cD,inc i (by omega),ah,true_and]
  have sK:=(List.getElem?_eq_some_iff.1 kg).1
  have kz5:=(y2.trans x5).get kz
  refine hL (i+1,g5.set g2.length (.arr 107 [B a2,b2,B c2,d2]),a2,b2,c2,d2) ⟨by show i+1≤_;omega,(xg.trans (y2.trans x5)).set (Nat.le_refl _) _,cM kc,?_,wF.bH kc _⟩ (by show ps.length-(i+1)<ps.length-i;omega)
  rw [List.getElem?_set_ne (by omega)];exact kz5
 ·have fN:i=ps.length:=by omega
  subst fN
  rw [List.take_length] at hr
  rw [ayn,iu kg,ah]
  have hgz:g0.length≠g2.length:=by omega
  refine qh kz (hk _ _ ((zS.trans xg).set (by omega) _) (hr.bH kz _))

end
end Go.Proofs.YtelmdbpaoifmoaaGreat


namespace Go.Proofs.YtelmdbpaoifmoaaGreat
open Go.Sim

def eT (q:Rat):Bool:=decide (q.num<0)|| !sC 4 q

theorem avh:p6 Tryz.prog 83=true:=by kernel_rfl

def uH:Nat:=700
theorem ayT {s:List UInt8} (hl:s.length≤700):cw uH (bP s):=by
 have pC:(dW s).length≤700:=by
  unfold dW
  split
  ·rw [List.length_tail];omega
  ·exact hl
 have lo:(cU (dW s)).length≤700:=by unfold cU;rw [List.length_take];omega
 have lu:(dm (dW s)).length≤700:=by unfold dm;rw [List.length_drop];omega
 have p1:cg (cU (dW s))<10^uH:=Nat.lt_of_lt_of_le (H8 _) (Nat.pow_le_pow_right (by decide) (show _≤uH from lo))
 have p2:cg (dm (dW s))<10^uH:=Nat.lt_of_lt_of_le (H8 _) (Nat.pow_le_pow_right (by decide) (show _≤uH from lu))
 cases e:jz s with
 | none=>
  have:bP s=0:=by unfold bP;rw [e]
  rw [this]
  exact cw.zero.le (by decide)
 | some q=>
  obtain ⟨n,d⟩:=q
  obtain ⟨e1,e2⟩:=QS e
  unfold cw
  rw [e1,e2]
  rw [Ha] at e
  unfold pL at e
  split at e
  ·injection e with e
   injection e with h1 h2
   have hs:=(HL (m:=decide (s.head?=some 45)) (n:=cg (cU (dW s)))).2
   refine ⟨by rw [←h1];exact Nat.lt_of_le_of_lt (Nat.le_of_eq hs) p1,?_⟩
   rw [←h2]
   unfold nV
   split
   ·exact p2
   ·exact Nat.one_lt_pow (by decide) (by decide)
  ·cases e

section
variable {h : ae} {K : Value → ae → Prop}

theorem C83 {v:Value} {q:Rat} (hq:RV h v q) (sq:cw uH q) (hk:∀h',EX h h'→K (B (eT q)) h'):ak Tryz.prog 83 [v] h K:=by
 have yL:=hq
 obtain ⟨a,b,c,d,rfl⟩:=hq.agg
 refine f83 ?_
 have e1:bk 107 h (.agg #[B a,b,B c,d])=some (pt h.length 0,h++[.arr 107 [B a,b,B c,d]]):=rfl
 simp only [KT,e1,aE]
 have x0:EX h (h++[.arr 107 [B a,b,B c,d]]):=EX.append _ _
 have k0:(h++[aq.arr 107 [B a,b,B c,d]])[h.length]?=some (.arr 107 [B a,b,B c,d]):=bR
 generalize h++[aq.arr 107 [B a,b,B c,d]]=g0 at x0 k0⊢
 rw [iu k0,ah]
 refine Ss (yL.mono x0) ?_
 intro g1 x1
 have hs:decide (iU q.num<0)=decide (q.num<0):=by
  rw [decide_eq_decide]
  unfold iU
  split
  ·omega
  ·split <;> omega
 simp only [cI,ah,hs]
 rw [ayl]
 unfold eT at hk
 by_cases hn:q.num<0
 ·rw [decide_eq_true hn] at hk⊢
  simp only [eZ]
  rw [ahb]
  simp only [dA,ah]
  exact hk g1 (x0.trans x1)
 ·rw [decide_eq_false hn] at hk⊢
  simp only [dO]
  rw [iu (x1.get k0),ah]
  refine C84 (k:=4) ((yL.mono x0).mono x1) sq (by decide) (by decide) (by decide) ?_
  intro g2 x2
  simp only [nO,ah]
  rw [ahb]
  simp only [cY,ah]
  rw [Bool.false_or] at hk
  exact hk g2 (x0.trans (x1.trans x2))

theorem C82 {v:Value} {qs:List Rat} (hq:QL h v qs) (sq:∀q∈qs,cw uH q) (hn:qs.length≤1000) (hk:∀h',EX h h'→K (B (qs.any eT)) h'):ak Tryz.prog 82 [v,.func (.func 83) #[] #[]] h K:=by
 refine f82 ?_
 unfold KS
 refine f110 ?_
 unfold JO
 simp only [hq.len,ah]
 refine dc (σ:=Nat×ae) (fun q=>[I q.1]) (fun q=>q.2) (fun q=>q.1≤qs.length∧EX h q.2∧(qs.take q.1).any eT=false) (fun q=>qs.length-q.1) (0,h) rfl rfl ⟨Nat.zero_le _,EX.refl _,by simp⟩ ?_
 rintro ⟨i,g⟩ ⟨hi,xg,cW⟩ L hL
 simp only at hi xg cW hL⊢
 rw [av0]
 simp only [cI,ah,bK]
 refine ⟨fun aC=>?_,fun cH=>?_⟩
 ·have bf:i<qs.length:=by omega
  obtain ⟨b,o,r,u1,u2,u3⟩:=(hq.mono xg).get bf
  simp only [u1,u2,ah]
  refine aqd avh ?_
  simp only [List.append_nil]
  refine C83 u3 (sq _ (List.getElem_mem bf)) ?_
  intro g1 x1
  cases hb:eT qs[i] with
  | true=>
   simp only [di,kl,ah,decide_eq_true (show (0:Int)≤(i:Int) by omega)]
   have:qs.any eT=true:=List.any_eq_true.2 ⟨_,List.getElem_mem bf,hb⟩
   rw [this] at hk
   exact hk g1 (xg.trans x1)
  | false=>
   simp only [dp,cD,inc i (by omega),ah,true_and]
   refine hL (i+1,g1) ⟨by show i+1≤_;omega,xg.trans x1,?_⟩ (by show qs.length-(i+1)<qs.length-i;omega)
   show (qs.take (i+1)).any eT=false
   rw [List.take_succ_eq_append_getElem bf,List.any_append,cW]
   simpa using hb
 ·have fN:i=qs.length:=by omega
  subst fN
  rw [List.take_length] at cW
  rw [cW] at hk
  simp only [kl,ah,show decide ((0:Int)≤ -1)=false from rfl]
  exact hk g xg

end
end Go.Proofs.YtelmdbpaoifmoaaGreat


namespace Go.Proofs.YtelmdbpaoifmoaaGreat
open Go.Sim

def yX:Value→Bool
 | .int .u32 _=>true
 | .bool _=>true
 | _=>false

theorem KP.sub {p q:Value→Bool} {h h':ae} (FQ:∀v,q v=true→p v=true) (x:KP p h h'):KP q h h':=fun d c r h1 h2=>x d c r h1 (FQ c h2)
theorem atM (v:Value) (h:uG v=true):yX v=true:=by
 unfold uG at h
 split at h
 ·rfl
 ·cases h

def QB (h:ae) (v:Value) (qs:List Rat):Prop:=QL h v qs∧(qs=[]∨∃i o n c r,v=sl 107 i o n∧aO h i=some (c::r)∧yX c=true)

theorem QB.mono {h h':ae} {v:Value} {qs:List Rat} (x:EX h h') (p:QB h v qs):QB h' v qs:=⟨p.1.mono x,p.2.imp id fun ⟨i,o,n,c,r,a,b,d⟩=>⟨i,o,n,c,r,a,x.cells b,d⟩⟩

theorem QB.dN {h h':ae} {v:Value} {qs:List Rat} (x:KP yX h h') (p:QB h v qs):QB h' v qs:=by
 obtain ⟨⟨rows,a,b,c⟩,q⟩:=p
 rw [xo] at b
 have rat:∀(k:Nat) (row:List Value) (q:Int×Int),rows[k]?=some row→(oI qs)[k]?=some q→gN h' (.agg row.toArray) q.1 q.2:=fun k row q h1 h2=>(c k row q h1 h2).dN (KP.sub atM x)
 refine ⟨⟨rows,⟨a.1,?_⟩,by rw [xo];exact b,rat⟩,q.imp id fun ⟨i,o,n,c,r,e1,e2,e3⟩=>⟨i,o,n,c,r,e1,x i c r e2 e3,e3⟩⟩
 rcases a.2 with h0 | ⟨i,o,e1,e2⟩
 ·exact .inl h0
 ·refine .inr ⟨i,o,e1,?_⟩
  rcases e2 with e2 | ⟨pre,post,e2,e3⟩
  ·exact .inl e2
  ·rcases q with q | ⟨i',o',n',c',r',f1,f2,f3⟩
   ·left
    exact List.length_eq_zero_iff.1 (by rw [b,q];rfl)
   ·right
    rw [e1] at f1
    have hi:i=i':=by
     simp only [sl] at f1
     injection f1 with f1
     injection f1 with f1
     injection f1
    subst hi
    refine ⟨pre,post,?_,e3⟩
    rw [←e2,f2]
    exact x i c' r' f2 f3

theorem lU.qb {b:Nat} {h:ae} {v:Value} {qs:List Rat} (o:lU b h v (oI qs)):QB h v qs:=by
 refine ⟨o.ayS,?_⟩
 obtain ⟨rows,o1,o2,o3,_⟩:=o
 rw [xo] at o2
 cases rows with
 | nil=>left;exact List.length_eq_zero_iff.1 (by rw [←o2];rfl)
 | cons row rows=>
  right
  rcases o1.2 with ⟨_,h0⟩ | ⟨i,_,e1,e2⟩
  ·cases h0
  ·obtain ⟨s,t,e3⟩:=o3 row (by simp)
   refine ⟨i,0,_,.bool s,t++rows.flatten,e1,?_,rfl⟩
   simp [aO,e2,e3]

def LK (h:ae) (v:Value) (cs:List (List Rat×Int)):Prop:=
 ∃rows,RS h 102 3 v rows∧rows.length=cs.length∧∀(k:Nat) (row:List Value) (c:List Rat×Int),rows[k]?=some row→cs[k]?=some c→∃vq,row=[I c.1.length,I c.2,vq]∧QB h vq c.1

theorem LK.mono {h h':ae} {v:Value} {cs:List (List Rat×Int)} (x:EX h h') (p:LK h v cs):LK h' v cs:=
 let ⟨rows,a,b,c⟩:=p;⟨rows,a.mono x,b,fun k row q h1 h2=>let ⟨vq,e,m⟩:=c k row q h1 h2;⟨vq,e,m.mono x⟩⟩

theorem LK.len {h:ae} {v:Value} {cs:List (List Rat×Int)} (p:LK h v cs):aY v=some (I cs.length):=by
 obtain ⟨rows,a,b,_⟩:=p;rw [←b];exact a.len

theorem LK.get {h:ae} {v:Value} {cs:List (List Rat×Int)} (p:LK h v cs) {k:Nat} (hk:k<cs.length):∃i o vq,aU 3 v (I k)=some (pt i o)∧af true 3 h (pt i o)=some (.agg #[I cs[k].1.length,I cs[k].2,vq])∧QB h vq cs[k].1:=by
 obtain ⟨rows,a,b,c⟩:=p
 have bV:k<rows.length:=by omega
 obtain ⟨i,o,cells,g1,g2,g3,g4⟩:=a.get bV
 obtain ⟨vq,e,m⟩:=c k _ _ (List.getElem?_eq_getElem bV) (List.getElem?_eq_getElem hk)
 have:=Q0 g2 g3 g4
 rw [e] at this
 exact ⟨i,o,vq,g1,this,m⟩

def nR (b:Nat) (h:ae) (v:Value) (cs:List (List Rat×Int)):Prop:=
 ∃rows,ja b h 102 3 v rows∧rows.length=cs.length∧(∀r∈rows,∃n t,r=I n::t)∧∀(k:Nat) (row:List Value) (c:List Rat×Int),rows[k]?=some row→cs[k]?=some c→∃vq,row=[I c.1.length,I c.2,vq]∧QB h vq c.1

theorem nR.start (b:Nat) (h:ae):nR b h (.slice none 0 0) []:=⟨[],ja.start ..,rfl,fun r hr=>by simp at hr,fun k r q h=>by simp at h⟩
theorem nR.lk {b:Nat} {h:ae} {v:Value} {cs:List (List Rat×Int)} (o:nR b h v cs):LK h v cs:=let ⟨rows,a,c,_,d⟩:=o;⟨rows,a.rs,c,d⟩
theorem nR.ex {b:Nat} {h h':ae} {v:Value} {cs:List (List Rat×Int)} (x:EX h h') (o:nR b h v cs):nR b h' v cs:=
 let ⟨rows,a,c,e,d⟩:=o;⟨rows,a.ex x,c,e,fun k row q h1 h2=>let ⟨vq,e,m⟩:=d k row q h1 h2;⟨vq,e,m.mono x⟩⟩

theorem arX {rows:List (List Value)} (h:∀r∈rows,∃n t,r=I n::t):∀c r,rows.flatten=c::r→yX c=false:=by
 cases rows with
 | nil=>intro c r e;simp at e
 | cons row rows=>
  obtain ⟨n,t,rfl⟩:=h row (by simp)
  intro c r e
  simp at e
  rw [←e.1];rfl

theorem nR.app {h0 h:ae} {v vq:Value} {qs:List Rat} {w:Int} {cs:List (List Rat×Int)} {zs:List Value} {K:Value→ae→Prop} (o:nR h0.length h v cs) (hex:EX h0 h) (hq:QB h vq qs) (hz:zs.length=3) (hl:cs.length≤10000)
  (hk:∀v' h',EX h0 h'→KP yX h h'→nR h0.length h' v' (cs++[(qs,w)])→K v' h'):OH (dh 102 1 zs h [(0,3,.agg #[I qs.length,I w,vq])]) fun y h2=>OH (dj 102 3 40 h2 v y) K:=by
 obtain ⟨rows,o1,o2,o3,o4⟩:=o
 obtain ⟨rq,rs,_,_⟩:=id hq.1
 obtain ⟨t1,t2⟩:=rs.one
 refine o1.app hex hz (row:=[I qs.length,I w,vq]) rfl (by simp [cZ,Value.cells]) rfl (by omega) (by simp [maxLen];omega) ?_
 intro v' h' x' hold o'
 have kp:KP yX h h':=o1.kp (arX o3) hold
 refine hk v' h' x' kp ⟨_,o',by simp [o2],fun r hr=>?_,fun k row q h1 h2=>?_⟩
 ·rcases List.mem_append.1 hr with hr | hr
  ·exact o3 r hr
  ·rw [List.mem_singleton.1 hr];exact ⟨_,_,rfl⟩
 ·by_cases hk:k<rows.length
  ·rw [List.getElem?_append_left hk] at h1
   rw [List.getElem?_append_left (by omega)] at h2
   obtain ⟨Rx,e,m⟩:=o4 k row q h1 h2
   exact ⟨Rx,e,m.dN kp⟩
  ·rw [List.getElem?_append_right (by omega)] at h1
   rw [List.getElem?_append_right (by omega),←o2] at h2
   have h0:k-rows.length=0:=by
    have:=(List.getElem?_eq_some_iff.1 h1).1
    simp at this;omega
   rw [h0] at h1 h2
   simp only [List.getElem?_cons_zero,Option.some.injEq] at h1 h2
   subst h1 h2
   exact ⟨vq,rfl,hq.dN kp⟩

end Go.Proofs.YtelmdbpaoifmoaaGreat


namespace Go.Proofs.YtelmdbpaoifmoaaGreat
open Go.Sim
variable (P : Program) (K : VK)
/-! F11: pommel/pommellaw06.chances -/
noncomputable section
variable (x0 x3 i4 c5 k6 az aP cO bX : Value) (L1 L2 : LQ) (xs : List Value) (h : ae)
def abY:=bw Tryz.prog 11 [[],[],[],[0],[3,4],[0,3,4,12],[0,3,4,12,14],[],[],[],[],[0,3,4,5],[6],[0,3,4,5,6,32],[0,3,4,5,6,32,34],[],[],[],[0,3,4,5],[0,3,4],[3],[]]
@[irreducible] def DG:=bE abY
@[irreducible] def DN:=DG.r.r.l.r.l.l
@[irreducible] def Vs:=DG.r.r.r
@[irreducible] def Vo:=DN.l.l.r.l
@[irreducible] def anr:=DN.l.r
@[irreducible] def DO:=DN.r
@[irreducible] def anq:=Vs.l
@[irreducible] def ank:=Vo.r.l
@[irreducible] def DM:=DO.l.l.r.l.r.l.l
@[irreducible] def Vq:=DO.l.l.r.r
@[irreducible] def Vp:=DO.r
@[irreducible] def Vr:=DM.l.l.r.l
@[irreducible] def anm:=DM.l.r
@[irreducible] def anl:=DM.r
@[irreducible] def ano:=Vq.l
@[irreducible] def anp:=Vp.l
@[irreducible] def ann:=Vr.r.l
theorem k11:abY=some (67,DG,[.tmp 2]):=by kernel_rfl
def IW (_P:Program) (K:VK):ar:=aR [.tmp 2] K
def aj2:ar:=aD (aj P Vs (IW P K)) (IW P K)
def aj3:ar:=bz 0 (aj2 P K)
def xK:ar:=aD (fun f' aS=>(([0]:List Nat).map f':List Value)=[x0]∧L1 (([3,4]:List Nat).map f') aS) (aj3 P K)
def SW:ar:=aD (aj P DO (xK P K x0 L1)) (xK P K x0 L1)
def SX:ar:=aD (aj P anr (SW P K x0 L1)) (SW P K x0 L1)
def ajZ:ar:=aD (aj P Vp (xK P K x0 L1)) (xK P K x0 L1)
def IX:ar:=bz 1 (ajZ P K x0 L1)
def aj0:ar:=aD (aj P Vq (IX P K x0 L1)) (IX P K x0 L1)
def aj1:ar:=bz 2 (aj0 P K x0 L1)
def IY:ar:=aD (fun f' aS=>(([0,3,4,5]:List Nat).map f':List Value)=[x0,x3,i4,c5]∧L2 (([6]:List Nat).map f') aS) (aj1 P K x0 L1)
def SU:ar:=aD (aj P anl (IY P K x0 x3 i4 c5 L1 L2)) (IY P K x0 x3 i4 c5 L1 L2)
def SV:ar:=aD (aj P anm (SU P K x0 x3 i4 c5 L1 L2)) (SU P K x0 x3 i4 c5 L1 L2)
def ad5:Prop:=av (aj P DN (xK P K x0 L1)) ([0]++[3,4]) ([x0]++xs) h
def adZ:Prop:=av (aj P Vo (SX P K x0 L1)) [0,3,4,12] [x0,x3,i4,az] h
def GI:Prop:=av (aj P ank (SX P K x0 L1)) [0,3,4,12,14] [x0,x3,i4,az,aP] h
def ad0:Prop:=av (aj P DM (IY P K x0 x3 i4 c5 L1 L2)) ([0,3,4,5]++[6]) ([x0,x3,i4,c5]++xs) h
def ad1:Prop:=av (aj P Vr (SV P K x0 x3 i4 c5 L1 L2)) [0,3,4,5,6,32] [x0,x3,i4,c5,k6,cO] h
def GJ:Prop:=av (aj P ann (SV P K x0 x3 i4 c5 L1 L2)) [0,3,4,5,6,32,34] [x0,x3,i4,c5,k6,cO,bX] h
def ad2:Prop:=av (aj P ano (IX P K x0 L1)) [0,3,4,5] [x0,x3,i4,c5] h
def ad3:Prop:=av (aj P anp (xK P K x0 L1)) [0,3,4] [x0,x3,i4] h
def ad4:Prop:=av (aj P anq (IW P K)) [3] [x3] h
theorem agA:GI P K x0 x3 i4 az aP L1 h=
 (OP (bL az aP (.bool false)) fun bc=>
 aM bc
 (OP (aU 2 x0 i4) fun aW=>
 OP (aK 1 aW) fun bm=>
 OP (af false 1 h bm) fun bJ=>
 OP (cT [(.slice none 0 0),(.int .i64 (0))] [(1,1,bJ)]) fun cF=>
 OH (aX 24 [(.slice none 0 0),(.int .i64 (0))] h) fun c5 h_1=>
 OH (aI 2 h_1 c5 cF) fun _ h_2=>
 cG [(.int .i64 (0))] h_2 fun L2 xs hx=>
 ad0 P K x0 x3 i4 c5 L1 L2 xs hx)
 (ad4 P K x3 h)):=ax (by kernel_rfl)
theorem av7:adZ P K x0 x3 i4 az L1 h=
 (bZ az true
 (OP (ai .leq i4 (.int .i64 (3))) fun aP=>
 GI P K x0 x3 i4 az aP L1 h)
 (GI P K x0 x3 i4 az undef L1 h)):=ax (by kernel_rfl)
theorem agB:GJ P K x0 x3 i4 c5 k6 cO bX L1 L2 h=
 (OP (bL cO bX (.bool false)) fun dd=>
 aM dd
 (OP (aK 0 c5) fun cV=>
 OP (af false 1 h cV) fun dR=>
 (True)∧
 OP (aU 2 x0 i4) fun dn=>
 OP (aK 0 dn) fun bO=>
 OP (af false 1 h bO) fun ba=>
 (True)∧
 OP (aU 1 ba k6) fun cd=>
 OP (af false 1 h cd) fun gU=>
 (True)∧
 OP (aU 2 x0 i4) fun dD=>
 OP (aK 0 dD) fun eP=>
 OP (af false 1 h eP) fun dS=>
 (True)∧
 OP (aU 1 dS k6) fun cS=>
 OP (af false 1 h cS) fun gv=>
 (True)∧
 OP (fS gv) fun gh=>
 OP (rJ false [gh,(.int .i64 (20))]) fun dK=>
 OP (jK gU none (some dK)) fun gV=>
 OH (dh 27 1 [(.string ⟨#[]⟩)] h [(0,1,gV)]) fun eQ h_1=>
 (af false 1 h_1 cV=some dR∧True)∧
 OH (dj 27 1 16 h_1 dR eQ) fun gJ h_2=>
 (True)∧
 OP (aK 0 c5) fun hX=>
 OH (aI 1 h_2 hX gJ) fun _ h_3=>
 (True)∧
 OP (ai .add k6 (.int .i64 (1))) fun dT=>
 ([x0,x3,i4,c5]:List Value)=[x0,x3,i4,c5]∧L2 [dT] h_3)
 (ad2 P K x0 x3 i4 c5 L1 h)):=ax (by kernel_rfl)
theorem av9:ad1 P K x0 x3 i4 c5 k6 cO L1 L2 h=
 (bZ cO true
 (OP (ai .leq k6 (.int .i64 (8))) fun bX=>
 GJ P K x0 x3 i4 c5 k6 cO bX L1 L2 h)
 (GJ P K x0 x3 i4 c5 k6 cO undef L1 L2 h)):=ax (by kernel_rfl)
theorem av8 (x0 x3 i4 c5:Value) (L1 L2:LQ) (k6:Value) (h:ae):ad0 P K x0 x3 i4 c5 L1 L2 [k6] h=
 (OP (aU 2 x0 i4) fun bD=>
 OP (aK 0 bD) fun bU=>
 OP (af false 1 h bU) fun cA=>
 OP (aY cA) fun cR=>
 OP (ai .lss k6 cR) fun ca=>
 ad1 P K x0 x3 i4 c5 k6 ca L1 L2 h):=ax (by kernel_rfl)
theorem awa:ad2 P K x0 x3 i4 c5 L1 h=
 (OP (af true 2 h c5) fun iL=>
 OH (dh 24 1 [(.slice none 0 0),(.int .i64 (0))] h [(0,2,iL)]) fun gW h_1=>
 OH (dj 24 2 32 h_1 x3 gW) fun fv h_2=>
 ad3 P K x0 fv i4 L1 h_2):=ax (by kernel_rfl)
theorem awb:ad3 P K x0 x3 i4 L1 h=
 (OP (ai .add i4 (.int .i64 (1))) fun bQ=>
 ([x0]:List Value)=[x0]∧L1 [x3,bQ] h):=ax (by kernel_rfl)
theorem awd (x0:Value) (L1:LQ) (x3 i4:Value) (h:ae):ad5 P K x0 L1 [x3,i4] h=
 (OP (aY x0) fun aG=>
 OP (ai .lss i4 aG) fun ay=>
 adZ P K x0 x3 i4 ay L1 h):=ax (by kernel_rfl)
theorem awc:ad4 P K x3 h=
 (K x3 h):=ax (by kernel_rfl)
def JN:Prop:=
 OH (dh 24 0 [(.slice none 0 0),(.int .i64 (0))] h []) fun x7 h_1=>
 cG [x7,(.int .i64 (0))] h_1 fun L1 xs hx=>
 ad5 P K x0 L1 xs hx
theorem Mh:aj P DG (aR [.tmp 2] K) (bp [x0]) h=JN P K x0 h:=by kernel_rfl
theorem f11 {K:VK} {x0:Value} {h:ae} (H:JN Tryz.prog K x0 h):ak Tryz.prog 11 [x0] h K:=
 bF k11 (Nat.le_of_ble_eq_true rfl) ((Mh Tryz.prog K x0 h).mpr H)
end
/-! F43: pommel/mend.chances -/
noncomputable section
variable (l0 x4 er ay az aA cV dC bO ba cj jB dK eQ iL fv gw gX hY kV hZ : Value) (L1 : LQ) (xs : List Value) (h : ae)
def acJ:=bw Tryz.prog 43 [[],[],[],[0,11,12],[4,13],[],[],[],[],[],[],[],[],[0,4],[0,4,38],[4,38,41],[],[],[],[],[4,43,44],[45],[],[],[],[4,10,43,44,45,53],[4,10,43,44,45,53,57],[4,10,43,44,45,59],[4,10,43,44,45,59,63],[4,10,43,44,45,65],[4,10,43,44,45,65,69],[4,10,43,44,45,71],[4,10,43,44,45,71,81],[],[],[],[4,10,43,44,45,86],[4,43,44,45,86,91],[],[],[],[4],[]]
@[irreducible] def Eb:=bE acJ
@[irreducible] def aoB:=Eb.r.r.l.r.l.l
@[irreducible] def WA:=Eb.r.r.r
@[irreducible] def Ec:=WA.l
@[irreducible] def Wy:=Ec.l.l.r.l
@[irreducible] def aot:=Ec.l.r
@[irreducible] def LB:=Ec.r
@[irreducible] def aou:=Wy.r.l
@[irreducible] def Ax:=LB.l.r.l.l
@[irreducible] def Wz:=LB.r
@[irreducible] def WB:=Ax.r.r.l.l.r.l.l.r.l
@[irreducible] def aow:=Ax.r.r.l.l.r.l.r
@[irreducible] def LC:=Ax.r.r.l.l.r.r
@[irreducible] def aov:=Ax.r.r.r
@[irreducible] def aoA:=Wz.l
@[irreducible] def WC:=WB.r.l
@[irreducible] def WJ:=LC.l.r.l
@[irreducible] def aoy:=LC.r
@[irreducible] def WD:=WC.r.l
@[irreducible] def aoz:=WJ.r.l
@[irreducible] def WE:=WD.r.l
@[irreducible] def WG:=WE.r.l
@[irreducible] def WH:=WG.r.l
@[irreducible] def WI:=WH.r.l
@[irreducible] def aox:=WI.r.l
theorem k43:acJ=some (95,Eb,[.tmp 2,.tmp 3]):=by kernel_rfl
def tL (_P:Program) (K:VK):ar:=aR [.tmp 2,.tmp 3] K
def alb:ar:=aD (aj P WA (tL P K)) (tL P K)
def ald:ar:=bz 0 (alb P K)
def ale:ar:=aD (fun f' aS=>(([0,11,12]:List Nat).map f':List Value)=[l0,ay,az]∧L1 (([4,13]:List Nat).map f') aS) (ald P K)
def Tk:ar:=aD (aj P LB (tL P K)) (tL P K)
def Tl:ar:=aD (aj P aot (Tk P K)) (Tk P K)
def ak9:ar:=aD (aj P Wz (tL P K)) (tL P K)
def ala:ar:=bz 2 (ak9 P K)
def Je:ar:=aD (fun f' aS=>(([4,43,44]:List Nat).map f':List Value)=[x4,bO,ba]∧L1 (([45]:List Nat).map f') aS) (ala P K)
def alc:ar:=aD (aj P aov (Je P K x4 bO ba L1)) (Je P K x4 bO ba L1)
def C4:ar:=bz 3 (alc P K x4 bO ba L1)
def Tm:ar:=aD (aj P LC (C4 P K x4 bO ba L1)) (C4 P K x4 bO ba L1)
def tM:ar:=aD (aj P aow (Tm P K x4 bO ba L1)) (Tm P K x4 bO ba L1)
def Tn:ar:=aD (aj P aoy (C4 P K x4 bO ba L1)) (C4 P K x4 bO ba L1)
def aeY:Prop:=av (aj P aoB (ale P K l0 ay az L1)) ([0,11,12]++[4,13]) ([l0,ay,az]++xs) h
def aeT:Prop:=av (aj P Ec (tL P K)) [0,4] [l0,x4] h
def aeU:Prop:=av (aj P Wy (Tl P K)) [0,4,38] [l0,x4,cV] h
def PJ:Prop:=av (aj P aou (Tl P K)) [4,38,41] [x4,cV,dC] h
def PK:Prop:=av (aj P Ax (Je P K x4 bO ba L1)) ([4,43,44]++[45]) ([x4,bO,ba]++xs) h
def aeV:Prop:=av (aj P WB (tM P K x4 bO ba L1)) [4,10,43,44,45,53] [x4,er,bO,ba,cj,jB] h
def PM:Prop:=av (aj P WC (tM P K x4 bO ba L1)) [4,10,43,44,45,53,57] [x4,er,bO,ba,cj,jB,dK] h
def PN:Prop:=av (aj P WD (tM P K x4 bO ba L1)) [4,10,43,44,45,59] [x4,er,bO,ba,cj,eQ] h
def PO:Prop:=av (aj P WE (tM P K x4 bO ba L1)) [4,10,43,44,45,59,63] [x4,er,bO,ba,cj,eQ,iL] h
def PQ:Prop:=av (aj P WG (tM P K x4 bO ba L1)) [4,10,43,44,45,65] [x4,er,bO,ba,cj,fv] h
def PR:Prop:=av (aj P WH (tM P K x4 bO ba L1)) [4,10,43,44,45,65,69] [x4,er,bO,ba,cj,fv,gw] h
def PT:Prop:=av (aj P WI (tM P K x4 bO ba L1)) [4,10,43,44,45,71] [x4,er,bO,ba,cj,gX] h
def GW:Prop:=av (aj P aox (tM P K x4 bO ba L1)) [4,10,43,44,45,71,81] [x4,er,bO,ba,cj,gX,hY] h
def aeW:Prop:=av (aj P WJ (Tn P K x4 bO ba L1)) [4,10,43,44,45,86] [x4,er,bO,ba,cj,kV] h
def GX:Prop:=av (aj P aoz (Tn P K x4 bO ba L1)) [4,43,44,45,86,91] [x4,bO,ba,cj,kV,hZ] h
def aeX:Prop:=av (aj P aoA (tL P K)) [4] [x4] h
theorem axq (l0 ay az:Value) (L1:LQ) (x4 aA:Value) (h:ae):aeY P K l0 ay az L1 [x4,aA] h=
 (OP (ai .lss aA az) fun aP=>
 aM aP
 (OP (aU 2 ay aA) fun bc=>
 OP (af true 2 h bc) fun a9=>
 OH (aX 24 [(.slice none 0 0),(.int .i64 (0))] h) fun c6 h_1=>
 OH (aI 2 h_1 c6 a9) fun _ h_2=>
 OP (af true 2 h_2 c6) fun aQ=>
 ak P 80 [aQ] h_2 fun aN h_3=>
 OP (cC 0 aN) fun aW=>
 OP (cC 1 aN) fun bm=>
 OP (fA .not bm) fun cF=>
 aM cF
 (K (.tuple #[(.slice none 0 0),(.int .i64 (2))]) h_3)
 (OP (aY aW) fun bC=>
 OP (aK 1 c6) fun bD=>
 OP (af false 1 h_3 bD) fun bU=>
 OP (cT [(.int .i64 (0)),(.int .i64 (0))] [(0,1,bC),(1,1,bU)]) fun cA=>
 OP (cT [(.int .i64 (0)),(.int .i64 (0)),(.slice none 0 0)] [(0,2,cA),(2,1,aW)]) fun ca=>
 OH (dh 102 1 [(.int .i64 (0)),(.int .i64 (0)),(.slice none 0 0)] h_3 [(0,3,ca)]) fun cO h_4=>
 OH (dj 102 3 40 h_4 x4 cO) fun dI h_5=>
 OP (ai .add aA (.int .i64 (1))) fun bX=>
 ([l0,ay,az]:List Value)=[l0,ay,az]∧L1 [dI,bX] h_5))
 (aeT P K l0 x4 h)):=ax (by kernel_rfl)
theorem agO:PJ P K x4 cV dC h=
 (OP (bL cV (.bool true) dC) fun dn=>
 aM dn
 (K (.tuple #[(.slice none 0 0),(.int .i64 (1))]) h)
 (OP (aY x4) fun ba=>
 cG [(.int .i64 (0))] h fun L1 xs hx=>
 PK P K x4 x4 ba L1 xs hx)):=ax (by kernel_rfl)
theorem axl:aeU P K l0 x4 cV h=
 (bZ cV false
 (OP (aY l0) fun dJ=>
 OP (ai .gtr dJ (.int .i64 (3))) fun dC=>
 PJ P K x4 cV dC h)
 (PJ P K x4 cV undef h)):=ax (by kernel_rfl)
theorem agV:GW P K x4 er bO ba cj gX hY L1 h=
 (OP (bL gX (.bool true) hY) fun eY=>
 aM eY
 (K (.tuple #[(.slice none 0 0),(.int .i64 (1))]) h)
 (OP (aK 2 er) fun mC=>
 OP (af false 1 h mC) fun gK=>
 ak P 82 [gK,(.func (.func 83) #[] #[])] h fun ke h_1=>
 aeW P K x4 er bO ba cj ke L1 h_1)):=ax (by kernel_rfl)
theorem agU:PT P K x4 er bO ba cj gX L1 h=
 (bZ gX false
 (OP (aK 2 er) fun lO=>
 OP (af false 1 h lO) fun qY=>
 OP (aK 0 er) fun jQ=>
 OP (aK 0 jQ) fun iM=>
 OP (af false 1 h iM) fun gy=>
 OP (ai .sub gy (.int .i64 (1))) fun jm=>
 OP (aU 4 qY jm) fun eB=>
 OP (af true 4 h eB) fun iX=>
 ak P 81 [iX] h fun ka h_1=>
 OP (ai .eql ka (.int .i64 (0))) fun hY=>
 GW P K x4 er bO ba cj gX hY L1 h_1)
 (GW P K x4 er bO ba cj gX undef L1 h)):=ax (by kernel_rfl)
theorem agT:PR P K x4 er bO ba cj fv gw L1 h=
 (OP (bL fv (.bool true) gw) fun jP=>
 PT P K x4 er bO ba cj jP L1 h):=ax (by kernel_rfl)
theorem agS:PQ P K x4 er bO ba cj fv L1 h=
 (bZ fv false
 (OP (aK 0 er) fun oN=>
 OP (aK 1 oN) fun fK=>
 OP (af false 1 h fK) fun gj=>
 OP (ai .gtr gj (.int .i64 (50))) fun gw=>
 PR P K x4 er bO ba cj fv gw L1 h)
 (PR P K x4 er bO ba cj fv undef L1 h)):=ax (by kernel_rfl)
theorem agR:PO P K x4 er bO ba cj eQ iL L1 h=
 (OP (bL eQ (.bool true) iL) fun gW=>
 PQ P K x4 er bO ba cj gW L1 h):=ax (by kernel_rfl)
theorem agQ:PN P K x4 er bO ba cj eQ L1 h=
 (bZ eQ false
 (OP (aK 0 er) fun gJ=>
 OP (aK 1 gJ) fun hX=>
 OP (af false 1 h hX) fun lN=>
 OP (ai .lss lN (.int .i64 (0))) fun iL=>
 PO P K x4 er bO ba cj eQ iL L1 h)
 (PO P K x4 er bO ba cj eQ undef L1 h)):=ax (by kernel_rfl)
theorem agP:PM P K x4 er bO ba cj jB dK L1 h=
 (OP (bL jB (.bool true) dK) fun gV=>
 PN P K x4 er bO ba cj gV L1 h):=ax (by kernel_rfl)
theorem axn:aeV P K x4 er bO ba cj jB L1 h=
 (bZ jB false
 (OP (aK 0 er) fun cS=>
 OP (aK 0 cS) fun gv=>
 OP (af false 1 h gv) fun gh=>
 OP (ai .gtr gh (.int .i64 (8))) fun dK=>
 PM P K x4 er bO ba cj jB dK L1 h)
 (PM P K x4 er bO ba cj jB undef L1 h)):=ax (by kernel_rfl)
theorem agW:GX P K x4 bO ba cj kV hZ L1 h=
 (OP (bL kV (.bool true) hZ) fun oO=>
 aM oO
 (K (.tuple #[(.slice none 0 0),(.int .i64 (1))]) h)
 (OP (ai .add cj (.int .i64 (1))) fun tF=>
 ([x4,bO,ba]:List Value)=[x4,bO,ba]∧L1 [tF] h)):=ax (by kernel_rfl)
theorem axo:aeW P K x4 er bO ba cj kV L1 h=
 (bZ kV false
 (OP (af true 3 h er) fun tE=>
 ak P 85 [tE,(.int .i64 (0))] h fun fc h_1=>
 ak P 75 [(.int .i64 (1))] h_1 fun gY h_2=>
 ak P 86 [fc,gY] h_2 fun kW h_3=>
 OP (ai .neq kW (.int .i64 (0))) fun hZ=>
 GX P K x4 bO ba cj kV hZ L1 h_3)
 (GX P K x4 bO ba cj kV undef L1 h)):=ax (by kernel_rfl)
theorem axm (x4 bO ba:Value) (L1:LQ) (cj:Value) (h:ae):PK P K x4 bO ba L1 [cj] h=
 (OP (ai .lss cj ba) fun cd=>
 aM cd
 (OP (aU 3 bO cj) fun gU=>
 OP (af true 3 h gU) fun eX=>
 OH (aX 102 [(.int .i64 (0)),(.int .i64 (0)),(.slice none 0 0)] h) fun er h_1=>
 OH (aI 3 h_1 er eX) fun _ h_2=>
 OP (aK 0 er) fun fT=>
 OP (aK 0 fT) fun dD=>
 OP (af false 1 h_2 dD) fun eP=>
 OP (ai .lss eP (.int .i64 (1))) fun dS=>
 aeV P K x4 er bO ba cj dS L1 h_2)
 (aeX P K x4 h)):=ax (by kernel_rfl)
theorem axp:aeX P K x4 h=
 (K (.tuple #[x4,(.int .i64 (0))]) h):=ax (by kernel_rfl)
theorem axk:aeT P K l0 x4 h=
 (OP (aY l0) fun cJ=>
 OP (ai .lss cJ (.int .i64 (1))) fun dT=>
 aeU P K l0 x4 dT h):=ax (by kernel_rfl)
def Kt:Prop:=
 OP (aY l0) fun az=>
 cG [(.slice none 0 0),(.int .i64 (0))] h fun L1 xs hx=>
 aeY P K l0 l0 az L1 xs hx
theorem E1:aj P Eb (aR [.tmp 2,.tmp 3] K) (bp [l0]) h=Kt P K l0 h:=by kernel_rfl
theorem f43 {K:VK} {l0:Value} {h:ae} (H:Kt Tryz.prog K l0 h):ak Tryz.prog 43 [l0] h K:=
 bF k43 (Nat.le_of_ble_eq_true rfl) ((E1 Tryz.prog K l0 h).mpr H)
end
/-! F44: (pommel/mend.lucky).index -/
noncomputable section
variable (j0 x1 j2 x4 x6 x7 x8 x9 d10 ay dS gh : Value) (L1 : LQ) (xs : List Value) (h : ae)
def acK:=bw Tryz.prog 44 [[],[],[],[],[1,2,4,6,8,9],[7,10],[],[],[],[],[],[1,2,4,6,7,8,9,10,11,52],[1,2,4,6,7,8,9,10,11,52,56],[],[1,2,4,6,7,8,9,10],[4,6,7],[]]
@[irreducible] def Ed:=bE acK
@[irreducible] def Ee:=Ed.r.r.r.l.r.l.l
@[irreducible] def WM:=Ed.r.r.r.r
@[irreducible] def WL:=Ee.r.l.l.r.r.r.l.r.l
@[irreducible] def aoC:=Ee.r.l.l.r.r.r.r
@[irreducible] def WK:=Ee.r.r
@[irreducible] def aoF:=WM.l
@[irreducible] def aoD:=WL.r.l
@[irreducible] def aoE:=WK.l
theorem k44:acK=some (62,Ed,[.cell true 4 4,.tmp 5]):=by kernel_rfl
def Jf (_P:Program) (K:VK):ar:=aR [.cell true 4 4,.tmp 5] K
def alg:ar:=aD (aj P WM (Jf P K)) (Jf P K)
def alh:ar:=bz 0 (alg P K)
def C5:ar:=aD (fun f' aS=>(([1,2,4,6,8,9]:List Nat).map f':List Value)=[x1,j2,x4,x6,x8,x9]∧L1 (([7,10]:List Nat).map f') aS) (alh P K)
def alf:ar:=aD (aj P WK (C5 P K x1 j2 x4 x6 x8 x9 L1)) (C5 P K x1 j2 x4 x6 x8 x9 L1)
def To:ar:=bz 1 (alf P K x1 j2 x4 x6 x8 x9 L1)
def Tp:ar:=aD (aj P aoC (To P K x1 j2 x4 x6 x8 x9 L1)) (To P K x1 j2 x4 x6 x8 x9 L1)
def PU:Prop:=av (aj P Ee (C5 P K x1 j2 x4 x6 x8 x9 L1)) ([1,2,4,6,8,9]++[7,10]) ([x1,j2,x4,x6,x8,x9]++xs) h
def aeZ:Prop:=av (aj P WL (Tp P K x1 j2 x4 x6 x8 x9 L1)) [1,2,4,6,7,8,9,10,11,52] [x1,j2,x4,x6,x7,x8,x9,d10,ay,dS] h
def Ca:Prop:=av (aj P aoD (Tp P K x1 j2 x4 x6 x8 x9 L1)) [1,2,4,6,7,8,9,10,11,52,56] [x1,j2,x4,x6,x7,x8,x9,d10,ay,dS,gh] h
def GY:Prop:=av (aj P aoE (C5 P K x1 j2 x4 x6 x8 x9 L1)) [1,2,4,6,7,8,9,10] [x1,j2,x4,x6,x7,x8,x9,d10] h
def ae0:Prop:=av (aj P aoF (Jf P K)) [4,6,7] [x4,x6,x7] h
theorem agX:Ca P K x1 j2 x4 x6 x7 x8 x9 d10 ay dS gh L1 h=
 (OP (bL dS (.bool true) gh) fun dK=>
 aM dK
 (OP (af true 4 h ay) fun gV=>
 OH (aI 4 h x6 gV) fun _ h_1=>
 GY P K x1 j2 x4 x6 d10 x8 x9 d10 L1 h_1)
 (GY P K x1 j2 x4 x6 x7 x8 x9 d10 L1 h)):=ax (by kernel_rfl)
theorem axr:aeZ P K x1 j2 x4 x6 x7 x8 x9 d10 ay dS L1 h=
 (bZ dS false
 (OP (af true 4 h ay) fun jB=>
 OP (af true 4 h x6) fun cS=>
 ak P 86 [jB,cS] h fun gv h_1=>
 OP (ai .gtr gv (.int .i64 (0))) fun gh=>
 Ca P K x1 j2 x4 x6 x7 x8 x9 d10 ay dS gh L1 h_1)
 (Ca P K x1 j2 x4 x6 x7 x8 x9 d10 ay dS undef L1 h)):=ax (by kernel_rfl)
theorem axs:GY P K x1 j2 x4 x6 x7 x8 x9 d10 L1 h=
 (OP (ai .add d10 (.int .i64 (1))) fun cF=>
 ([x1,j2,x4,x6,x8,x9]:List Value)=[x1,j2,x4,x6,x8,x9]∧L1 [x7,cF] h):=ax (by kernel_rfl)
theorem axu (x1 j2 x4 x6 x8 x9:Value) (L1:LQ) (x7 d10:Value) (h:ae):PU P K x1 j2 x4 x6 x8 x9 L1 [x7,d10] h=
 (OP (aK 0 j2) fun a9=>
 OP (aK 0 a9) fun bQ=>
 OP (af false 1 h bQ) fun aQ=>
 OP (ai .sub aQ x1) fun aW=>
 OP (ai .leq d10 aW) fun bm=>
 aM bm
 (OP (af true 4 h x8) fun bM=>
 (True)∧
 OP (aK 2 j2) fun bt=>
 OP (af false 1 h bt) fun bC=>
 (True)∧
 OP (ai .add x1 d10) fun cA=>
 OP (ai .sub cA (.int .i64 (1))) fun cR=>
 OP (aU 4 bC cR) fun ca=>
 OP (af true 4 h ca) fun cO=>
 (True)∧
 ak P 87 [bM,cO] h fun dI h_1=>
 (True)∧
 OH (aI 4 h_1 x8 dI) fun _ h_2=>
 (True)∧
 OP (af true 4 h_2 x9) fun bX=>
 (True)∧
 OP (af true 3 h_2 j2) fun dd=>
 (True)∧
 OP (ai .add x1 d10) fun cV=>
 OP (ai .sub cV (.int .i64 (1))) fun dR=>
 ak P 85 [dd,dR] h_2 fun dJ h_3=>
 (af true 4 h_3 x9=some bX∧True)∧
 ak P 87 [bX,dJ] h_3 fun dC h_4=>
 (True)∧
 OH (aI 4 h_4 x9 dC) fun _ h_5=>
 (True)∧
 OH (aX 107 [(.bool false),(.slice none 0 0),(.bool false),(.slice none 0 0)] h_5) fun ay h_6=>
 OP (dH h_6 ay) fun u=>
 (True)∧
 OP (aK 0 j2) fun dn=>
 OP (aK 1 dn) fun bO=>
 OP (af false 1 h_6 bO) fun ba=>
 (af false 1 h_5 bO=some ba∧True)∧
 ak P 75 [ba] h_6 fun cj h_7=>
 (dH h_7 ay=some u∧True)∧
 OP (af true 4 h_7 x8) fun cd=>
 (af true 4 h_5 x8=some cd∧af true 4 h_6 x8=some cd∧True)∧
 ak P 88 [cj,cd] h_7 fun gU h_8=>
 (dH h_8 ay=some u∧True)∧
 OP (af true 4 h_8 x9) fun eX=>
 (af true 4 h_5 x9=some eX∧af true 4 h_6 x9=some eX∧af true 4 h_7 x9=some eX∧True)∧
 ak P 77 [gU,eX] h_8 fun fT h_9=>
 (dH h_9 ay=some u∧True)∧
 OH (aI 4 h_9 ay fT) fun _ h_10=>
 (True)∧
 OP (ai .eql x7 (.int .i64 (0))) fun eP=>
 aeZ P K x1 j2 x4 x6 x7 x8 x9 d10 ay eP L1 h_10)
 (ae0 P K x4 x6 x7 h)):=ax (by kernel_rfl)
theorem axt:ae0 P K x4 x6 x7 h=
 (OP (af true 4 h x6) fun gJ=>
 OH (aI 4 h x4 gJ) fun _ h_1=>
 OP (af true 4 h_1 x4) fun r0=>
 K (.tuple #[r0,x7]) h_1):=ax (by kernel_rfl)
def Ku:Prop:=
 OH (bk 102 h j0) fun j2 h_1=>
 OH (aX 107 [(.bool false),(.slice none 0 0),(.bool false),(.slice none 0 0)] h_1) fun x4 h_2=>
 ak P 75 [(.int .i64 (0))] h_2 fun az h_3=>
 OH (aX 107 [(.bool false),(.slice none 0 0),(.bool false),(.slice none 0 0)] h_3) fun x6 h_4=>
 OH (aI 4 h_4 x6 az) fun _ h_5=>
 ak P 75 [(.int .i64 (0))] h_5 fun aA h_6=>
 ak P 75 [(.int .i64 (0))] h_6 fun aP h_7=>
 OH (aX 107 [(.bool false),(.slice none 0 0),(.bool false),(.slice none 0 0)] h_7) fun x8 h_8=>
 OH (aX 107 [(.bool false),(.slice none 0 0),(.bool false),(.slice none 0 0)] h_8) fun x9 h_9=>
 OH (aI 4 h_9 x8 aA) fun _ h_10=>
 OH (aI 4 h_10 x9 aP) fun _ h_11=>
 cG [(.int .i64 (0)),(.int .i64 (1))] h_11 fun L1 xs hx=>
 PU P K x1 j2 x4 x6 x8 x9 L1 xs hx
theorem e44:aj P Ed (aR [.cell true 4 4,.tmp 5] K) (bp [j0,x1]) h=Ku P K j0 x1 h:=by kernel_rfl
theorem f44 {K:VK} {j0 x1:Value} {h:ae} (H:Ku Tryz.prog K j0 x1 h):ak Tryz.prog 44 [j0,x1] h K:=
 bF k44 (Nat.le_of_ble_eq_true rfl) ((e44 Tryz.prog K j0 x1 h).mpr H)
end
end Go.Proofs.YtelmdbpaoifmoaaGreat

namespace Go.Proofs.YtelmdbpaoifmoaaGreat
open Go.Sim

def jC (h:ae) (v:Value) (cs:List (List (List UInt8)×Int)):Prop:=
 ∃rows,RS h 24 2 v rows∧rows.length=cs.length∧∀(k:Nat) (row:List Value) (c:List (List UInt8)×Int),rows[k]?=some row→cs[k]?=some c→∃vs,row=[vs,I c.2]∧SS h vs c.1

theorem jC.mono {h h':ae} {v:Value} {cs:List (List (List UInt8)×Int)} (x:EX h h') (p:jC h v cs):jC h' v cs:=
 let ⟨rows,a,b,c⟩:=p;⟨rows,a.mono x,b,fun k row q h1 h2=>let ⟨vq,e,m⟩:=c k row q h1 h2;⟨vq,e,m.mono x⟩⟩
theorem jC.len {h:ae} {v:Value} {cs:List (List (List UInt8)×Int)} (p:jC h v cs):aY v=some (I cs.length):=by
 obtain ⟨rows,a,b,_⟩:=p;rw [←b];exact a.len
theorem jC.get {h:ae} {v:Value} {cs:List (List (List UInt8)×Int)} (p:jC h v cs) {k:Nat} (hk:k<cs.length):∃i o vs,aU 2 v (I k)=some (pt i o)∧af true 2 h (pt i o)=some (.agg #[vs,I cs[k].2])∧SS h vs cs[k].1:=by
 obtain ⟨rows,a,b,c⟩:=p
 have bV:k<rows.length:=by omega
 obtain ⟨i,o,cells,g1,g2,g3,g4⟩:=a.get bV
 obtain ⟨vq,e,m⟩:=c k _ _ (List.getElem?_eq_getElem bV) (List.getElem?_eq_getElem hk)
 have:=Q0 g2 g3 g4
 rw [e] at this
 exact ⟨i,o,vq,g1,this,m⟩

def tg (qs:List Rat):Bool:=decide ((qs.getD (qs.length-1) 0).num=0)
def dB (qs:List Rat) (w:Int):Bool:=(((decide (1≤qs.length)&&decide (qs.length≤8))&&(decide (0≤w)&&decide (w≤50)))&& !tg qs)&&(!qs.any eT&&decide (eA qs=1))

theorem AS {qs:List Rat} (h:qs.any eT=false):∀q∈qs,cw 4 q:=by
 intro q hq
 have:eT q=false:=by
  cases e:eT q with
  | false=>rfl
  | true=>rw [List.any_eq_true.2 ⟨q,hq,e⟩] at h;cases h
 unfold eT sC at this
 rw [Bool.or_eq_false_iff,Bool.not_eq_false',Bool.and_eq_true,decide_eq_true_eq,decide_eq_true_eq] at this
 exact this.2

theorem adw:cw 1 ((1:Int):Rat):=by constructor <;> decide

theorem Yh (p q:Rat):decide (lX p q=0)=decide (p=q):=by
 rw [decide_eq_decide]
 unfold lX
 constructor
 ·intro h
  split at h
  ·assumption
  ·split at h <;> omega
 ·intro h;rw [if_pos h]

section
variable {h : ae} {K : Value → ae → Prop}

theorem ajb {v0 v:Value} {cs:List (List Rat×Int)} (hv:LK h v cs) (hn:cs.length≤3) (hs:∀c∈cs,(∀q∈c.1,cw uH q)∧c.1.length≤1000)
  (kN:cs.all (fun c=>dB c.1 c.2)=false→∀h',EX h h'→K (.tuple #[.slice none 0 0,I 1]) h')
  (hk:cs.all (fun c=>dB c.1 c.2)=true→∀h',EX h h'→K (.tuple #[v0,I 0]) h'):
  cG [(.int .i64 (0))] h fun L1 xs hx=>PK Tryz.prog K v0 v (I cs.length) L1 xs hx:=by
 refine dc (σ:=Nat×ae) (fun q=>[I q.1]) (fun q=>q.2) (fun q=>q.1≤cs.length∧EX h q.2∧(cs.take q.1).all (fun c=>dB c.1 c.2)=true) (fun q=>cs.length-q.1) (0,h) rfl rfl ⟨Nat.zero_le _,EX.refl _,by simp⟩ ?_
 rintro ⟨i,g⟩ ⟨hi,xg,eW⟩ L hL
 simp only at hi xg eW hL⊢
 rw [axm]
 simp only [cI,ah,bK]
 refine ⟨fun aC=>?_,fun cH=>?_⟩
 rotate_left
 ·have fN:i=cs.length:=by omega
  subst fN
  rw [List.take_length] at eW
  rw [axp]
  exact hk eW g xg
 have bf:i<cs.length:=by omega
 obtain ⟨b,o,vq,u1,u2,u3⟩:=(hv.mono xg).get bf
 obtain ⟨sq,sl⟩:=hs _ (List.getElem_mem bf)
 have nok:dB cs[i].1 cs[i].2=false→cs.all (fun c=>dB c.1 c.2)=false:=by
  intro hb
  cases e:cs.all (fun c=>dB c.1 c.2) with
  | false=>rfl
  | true=>rw [List.all_eq_true] at e;rw [e _ (List.getElem_mem bf)] at hb;cases hb
 have yok:dB cs[i].1 cs[i].2=true→(cs.take (i+1)).all (fun c=>dB c.1 c.2)=true:=by
  intro hb
  rw [List.take_succ_eq_append_getElem bf,List.all_append,eW]
  simpa using hb
 generalize cs[i].1=qs at*
 generalize cs[i].2=w at*
 obtain ⟨rq,rs,_,_⟩:=id u3.1
 obtain ⟨t1,t2⟩:=rs.one
 have e7:aX 102 [(.int .i64 (0)),(.int .i64 (0)),(.slice none 0 0)] g=some (pt g.length 0,g++[.arr 102 [I 0,I 0,.slice none 0 0]]):=rfl
 simp only [u1,u2,ah,e7,aE]
 have y1:EX g (g++[.arr 102 [I 0,I 0,.slice none 0 0]]):=EX.append _ _
 have j1:(g++[aq.arr 102 [I 0,I 0,.slice none 0 0]])[g.length]?=some (.arr 102 [I 0,I 0,.slice none 0 0]):=bR
 generalize g++[aq.arr 102 [I 0,I 0,.slice none 0 0]]=ga at y1 j1⊢
 have st:aI 3 ga (pt g.length 0) (.agg #[I qs.length,I w,vq])=some (undef,ga.set g.length (.arr 102 [I qs.length,I w,vq])):=by
  simp [aI,ta,j1,gS,cZ,Value.cells,setAt]
 simp only [st,aE]
 have y2:EX g (ga.set g.length (.arr 102 [I qs.length,I w,vq])):=y1.set (Nat.le_refl _) _
 have j2:(ga.set g.length (.arr 102 [I qs.length,I w,vq]))[g.length]?=some (.arr 102 [I qs.length,I w,vq]):=cM j1
 generalize ga.set g.length (.arr 102 [I qs.length,I w,vq])=gb at y2 j2⊢
 have xb:=xg.trans y2
 have l0:∀{g':ae},EX gb g'→af false 1 g' (pt g.length 0)=some (I qs.length):=fun x=>by simp [af,aO,x.get j2,ck]
 have l1:∀{g':ae},EX gb g'→af false 1 g' (pt g.length 1)=some (I w):=fun x=>by simp [af,aO,x.get j2,ck]
 have l2:∀{g':ae},EX gb g'→af false 1 g' (pt g.length 2)=some vq:=fun x=>by simp [af,aO,x.get j2,ck]
 have la:∀{g':ae},EX gb g'→af true 3 g' (pt g.length 0)=some (.agg #[I qs.length,I w,vq]):=fun x=>by simp [af,aO,x.get j2,ck]
 have om:∀{g':ae},EX gb g'→QL g' vq qs:=fun x=>u3.1.mono (y2.trans x)
 -- it may not be
 have bad:∀{g':ae},EX gb g'→dB qs w=false→K (.tuple #[.slice none 0 0,.int .i64 (1)]) g':=fun x hb=>kN (nok hb) _ (xb.trans x)
 have UK:∀{g':ae} (t u:Value),EX gb g'→dB qs w=false→bL t (.bool true) u=some (B true)→GX Tryz.prog K v0 v (I cs.length) (I i) t u L g':=by
  intro g' t u x hb ht
  rw [agW,ht]
  simp only [ah,di]
  exact bad x hb
 have UJ:∀{g':ae} (t u:Value),EX gb g'→dB qs w=false→bL t (.bool true) u=some (B true)→GW Tryz.prog K v0 (pt g.length 0) v (I cs.length) (I i) t u L g':=by
  intro g' t u x hb ht
  rw [agV,ht]
  simp only [ah,di]
  exact bad x hb
 have UI:∀{g':ae},EX gb g'→dB qs w=false→PT Tryz.prog K v0 (pt g.length 0) v (I cs.length) (I i) (B true) L g':=by
  intro g' x hb
  rw [agU]
  simp only [eZ]
  exact UJ _ _ x hb rfl
 have UH:∀{g':ae},EX gb g'→dB qs w=false→PQ Tryz.prog K v0 (pt g.length 0) v (I cs.length) (I i) (B true) L g':=by
  intro g' x hb
  rw [agS]
  simp only [eZ]
  rw [agT]
  simp only [dA,ah]
  exact UI x hb
 have UG:∀{g':ae},EX gb g'→dB qs w=false→PN Tryz.prog K v0 (pt g.length 0) v (I cs.length) (I i) (B true) L g':=by
  intro g' x hb
  rw [agQ]
  simp only [eZ]
  rw [agR]
  simp only [dA,ah]
  exact UH x hb
 simp only [bW,Nat.add_zero,ah,l0 (EX.refl gb),cI]
 rw [axn]
 by_cases h1:1≤qs.length
 rotate_left
 ·have hb:dB qs w=false:=by unfold dB;rw [decide_eq_false h1];rfl
  rw [decide_eq_true (show (qs.length:Int)<1 by omega)]
  simp only [eZ]
  rw [agP]
  simp only [dA,ah]
  exact UG (EX.refl gb) hb
 rw [decide_eq_false (show ¬(qs.length:Int)<1 by omega)]
 simp only [dO,bW,Nat.add_zero,ah,l0 (EX.refl gb),fe]
 rw [agP]
 simp only [cY,ah]
 by_cases h8:qs.length≤8
 rotate_left
 ·have hb:dB qs w=false:=by unfold dB;rw [decide_eq_false h8];simp
  rw [decide_eq_true (show (8:Int)<(qs.length:Int) by omega)]
  exact UG (EX.refl gb) hb
 rw [decide_eq_false (show ¬(8:Int)<(qs.length:Int) by omega),agQ]
 simp only [dO,bW,Nat.add_zero,Nat.zero_add,ah,l1 (EX.refl gb),cI]
 rw [agR]
 simp only [cY,ah]
 by_cases w0:0≤w
 rotate_left
 ·have hb:dB qs w=false:=by unfold dB;rw [decide_eq_false w0];simp
  rw [decide_eq_true (show w<0 by omega)]
  exact UH (EX.refl gb) hb
 rw [decide_eq_false (show ¬w<0 by omega),agS]
 simp only [dO,bW,Nat.add_zero,Nat.zero_add,ah,l1 (EX.refl gb),fe]
 rw [agT]
 simp only [cY,ah]
 by_cases tC:w≤50
 rotate_left
 ·have hb:dB qs w=false:=by unfold dB;rw [decide_eq_false tC];simp
  rw [decide_eq_true (show 50<w by omega)]
  exact UI (EX.refl gb) hb
 rw [decide_eq_false (show ¬50<w by omega),agU]
 have w1:IntKind.wrap .i64 ((qs.length:Int)-1)=((qs.length-1:Nat):Int):=by rw [wrap64 (by omega) (by omega)];omega
 obtain ⟨b5,o5,r5,s1,s2,s3⟩:=(om (EX.refl gb)).get (k:=qs.length-1) (by omega)
 simp only [dO,bW,Nat.add_zero,Nat.zero_add,ah,l2 (EX.refl gb),l0 (EX.refl gb),fz,w1,s1,s2]
 refine Ss s3 ?_
 intro g1 x1
 have hz:decide (iU (qs[qs.length-1]'(by omega)).num=0)=tg qs:=by
  unfold tg
  rw [List.getD_eq_getElem?_getD,List.getElem?_eq_getElem (by omega),Option.getD_some,decide_eq_decide]
  unfold iU
  split
  ·simp [*]
  ·split <;> simp [*]
 simp only [fX,ah,hz]
 cases ZT:tg qs with
 | true=>
  have hb:dB qs w=false:=by unfold dB;rw [ZT];simp
  exact UJ _ _ x1 hb rfl
 | false=>
 rw [agV]
 simp only [cY,ah,dp,bW,Nat.zero_add,l2 x1]
 refine C82 (om x1) sq sl ?_
 intro g2 x2
 have az:=x1.trans x2
 rw [axo]
 cases gB:qs.any eT with
 | true=>
  have hb:dB qs w=false:=by unfold dB;rw [gB];simp
  simp only [eZ]
  exact UK _ _ az hb rfl
 | false=>
 simp only [dO,la az,ah]
 have s4:=AS gB
 refine St (age:=0) (om az) (Nat.zero_le _) s4 (by omega) ?_
 intro r3 g3 x3 yN
 rw [List.drop_zero] at yN
 have ssz:=xw s4 qs.length (Nat.le_refl _)
 rw [List.take_length] at ssz
 refine xG (n:=1) (by decide) (by decide) ?_
 intro r4 g4 x4 wE
 refine IF (yN.mono x4) wE ssz adw (by omega) ?_
 intro g5 x5
 have bc:=az.trans (x3.trans (x4.trans x5))
 have hc:(!decide (lX (eA qs) ((1:Int):Rat)=0))= !decide (eA qs=1):=by rw [Yh];rfl
 simp only [ng,ah,hc]
 have aB:dB qs w=decide (eA qs=1):=by
  unfold dB
  rw [decide_eq_true h1,decide_eq_true h8,decide_eq_true w0,decide_eq_true tC,ZT,gB];simp
 by_cases ik:eA qs=1
 ·rw [decide_eq_true ik] at aB⊢
  rw [agW]
  simp only [Bool.not_true,cY,ah,dp,cD,inc i (by omega),true_and]
  exact hL (i+1,g5) ⟨by show i+1≤_;omega,xb.trans bc,yok aB⟩ (by show cs.length-(i+1)<cs.length-i;omega)
 ·rw [decide_eq_false ik] at aB⊢
  exact UK _ _ bc aB rfl

end
end Go.Proofs.YtelmdbpaoifmoaaGreat


namespace Go.Proofs.YtelmdbpaoifmoaaGreat
open Go.Sim Go.ChangeShapes Go.WideShapes Go.ChangeAt Go.RowKit

set_option maxRecDepth 100000
theorem LY:Tryz.prog.cellsOf 27=1:=by kernel_rfl
theorem aqg:Tryz.prog.cellsOf 22=1:=by kernel_rfl
theorem EL:Tryz.prog.cellsOf 24=2:=by kernel_rfl
theorem aAs:Tryz.prog.underlying 22=some (.slice 27):=by kernel_rfl
theorem aia:Tryz.prog.underlying 27=some .string:=by kernel_rfl
theorem Rt:Tryz.prog.underlying 25=some (.slice 24):=by kernel_rfl
section
variable {H : Type} {enc : TypeId × Value → H} {W : World} {ρ : aF} {h : ae}

theorem aAr:∀n cs (y:DataW H×List MemPlace),DataW.trod enc Tryz.prog W 0 (fun _=>true) true n 27 cs=some y→cs.length=Tryz.prog.cellsOf 27∧∀x∈cs,ee x=true:=by
 intro n cs y h
 obtain ⟨s,rfl,_,_⟩:=DataW.trod_string aia h
 exact ⟨by rw [LY];rfl,by simp [ee]⟩

theorem aAa:∀{n:Nat} {xs:List Value},xs.length=n*1→(∀i,i<n→∃m,∃y:DataW H×List MemPlace,DataW.trod enc Tryz.prog W 0 (fun _=>true) true m 27 ((xs.drop (i*1)).take 1)=some y)→∃ls:List (List UInt8),ls.length=n∧xs=ls.map S:=by
 intro n
 induction n with
 | zero=>intro xs hx _;exact ⟨[],rfl,by simpa using hx⟩
 | succ n ih=>
  intro xs hx hy
  cases xs with
  | nil=>simp at hx
  | cons x xs=>
   obtain ⟨m,y,h0⟩:=hy 0 (by omega)
   obtain ⟨s,e1,_⟩:=DataW.trod_string aia h0
   have ex:x=.string s:=by simpa using e1
   obtain ⟨ls,l1,l2⟩:=ih (xs:=xs) (by simpa using hx) fun i hi=>by
    obtain ⟨m,y,h1⟩:=hy (i+1) (by omega)
    refine ⟨m,y,?_⟩
    simpa using h1
   refine ⟨Go.Sim.bytes s::ls,by simp [l1],?_⟩
   rw [List.map_cons,amq,←ex,←l2]

theorem arz {fuel:Nat} {v:Value} {x:DataW H×List MemPlace} (hd:DataW.trod enc Tryz.prog W 0 (fun _=>true) true fuel 22 [v]=some x) (HR:aT Tryz.prog ρ h W) (fR:iG h):
  ∃(au:aF) (g:ae) (v':Value) (ls:List (List UInt8)),ρ.le au∧aT Tryz.prog au (h++g) W∧iG (h++g)∧aw au v' v∧eL v'=true∧SS (h++g) v' ls:=by
 obtain ⟨au,g,v',n,xs,e1,e2,e3,e4,e5,e6,e7,e8,e9⟩:=arv (P:=Tryz.prog) (W:=W) (enc:=enc) (ρ:=ρ) (h:=h) aAs (by rw [LY];omega) aAr hd HR fR
 rw [LY] at e7 e9
 obtain ⟨ls,q1,rfl⟩:=aAa e7 e9
 subst q1
 refine ⟨au,g,v',ls,e1,e2,e3,e4,e5,?_⟩
 rcases e6 with ⟨hv,h0⟩ | ⟨i,rfl,h0⟩
 ·have:ls=[]:=List.length_eq_zero_iff.1 h0
  subst this
  rcases hv with rfl | rfl <;> exact ⟨rfl,fun k hk=>by simp at hk⟩
 ·rcases h0 with h0 | h0
  ·have:ls=[]:=List.length_eq_zero_iff.1 h0
   subst this
   exact ⟨rfl,fun k hk=>by simp at hk⟩
  ·exact SS.sl h0

theorem aqh {n:Nat} {cs:List Value} {y:DataW H×List MemPlace} (hd:DataW.trod enc Tryz.prog W 0 (fun _=>true) true n 24 cs=some y) (HR:aT Tryz.prog ρ h W) (fR:iG h):
  ∃(au:aF) (g:ae) (row:List Value) (c:List (List UInt8)×Int),ρ.le au∧aT Tryz.prog au (h++g) W∧iG (h++g)∧bn au row cs∧(∀x∈row,eL x=true)∧row.length=Tryz.prog.cellsOf 24∧∃vs,row=[vs,I c.2]∧SS (h++g) vs c.1:=by
 obtain ⟨y0,y1,m,_,hl,h0,h1⟩:=trod_struct2 Tryz.underlying24 hd
 simp only [EL,aqg,EM] at hl h0 h1
 obtain ⟨c0,c1,rfl⟩:=auO hl
 simp at h0 h1
 obtain ⟨w,e1,_,_⟩:=DataW.trod_int Tryz.underlying3 h1
 simp at e1
 subst e1
 obtain ⟨au,g,v',ls,a1,a2,a3,a4,a5,a6⟩:=arz h0 HR fR
 refine ⟨au,g,[v',I w],(ls,w),a1,a2,a3,.cons a4 (.cons (.int _ _) .nil),?_,by rw [EL];rfl,v',rfl,a6⟩
 intro x hx
 rcases List.mem_cons.1 hx with rfl | hx
 ·exact a5
 ·rw [List.mem_singleton.1 hx];rfl

theorem aru {b:Nat} {v:Value} {d:DataW H} {ps:List MemPlace} (aB:Value.okWide Tryz.prog W .any b 25 v) (hd:DataW.Trod enc Tryz.prog W 0 (fun _=>true) true 25 v d ps) (HR:aT Tryz.prog ρ h W) (fR:iG h):
  ∃(au:aF) (g:ae) (v':Value) (cs:List (List (List UInt8)×Int)),ρ.le au∧aT Tryz.prog au (h++g) W∧iG (h++g)∧aw au v' v∧jC (h++g) v' cs:=by
 simp only [Value.okWide,Rt] at aB
 obtain ⟨fuel,hf⟩:=hd
 rw [ahQ Rt aB] at hf
 obtain ⟨au,g,v',rows,is,e1,e2,e3,e4,e5,e6,e7,e8,e9⟩:=arx (P:=Tryz.prog) (W:=W) (enc:=enc) (ρ:=ρ) (h:=h) (I:=List (List UInt8)×Int) Rt (by rw [EL];omega)
  (fun h row c=>∃vs,row=[vs,I c.2]∧SS h vs c.1) (fun ⟨vs,a,b⟩=>⟨vs,a,b.mono (EX.append _ _)⟩) (fun n cs y h1 h2 h3=>aqh h1 h2 h3) hf aB HR fR
 refine ⟨au,g,v',is,e1,e2,e3,e4,rows,⟨fun r hr=>by rw [e7 r hr,EL],?_⟩,e8,e9⟩
 rcases e6 with e6 | ⟨i,a,b⟩
 ·exact .inl e6
 ·exact .inr ⟨i,0,a,b.imp id fun c=>⟨[],[],by simpa using c,rfl⟩⟩

end
end Go.Proofs.YtelmdbpaoifmoaaGreat


namespace Go.Proofs.YtelmdbpaoifmoaaGreat
open Go.Sim

def bY (cs:List (List (List UInt8)×Int)):List (List Rat×Int):=cs.map fun c=>(c.1.map bP,c.2)
def jG (cs:List (List (List UInt8)×Int)):Bool:=cs.all fun c=>c.1.all isNum
def re (cs:List (List (List UInt8)×Int)):Bool:=(decide (1≤cs.length)&&decide (cs.length≤3))&&(bY cs).all fun c=>dB c.1 c.2

section
variable {h : ae} {K : Value → ae → Prop}

theorem C43 {v:Value} {cs:List (List (List UInt8)×Int)} (hv:jC h v cs) (hl:∀c∈cs,c.1.length≤1000∧∀s∈c.1,s.length≤700) (hn:cs.length≤1000)
  (sM:jG cs=false→∀h',EX h h'→K (.tuple #[.slice none 0 0,I 2]) h')
  (kN:jG cs=true→re cs=false→∀h',EX h h'→K (.tuple #[.slice none 0 0,I 1]) h')
  (hk:jG cs=true→re cs=true→∀v' h',EX h h'→LK h' v' (bY cs)→K (.tuple #[v',I 0]) h'):ak Tryz.prog 43 [v] h K:=by
 refine f43 ?_
 unfold Kt
 have hlen:=hv.len
 simp only [hlen,ah]
 refine dc (σ:=Nat×Value×ae) (fun q=>[q.2.1,I q.1]) (fun q=>q.2.2) (fun q=>q.1≤cs.length∧EX h q.2.2∧jG (cs.take q.1)=true∧nR h.length q.2.2 q.2.1 (bY (cs.take q.1))) (fun q=>cs.length-q.1)
  (0,.slice none 0 0,h) rfl rfl ⟨Nat.zero_le _,EX.refl _,by simp [jG],by simpa [bY] using nR.start h.length h⟩ ?_
 rintro ⟨i,vo,g⟩ ⟨hi,xg,qt,own⟩ L hL
 simp only at hi xg qt own hL⊢
 rw [axq]
 simp only [cI,ah,bK]
 refine ⟨fun aC=>?_,fun cH=>?_⟩
 ·have bf:i<cs.length:=by omega
  obtain ⟨b,o,vs,u1,u2,u3⟩:=(hv.mono xg).get bf
  obtain ⟨l1,l2⟩:=hl _ (List.getElem_mem bf)
  have e7:aX 24 [(.slice none 0 0),(.int .i64 (0))] g=some (pt g.length 0,g++[.arr 24 [.slice none 0 0,I 0]]):=rfl
  simp only [u1,u2,ah,e7,aE]
  have y1:EX g (g++[.arr 24 [.slice none 0 0,I 0]]):=EX.append _ _
  have j1:(g++[aq.arr 24 [.slice none 0 0,I 0]])[g.length]?=some (.arr 24 [.slice none 0 0,I 0]):=bR
  generalize g++[aq.arr 24 [.slice none 0 0,I 0]]=ga at y1 j1⊢
  rw [ef j1]
  simp only [aE]
  have y2:EX g (ga.set g.length (.arr 24 [vs,I cs[i].2])):=y1.set (Nat.le_refl _) _
  have j2:(ga.set g.length (.arr 24 [vs,I cs[i].2]))[g.length]?=some (.arr 24 [vs,I cs[i].2]):=cM j1
  generalize ga.set g.length (.arr 24 [vs,I cs[i].2])=gb at y2 j2⊢
  rw [cn j2,ah]
  refine C80 (u3.mono y2) l2 l1 (fun eW vq g1 bq x1 ho=>?_) (fun cW g1 x1=>?_)
  ·have hq:=ho.qb
   have hlq:=hq.1.len
   obtain ⟨rq,rs,_,_⟩:=id hq.1
   have pJ:af false 1 g1 (pt g.length 1)=some (I cs[i].2):=by simp [af,aO,x1.get j2,ck]
   have bl:∀a c:Int,cT [(.int .i64 (0)),(.int .i64 (0))] [(0,1,I a),(1,1,I c)]=some (.agg #[I a,I c]):=fun _ _=>rfl
   have bl2:∀a c:Int,cT [(.int .i64 (0)),(.int .i64 (0)),(.slice none 0 0)] [(0,2,.agg #[I a,I c]),(2,1,vq)]=some (.agg #[I a,I c,vq]):=fun a c=>by
    rcases rs.2 with ⟨e,_⟩ | ⟨i,o,e,_⟩ <;> rw [e] <;> rfl
   simp only [eJ,fq,fC,ah,nO,Bool.not_true,dp,hlq,bW,Nat.zero_add,pJ,bl,bl2]
   have x2:=y2.trans x1
   refine (own.ex x2).app (xg.trans x2) hq rfl (by unfold bY;rw [List.length_map,List.length_take];omega) ?_
   intro v' g3 x3 _ B3
   simp only [cD,ah,inc i (by omega),true_and]
   refine hL (i+1,v',g3) ⟨by show i+1≤_;omega,x3,?_,?_⟩ (by show cs.length-(i+1)<cs.length-i;omega)
   ·show jG (cs.take (i+1))=true
    unfold jG at qt⊢
    rw [List.take_succ_eq_append_getElem bf,List.all_append,qt]
    simpa using eW
   ·show nR h.length g3 v' (bY (cs.take (i+1)))
    rw [List.take_succ_eq_append_getElem bf]
    have e:bY (cs.take i++[cs[i]])=bY (cs.take i)++[(cs[i].1.map bP,cs[i].2)]:=by unfold bY;rw [List.map_append];rfl
    rw [e]
    exact B3
  ·simp only [eJ,fq,fC,ah,nO,Bool.not_false,di]
   refine sM ?_ _ (xg.trans (y2.trans x1))
   cases he:jG cs with
   | false=>rfl
   | true=>
    unfold jG at he
    rw [List.all_eq_true] at he
    rw [he _ (List.getElem_mem bf)] at cW
    cases cW
 ·have fN:i=cs.length:=by omega
  subst fN
  rw [List.take_length] at qt own
  have kN:=kN qt
  have hk:=hk qt
  have lk:=own.lk
  have jl:(bY cs).length=cs.length:=by simp [bY]
  have BR:=lk.len
  rw [jl] at BR
  unfold re at kN hk
  rw [axk]
  simp only [hlen,ah,cI]
  rw [axl]
  by_cases h1:1≤cs.length
  rotate_left
  ·rw [decide_eq_false h1] at kN
   rw [decide_eq_true (show (cs.length:Int)<1 by omega)]
   simp only [eZ]
   rw [agO]
   simp only [dA,ah,di]
   exact kN rfl g xg
  rw [decide_eq_true h1] at kN hk
  rw [decide_eq_false (show ¬(cs.length:Int)<1 by omega)]
  simp only [dO,hlen,ah,fe]
  rw [agO]
  simp only [cY,ah]
  by_cases h3:cs.length≤3
  rotate_left
  ·rw [decide_eq_false h3] at kN
   rw [decide_eq_true (show (3:Int)<(cs.length:Int) by omega)]
   simp only [di]
   exact kN rfl g xg
  rw [decide_eq_true h3] at kN hk
  rw [decide_eq_false (show ¬(3:Int)<(cs.length:Int) by omega)]
  simp only [dp,BR,ah]
  rw [←jl]
  refine ajb lk (by omega) (fun c hc=>?_) (fun ha h' x=>kN (by rw [ha];rfl) h' (xg.trans x)) (fun ha h' x=>hk (by rw [ha];rfl) vo h' (xg.trans x) (lk.mono x))
  obtain ⟨d,hd,rfl⟩:=List.mem_map.1 hc
  obtain ⟨l1,l2⟩:=hl d hd
  refine ⟨fun q hq=>?_,by simpa using l1⟩
  obtain ⟨s,hs,rfl⟩:=List.mem_map.1 hq
  exact ayT (l2 s hs)

end
end Go.Proofs.YtelmdbpaoifmoaaGreat


namespace Go.Proofs.YtelmdbpaoifmoaaGreat
open Go.Sim

def Cell (g:ae) (i:Nat) (q:Rat):Prop:=∃a b c d,g[i]?=some (.arr 107 [B a,b,B c,d])∧RV g (.agg #[B a,b,B c,d]) q

theorem Cell.mono {g g':ae} {i:Nat} {q:Rat} (x:EX g g') (p:Cell g i q):Cell g' i q:=let ⟨a,b,c,d,e,r⟩:=p;⟨a,b,c,d,x.get e,r.mono x⟩
theorem Cell.lt {g:ae} {i:Nat} {q:Rat} (p:Cell g i q):i<g.length:=let ⟨_,_,_,_,e,_⟩:=p;(List.getElem?_eq_some_iff.1 e).1
theorem Cell.load {g:ae} {i:Nat} {q:Rat} (p:Cell g i q):∃v,af true 4 g (pt i 0)=some v∧RV g v q:=let ⟨_,_,_,_,e,r⟩:=p;⟨_,iu e,r⟩

structure vk (g g':ae) (i:Nat) (q:Rat):Prop where
 cell:Cell g' i q
 len:g'.length=g.length
 old:∀j,j≠i→g'[j]?=g[j]?
 val:∀{v:Value} {p:Rat},RV g v p→RV g' v p

theorem LX {g:ae} {i:Nat} {v:Value} {q:Rat} {s:Bool} {b c d:Value} (hg:g[i]?=some (.arr 107 [.bool s,b,c,d])) (hv:RV g v q):∃g',aI 4 g (pt i 0) v=some (undef,g')∧vk g g' i q:=by
 obtain ⟨a',b',c',d',rfl⟩:=hv.agg
 refine ⟨_,nN hg,⟨⟨a',b',c',d',cM hg,hv.bH hg _⟩,by simp,fun j hj=>List.getElem?_set_ne (fun h=>hj h.symm),fun h=>h.bH hg _⟩⟩

theorem vk.ex {h0 g g':ae} {i:Nat} {q:Rat} (s:vk g g' i q) (x:EX h0 g) (hi:h0.length≤i):EX h0 g':=
 ⟨by rw [s.len];exact x.1,fun j hj=>by rw [s.old j (by omega)];exact x.2 j hj⟩
theorem vk.dN {g g':ae} {i j:Nat} {q p:Rat} (s:vk g g' i q) (hj:j≠i) (c:Cell g j p):Cell g' j p:=
 let ⟨a,b,e,d,k,r⟩:=c;⟨a,b,e,d,by rw [s.old j hj];exact k,s.val r⟩

structure JA where
 aZ:Rat
 fG:Nat
 done:Rat
 iK:Rat

def bT (qs:List Rat) (w:Int) (age:Nat):Nat→JA
 | 0=>⟨0,0,0,0⟩
 | d+1=>
  let s:=bT qs w age d
  let done:=s.done+qs.getD (age+d) 0
  let iK:=s.iK+eA (qs.drop (age+d))
  let x:=(w:Rat)*done / iK
  if s.fG=0∨s.aZ<x then ⟨x,d+1,done,iK⟩ else ⟨s.aZ,s.fG,done,iK⟩

theorem rX (qs:List Rat) (w:Int) (age d:Nat):(bT qs w age (d+1)).done=(bT qs w age d).done+qs.getD (age+d) 0∧(bT qs w age (d+1)).iK=(bT qs w age d).iK+eA (qs.drop (age+d)):=by
 simp only [bT]
 split <;> exact ⟨rfl,rfl⟩

theorem O2 {q:Rat}:0<q↔0<q.num:=by
 rw [Rat.lt_iff]
 simp
theorem num_nonneg {q:Rat}:0≤q↔0≤q.num:=by
 rw [Rat.le_iff]
 simp

theorem ah0 {l:List Rat} (h:∀q∈l,0≤q):∀i,i≤l.length→0≤eA (l.take i)
 | 0,_=>by rw [List.take_zero];exact Rat.le_refl
 | i+1,hi=>by
  rw [zN (by omega)]
  exact Rat.add_nonneg (ah0 h i (by omega)) (h _ (List.getElem_mem _))

theorem vG {qs:List Rat} {w:Int} (h:dB qs w=true):(1≤qs.length∧qs.length≤8)∧(0≤w∧w≤50)∧qs.any eT=false∧eA qs=1∧(∀q∈qs,0≤q)∧∀h0:0<qs.length,0<qs[qs.length-1]:=by
 unfold dB at h
 simp only [Bool.and_eq_true,decide_eq_true_eq,Bool.not_eq_true'] at h
 obtain ⟨⟨⟨a,b⟩,c⟩,d,e⟩:=h
 have nn:∀q∈qs,0≤q:=by
  intro q hq
  have:eT q=false:=by
   cases e:eT q with
   | false=>rfl
   | true=>rw [List.any_eq_true.2 ⟨q,hq,e⟩] at d;cases d
  unfold eT at this
  rw [Bool.or_eq_false_iff,decide_eq_false_iff_not] at this
  rw [num_nonneg];omega
 refine ⟨a,b,d,e,nn,fun h0=>?_⟩
 have h1:=nn _ (List.getElem_mem (l:=qs) (n:=qs.length-1) (by omega))
 rw [num_nonneg] at h1
 rw [O2]
 unfold tg at c
 rw [List.getD_eq_getElem?_getD,List.getElem?_eq_getElem (by omega),Option.getD_some,decide_eq_false_iff_not] at c
 omega

theorem aqD {qs:List Rat} {w:Int} (h:dB qs w=true) {k:Nat} (hk:k<qs.length):0<eA (qs.drop k):=by
 obtain ⟨_,_,_,_,nn,last⟩:=vG h
 have hl:=last (by omega)
 have hn:∀q∈qs.drop k,0≤q:=fun q hq=>nn q (List.mem_of_mem_drop hq)
 have e:(qs.drop k).take ((qs.drop k).length-1+1)=qs.drop k:=List.take_of_length_le (by omega)
 have mc:(qs.drop k).length=qs.length-k:=List.length_drop
 have h1:=ah0 hn ((qs.drop k).length-1) (by omega)
 rw [←e,zN (by omega)]
 have e2:(qs.drop k)[(qs.drop k).length-1]'(by omega)=qs[qs.length-1]'(by omega):=by
  rw [List.getElem_drop]
  congr 1
  omega
 rw [e2]
 generalize eA ((qs.drop k).take ((qs.drop k).length-1))=a at*
 generalize qs[qs.length-1]'(by omega)=b at*
 grind

theorem Cz {qs:List Rat} {w:Int} (h:dB qs w=true) {age:Nat}:∀{d:Nat},age+d≤qs.length→0≤(bT qs w age d).iK∧(0<d→0<(bT qs w age d).iK)
 | 0,_=>⟨Rat.le_refl,fun h=>absurd h (by decide)⟩
 | d+1,hd=>by
  have ih:=(Cz (age:=age) (d:=d) h (by omega)).1
  have hp:=aqD h (k:=age+d) (by omega)
  rw [(rX qs w age d).2]
  generalize (bT qs w age d).iK=a at*
  generalize eA (qs.drop (age+d))=b at*
  refine ⟨by grind,fun _=>by grind⟩

theorem zJ {qs:List Rat} {w:Int} (h:dB qs w=true) {age:Nat}:∀{d:Nat},age+d≤qs.length→cw (5*d+1) (bT qs w age d).done∧cw (42*d+1) (bT qs w age d).iK
 | 0,_=>⟨cw.zero,cw.zero⟩
 | d+1,hd=>by
  obtain ⟨i1,i2⟩:=zJ (age:=age) (d:=d) h (by omega)
  obtain ⟨⟨_,l8⟩,_,hb,_⟩:=vG h
  have s4:=AS hb
  obtain ⟨e1,e2⟩:=rX qs w age d
  have hs:=xw (qs:=qs.drop (age+d)) (fun q hq=>s4 q (List.mem_of_mem_drop hq)) _ (Nat.le_refl _)
  rw [List.take_length,List.length_drop] at hs
  have hg:cw 4 (qs.getD (age+d) 0):=by
   rw [List.getD_eq_getElem?_getD,List.getElem?_eq_getElem (by omega),Option.getD_some]
   exact s4 _ (List.getElem_mem _)
  rw [e1,e2]
  have j1:=i1.add hg
  have j2:=i2.add hs
  exact ⟨cw.le j1 (show 5*d+1+4+1≤5*(d+1)+1 by omega),cw.le j2 (show 42*d+1+(5*(qs.length-(age+d))+1)+1≤42*(d+1)+1 by omega)⟩

theorem Ih {w:Int} (h0:0≤w) (h1:w≤50):cw 2 (w:Rat):=by
 refine ⟨?_,by show (1:Nat)<10^2;decide⟩
 show w.natAbs<10^2
 omega

def jk (qs:List Rat) (w:Int) (age d:Nat):Rat:=(w:Rat)*(bT qs w age (d+1)).done / (bT qs w age (d+1)).iK

theorem Rs {qs:List Rat} {w:Int} (h:dB qs w=true) {age d:Nat} (hd:age+(d+1)≤qs.length):cw 380 (jk qs w age d):=by
 obtain ⟨⟨_,l8⟩,⟨w0,tC⟩,_⟩:=vG h
 obtain ⟨i1,i2⟩:=zJ (age:=age) (d:=d+1) h hd
 have hp:=(Cz (age:=age) (d:=d+1) h hd).2 (by omega)
 rw [O2] at hp
 have j1:=((Ih w0 tC).mul i1).div i2 hp
 exact cw.le j1 (show 2+(5*(d+1)+1)+(42*(d+1)+1)≤380 by omega)

theorem HU {qs:List Rat} {w:Int} (h:dB qs w=true) {age:Nat}:∀{d:Nat},age+d≤qs.length→cw 380 (bT qs w age d).aZ
 | 0,_=>cw.zero.le (by decide)
 | d+1,hd=>by
  have ih:=HU (age:=age) (d:=d) h (by omega)
  have ht:=Rs (age:=age) (d:=d) h hd
  have e:(bT qs w age (d+1)).aZ=jk qs w age d∨(bT qs w age (d+1)).aZ=(bT qs w age d).aZ:=by
   unfold jk
   rw [(rX qs w age d).1,(rX qs w age d).2]
   simp only [bT]
   split
   ·exact .inl rfl
   ·exact .inr rfl
  rcases e with e | e <;> rw [e] <;> assumption

end Go.Proofs.YtelmdbpaoifmoaaGreat

