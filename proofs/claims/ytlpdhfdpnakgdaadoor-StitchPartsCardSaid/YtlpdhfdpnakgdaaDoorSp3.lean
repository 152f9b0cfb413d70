/-
  Part 3 of the texts behind a statement of this seat: SdA, DCt1, DCt2, DCt4, DCt5, DCt6, SdK, SdB, Pt1, Sim30, Pt2, Mpa, Mpb, SdL, DCtU, Pt3, Pt4.
-/
import Derived.Test.YtlpdhfdpnakgdaaDoorProg
import Derived.KernelRfl
import Derived.Test.YtlpdhfdpnakgdaaDoorCards
import Derived.Test.YtlpdhfdpnakgdaaDoorTie
import Derived.LaidMore
import Derived.Lay
import Derived.SevenTiedAt
import Derived.Stop.Joined
import Derived.Shelf.Strings.MapGrows
import Derived.Test.YtlpdhfdpnakgdaaDoorSp2
open List (all_cons any_append any_cons any_eq_true contains_iff_mem drop_zero foldlM getElem?_append_left getElem?_append_right getElem?_eq_getElem getElem?_set_ne getElem_mem length_append length_cons length_map length_take mem_append mem_singleton take_length take_succ_eq_append_getElem)
open Nat (add_zero le_refl zero_add zero_le)
open Option (bind_some)
namespace Go.Proofs.YtlpdhfdpnakgdaaDoor
open Go.Sim
section
variable (P : Program) (K : VK)
noncomputable section
variable (t0 : Value) (h : ad)
def AZ:=cz Tryd.prog 5 [[],[]]
@[irreducible] def c5:=df AZ
theorem k5:AZ=some (15,c5,[.tmp 2,.tmp 3]):=by kernel_rfl
def T5 (P:Program) (K:VK) (t0:Value) (h:ad):Prop:=
 OH (iO 24 h t0) λt1 z1=>
 OP (cA 0 t1) λx4=>
 OP (ax false 1 z1 x4) λx5=>
 (True)/\
 OH (bI 62 0 [(.int .i64 (0)),(.int .i64 (0))] z1 []) λx6 z2=>
 (ax false 1 z2 x4=some x5/\True)/\
 OP (cA 1 t1) λx7=>
 OP (ax false 1 z2 x7) λx8=>
 (ax false 1 z1 x7=some x8/\True)/\
 OP (cA 1 t1) λx9=>
 OP (ax false 1 z2 x9) λaw=>
 (ax false 1 z1 x9=some aw/\True)/\
 OP (cK aw) λdw=>
 OP (fJ false [dw,(.int .i64 (31))]) λeu=>
 OP (lx 62 2 x8 none (some eu)) λaJ=>
 OH (cg 62 2 16 z2 x6 aJ) λdN z3=>
 (ax false 1 z3 x4=some x5/\True)/\
 K (.tuple #[x5,dN]) z3
theorem e5:al P c5 (br [.tmp 2,.tmp 3] K) (bY [t0]) h=T5 P K t0 h:=by kernel_rfl
theorem f5 {K:VK} {t0:Value} {h:ad} (H:T5 Tryd.prog K t0 h):ay Tryd.prog 5 [t0] h K:=
 db k5 (dh rfl) ((e5 Tryd.prog K t0 h).mpr H)
end
noncomputable section
variable (s0 n1 : Value) (h : ad)
def A0:=cz Tryd.prog 6 [[],[]]
@[irreducible] def c6:=df A0
theorem k6:A0=some (11,c6,[.tmp 4]):=by kernel_rfl
def T6 (P:Program) (K:VK) (s0 n1:Value) (h:ad):Prop:=
 OP (eN s0) λx7=>
 OP (fJ false [x7,n1]) λx9=>
 OP (iQ s0 none (some x9)) λaw=>
 K aw h
theorem e6:al P c6 (br [.tmp 4] K) (bY [s0,n1]) h=T6 P K s0 n1 h:=by kernel_rfl
theorem f6 {K:VK} {s0 n1:Value} {h:ad} (H:T6 Tryd.prog K s0 n1 h):ay Tryd.prog 6 [s0,n1] h K:=
 db k6 (dh rfl) ((e6 Tryd.prog K s0 n1 h).mpr H)
end
noncomputable section
variable (k0 p1 x2 l3 aw i11 fo aO aM aW bN bB bO fh : Value) (L1 L2 : LQ) (xs : List Value) (h : ad)
def A4:=cz Tryd.prog 8 [[],[],[],[],[],[0,2,3,17,18],[19],[],[],[],[],[0,2,3,10,17,18,19],[11],[],[],[],[0,2,3,10,11,12,17,18,19,39],[0,2,3,10,11,12,17,18,19,39,42],[0,2,3,10,11,12,17,18,19,39,42,44],[0,2,3,10,11,12,17,18,19,39,45],[],[],[],[0,2,3,17,18,19],[],[]]
@[irreducible] def c8:=df A4
@[irreducible] def s8:=c8.r.r.l.r.l.l
@[irreducible] def Fv:=c8.r.r.r
@[irreducible] def qb:=s8.r.r.l.l.r.r.l.l
@[irreducible] def yT:=s8.r.r.r
@[irreducible] def yU:=qb.r.l.l.r.l.r.l
@[irreducible] def Fs:=qb.r.l.l.r.r
@[irreducible] def Fq:=qb.r.r
@[irreducible] def Fu:=yT.l
@[irreducible] def yV:=yU.r.l
@[irreducible] def yW:=yV.r.l
@[irreducible] def Ft:=yW.r.l
theorem k8:A4=some (49,c8,[.tmp 8]):=by kernel_rfl
def xx (_P:Program) (K:VK):av:=br [.tmp 8] K
def D8:av:=aG (al P Fv (xx P K)) (xx P K)
def D9:av:=bz 0 (D8 P K)
def pH:av:=aG (λf' aP=>(([0,2,3,17,18]:List Nat).map f':List Value)=[k0,x2,l3,aO,aM]/\L1 (([19]:List Nat).map f') aP) (D9 P K)
def D4:av:=aG (al P yT (pH P K k0 x2 l3 aO aM L1)) (pH P K k0 x2 l3 aO aM L1)
def D5:av:=bz 1 (D4 P K k0 x2 l3 aO aM L1)
def D6:av:=bz 2 (D5 P K k0 x2 l3 aO aM L1)
def sn:av:=aG (λf' aP=>(([0,2,3,10,17,18,19]:List Nat).map f':List Value)=[k0,x2,l3,aw,aO,aM,aW]/\L2 (([11]:List Nat).map f') aP) (D6 P K k0 x2 l3 aO aM L1)
def D7:av:=aG (al P Fq (sn P K k0 x2 l3 aw aO aM aW L1 L2)) (sn P K k0 x2 l3 aw aO aM aW L1 L2)
def xy:av:=bz 3 (D7 P K k0 x2 l3 aw aO aM aW L1 L2)
def pG:av:=aG (al P Fs (xy P K k0 x2 l3 aw aO aM aW L1 L2)) (xy P K k0 x2 l3 aw aO aM aW L1 L2)
def BS:Prop:=aB (al P s8 (pH P K k0 x2 l3 aO aM L1)) ([0,2,3,17,18]++[19]) ([k0,x2,l3,aO,aM]++xs) h
def BP:Prop:=aB (al P qb (sn P K k0 x2 l3 aw aO aM aW L1 L2)) ([0,2,3,10,17,18,19]++[11]) ([k0,x2,l3,aw,aO,aM,aW]++xs) h
def BQ:Prop:=aB (al P yU (pG P K k0 x2 l3 aw aO aM aW L1 L2)) [0,2,3,10,11,12,17,18,19,39] [k0,x2,l3,aw,i11,fo,aO,aM,aW,bN] h
def vL:Prop:=aB (al P yV (pG P K k0 x2 l3 aw aO aM aW L1 L2)) [0,2,3,10,11,12,17,18,19,39,42] [k0,x2,l3,aw,i11,fo,aO,aM,aW,bN,bB] h
def vM:Prop:=aB (al P yW (pG P K k0 x2 l3 aw aO aM aW L1 L2)) [0,2,3,10,11,12,17,18,19,39,42,44] [k0,x2,l3,aw,i11,fo,aO,aM,aW,bN,bB,bO] h
def vN:Prop:=aB (al P Ft (pG P K k0 x2 l3 aw aO aM aW L1 L2)) [0,2,3,10,11,12,17,18,19,39,45] [k0,x2,l3,aw,i11,fo,aO,aM,aW,bN,fh] h
def BR:Prop:=aB (al P Fu (pH P K k0 x2 l3 aO aM L1)) [0,2,3,17,18,19] [k0,x2,l3,aO,aM,aW] h
theorem oW:vN P K k0 x2 l3 aw i11 fo aO aM aW bN fh L1 L2 h=
 (OP (bJ bN (.bool true) fh) λfQ=>
 aT fQ
 (K fo h)
 (OP (au .add i11 (.int .i64 (1))) λaN=>
 ([k0,x2,l3,aw,aO,aM,aW]:List Value)=[k0,x2,l3,aw,aO,aM,aW]/\L2 [aN] h)):=aE (by kernel_rfl)
theorem oV:vM P K k0 x2 l3 aw i11 fo aO aM aW bN bB bO L1 L2 h=
 (bP bN false
 (OP (bJ bB bO (.bool false)) λfh=>
 vN P K k0 x2 l3 aw i11 fo aO aM aW bN fh L1 L2 h)
 (vN P K k0 x2 l3 aw i11 fo aO aM aW bN undef L1 L2 h)):=aE (by kernel_rfl)
theorem oU:vL P K k0 x2 l3 aw i11 fo aO aM aW bN bB L1 L2 h=
 (bP bB true
 (OP (au .eql fo (.int .i64 (3))) λbO=>
 vM P K k0 x2 l3 aw i11 fo aO aM aW bN bB bO L1 L2 h)
 (vM P K k0 x2 l3 aw i11 fo aO aM aW bN bB undef L1 L2 h)):=aE (by kernel_rfl)
theorem oT:BQ P K k0 x2 l3 aw i11 fo aO aM aW bN L1 L2 h=
 (bP bN false
 (OP (au .eql aw (.int .i64 (2))) λfy=>
 vL P K k0 x2 l3 aw i11 fo aO aM aW bN fy L1 L2 h)
 (vL P K k0 x2 l3 aw i11 fo aO aM aW bN undef L1 L2 h)):=aE (by kernel_rfl)
theorem KL (k0 x2 l3 aw aO aM aW:Value) (L1 L2:LQ) (i11:Value) (h:ad):BP P K k0 x2 l3 aw aO aM aW L1 L2 [i11] h=
 (OP (cK l3) λbf=>
 OP (au .lss i11 bf) λdx=>
 aT dx
 (OP (bQ 1 l3 i11) λiB=>
 OP (ax false 1 h iB) λeQ=>
 ay P 26 [k0,eQ,x2] h λb9 z1=>
 OP (au .eql b9 aw) λaU=>
 BQ P K k0 x2 l3 aw i11 b9 aO aM aW aU L1 L2 z1)
 (BR P K k0 x2 l3 aO aM aW L1 h)):=aE (by kernel_rfl)
theorem KM:BR P K k0 x2 l3 aO aM aW L1 h=
 (OP (au .add aW (.int .i64 (1))) λfz=>
 ([k0,x2,l3,aO,aM]:List Value)=[k0,x2,l3,aO,aM]/\L1 [fz] h):=aE (by kernel_rfl)
theorem KN (k0 x2 l3 aO aM:Value) (L1:LQ) (aW:Value) (h:ad):BS P K k0 x2 l3 aO aM L1 [aW] h=
 (OP (au .lss aW aM) λeP=>
 aT eP
 (OP (bQ 1 aO aW) λfY=>
 OP (ax false 1 h fY) λbA=>
 cn [(.int .i64 (0))] h λL2 xs hx=>
 BP P K k0 x2 l3 bA aO aM aW L1 L2 xs hx)
 (K (.int .i64 (0)) h)):=aE (by kernel_rfl)
def T8:Prop:=
 ay P 25 [k0,p1] h λbX z1=>
 OP (eG .not bX) λgy=>
 aT gy
 (K (.int .i64 (1)) z1)
 (OH (bI 29 2 [(.int .i64 (0))] z1 [(0,1,(.int .i64 (3))),(1,1,(.int .i64 (2)))]) λaO z2=>
 OP (cK aO) λaM=>
 cn [(.int .i64 (0))] z2 λL1 xs hx=>
 BS P K k0 x2 l3 aO aM L1 xs hx)
theorem e8:al P c8 (br [.tmp 8] K) (bY [k0,p1,x2,l3]) h=T8 P K k0 p1 x2 l3 h:=by kernel_rfl
theorem f8 {K:VK} {k0 p1 x2 l3:Value} {h:ad} (H:T8 Tryd.prog K k0 p1 x2 l3 h):ay Tryd.prog 8 [k0,p1,x2,l3] h K:=
 db k8 (dh rfl) ((e8 Tryd.prog K k0 p1 x2 l3 h).mpr H)
end
noncomputable section
variable (a0 c1 i5 : Value) (L1 : LQ) (xs : List Value) (h : ad)
def AG:=cz Tryd.prog 10 [[],[],[],[],[],[0,1],[5],[],[],[],[],[],[],[]]
@[irreducible] def pS:=df AG
@[irreducible] def Ep:=pS.r.r.l.r.l.l
@[irreducible] def Eo:=pS.r.r.r
theorem IS:AG=some (26,pS,[.tmp 4]):=by kernel_rfl
def w0 (_P:Program) (K:VK):av:=br [.tmp 4] K
def C4:av:=aG (al P Eo (w0 P K)) (w0 P K)
def Da:av:=bz 0 (C4 P K)
def Db:av:=aG (λf' aP=>(([0,1]:List Nat).map f':List Value)=[a0,c1]/\L1 (([5]:List Nat).map f') aP) (Da P K)
def A7:Prop:=aB (al P Ep (Db P K a0 c1 L1)) ([0,1]++[5]) ([a0,c1]++xs) h
theorem JK (a0 c1:Value) (L1:LQ) (i5:Value) (h:ad):A7 P K a0 c1 L1 [i5] h=
 (OP (cK a0) λaJ=>
 OP (au .lss i5 aJ) λdN=>
 aT dN
 (OP (bQ 1 a0 i5) λaW=>
 OP (ax false 1 h aW) λeP=>
 (True)/\
 OP (bQ 1 c1 i5) λbm=>
 OP (ax false 1 h bm) λbp=>
 (True)/\
 OP (au .neq eP bp) λbf=>
 aT bf
 (K (.bool false) h)
 (OP (au .add i5 (.int .i64 (1))) λgy=>
 ([a0,c1]:List Value)=[a0,c1]/\L1 [gy] h))
 (K (.bool true) h)):=aE (by kernel_rfl)
def sr:Prop:=
 OP (cK a0) λx7=>
 OP (cK c1) λx9=>
 OP (au .neq x7 x9) λaw=>
 aT aw
 (K (.bool false) h)
 (cn [(.int .i64 (0))] h λL1 xs hx=>
 A7 P K a0 c1 L1 xs hx)
theorem FM:al P pS (br [.tmp 4] K) (bY [a0,c1]) h=sr P K a0 c1 h:=by kernel_rfl
theorem f10 {K:VK} {a0 c1:Value} {h:ad} (H:sr Tryd.prog K a0 c1 h):ay Tryd.prog 10 [a0,c1] h K:=
 db IS (dh rfl) ((FM Tryd.prog K a0 c1 h).mpr H)
end
noncomputable section
variable (k0 x1 x2 l3 t10 dE i16 bf dx aF aS ba aU bC bO fA iX : Value) (L1 L2 : LQ) (xs : List Value) (h : ad)
def AI:=cz Tryd.prog 17 [[],[],[],[],[],[],[0,2,3,10,25,26],[27],[],[],[],[],[],[],[0,3,10],[],[0,10,36,37],[38],[],[],[],[],[0,10,15,36,37,38,43],[44],[],[],[],[0,10,15,16,36,37,38,43,44,51],[0,10,15,36,37,38,43,44,51,58],[],[],[],[0,10,36,37,38],[10],[]]
@[irreducible] def iE:=df AI
@[irreducible] def EG:=iE.r.r.r.l.r.l.l
@[irreducible] def yd:=iE.r.r.r.r
@[irreducible] def sU:=yd.l
@[irreducible] def sV:=sU.l.r.l.l
@[irreducible] def ya:=sU.r
@[irreducible] def pV:=sV.r.r.l.l.r.r.l.l
@[irreducible] def yb:=sV.r.r.r
@[irreducible] def EF:=ya.l
@[irreducible] def yc:=pV.r.r.l.l.r.l.r.l
@[irreducible] def EC:=pV.r.r.l.l.r.r
@[irreducible] def EB:=pV.r.r.r
@[irreducible] def EE:=yb.l
@[irreducible] def ED:=yc.r.l
theorem IU:AI=some (63,iE,[.tmp 8,.tmp 9]):=by kernel_rfl
def l8 (_P:Program) (K:VK):av:=br [.tmp 8,.tmp 9] K
def Du:av:=aG (al P yd (l8 P K)) (l8 P K)
def Dv:av:=bz 0 (Du P K)
def Dw:av:=aG (λf' aP=>(([0,2,3,10,25,26]:List Nat).map f':List Value)=[k0,x2,l3,t10,bf,dx]/\L1 (([27]:List Nat).map f') aP) (Dv P K)
def Dn:av:=aG (al P ya (l8 P K)) (l8 P K)
def Dp:av:=bz 2 (Dn P K)
def px:av:=aG (λf' aP=>(([0,10,36,37]:List Nat).map f':List Value)=[k0,t10,aS,ba]/\L1 (([38]:List Nat).map f') aP) (Dp P K)
def Dq:av:=aG (al P yb (px P K k0 t10 aS ba L1)) (px P K k0 t10 aS ba L1)
def Dr:av:=bz 3 (Dq P K k0 t10 aS ba L1)
def Ds:av:=bz 4 (Dr P K k0 t10 aS ba L1)
def sf:av:=aG (λf' aP=>(([0,10,15,36,37,38,43]:List Nat).map f':List Value)=[k0,t10,dE,aS,ba,aU,bC]/\L2 (([44]:List Nat).map f') aP) (Ds P K k0 t10 aS ba L1)
def Dt:av:=aG (al P EB (sf P K k0 t10 dE aS ba aU bC L1 L2)) (sf P K k0 t10 dE aS ba aU bC L1 L2)
def w8:av:=bz 5 (Dt P K k0 t10 dE aS ba aU bC L1 L2)
def w9:av:=aG (al P EC (w8 P K k0 t10 dE aS ba aU bC L1 L2)) (w8 P K k0 t10 dE aS ba aU bC L1 L2)
def Bl:Prop:=aB (al P EG (Dw P K k0 x2 l3 t10 bf dx L1)) ([0,2,3,10,25,26]++[27]) ([k0,x2,l3,t10,bf,dx]++xs) h
def Bf:Prop:=aB (al P sU (l8 P K)) [0,3,10] [k0,l3,t10] h
def Bg:Prop:=aB (al P sV (px P K k0 t10 aS ba L1)) ([0,10,36,37]++[38]) ([k0,t10,aS,ba]++xs) h
def Bh:Prop:=aB (al P pV (sf P K k0 t10 dE aS ba aU bC L1 L2)) ([0,10,15,36,37,38,43]++[44]) ([k0,t10,dE,aS,ba,aU,bC]++xs) h
def Bi:Prop:=aB (al P yc (w9 P K k0 t10 dE aS ba aU bC L1 L2)) [0,10,15,16,36,37,38,43,44,51] [k0,t10,dE,i16,aS,ba,aU,bC,bO,fA] h
def vr:Prop:=aB (al P ED (w9 P K k0 t10 dE aS ba aU bC L1 L2)) [0,10,15,36,37,38,43,44,51,58] [k0,t10,dE,aS,ba,aU,bC,bO,fA,iX] h
def Bj:Prop:=aB (al P EE (px P K k0 t10 aS ba L1)) [0,10,36,37,38] [k0,t10,aS,ba,aU] h
def Bk:Prop:=aB (al P EF (l8 P K)) [10] [t10] h
theorem J4 (k0 x2 l3 t10 bf dx:Value) (L1:LQ) (aF:Value) (h:ad):Bl P K k0 x2 l3 t10 bf dx L1 [aF] h=
 (OP (au .lss aF dx) λaN=>
 aT aN
 (OP (bQ 1 bf aF) λdO=>
 OP (ax false 1 h dO) λjN=>
 OP (eN jN) λiB=>
 OP (au .gtr iB x2) λlU=>
 aT lU
 (K (.tuple #[(.pointer none),(.int .i64 (3))]) h)
 (OP (au .add aF (.int .i64 (1))) λb9=>
 ([k0,x2,l3,t10,bf,dx]:List Value)=[k0,x2,l3,t10,bf,dx]/\L1 [b9] h))
 (Bf P K k0 l3 t10 h)):=aE (by kernel_rfl)
theorem B9:vr P K k0 t10 dE aS ba aU bC bO fA iX L1 L2 h=
 (OP (bJ fA (.bool true) iX) λr5=>
 aT r5
 (K (.tuple #[(.pointer none),(.int .i64 (2))]) h)
 (OP (au .add bO (.int .i64 (1))) λkv=>
 ([k0,t10,dE,aS,ba,aU,bC]:List Value)=[k0,t10,dE,aS,ba,aU,bC]/\L2 [kv] h)):=aE (by kernel_rfl)
theorem J1:Bi P K k0 t10 dE i16 aS ba aU bC bO fA L1 L2 h=
 (bP fA false
 (OP (du dE i16) λew=>
 OP (jw .u8 k0) λgz=>
 OP (au .add (.int .u8 (97)) gz) λmZ=>
 OP (au .geq ew mZ) λiX=>
 vr P K k0 t10 dE aS ba aU bC bO fA iX L1 L2 h)
 (vr P K k0 t10 dE aS ba aU bC bO fA undef L1 L2 h)):=aE (by kernel_rfl)
theorem J0 (k0 t10 dE aS ba aU bC:Value) (L1 L2:LQ) (bO:Value) (h:ad):Bh P K k0 t10 dE aS ba aU bC L1 L2 [bO] h=
 (OP (au .lss bO bC) λfh=>
 aT fh
 (OP (du dE bO) λcX=>
 OP (au .lss cX (.int .u8 (97))) λfR=>
 Bi P K k0 t10 dE bO aS ba aU bC bO fR L1 L2 h)
 (Bj P K k0 t10 aS ba aU L1 h)):=aE (by kernel_rfl)
theorem J2:Bj P K k0 t10 aS ba aU L1 h=
 (OP (au .add aU (.int .i64 (1))) λlW=>
 ([k0,t10,aS,ba]:List Value)=[k0,t10,aS,ba]/\L1 [lW] h):=aE (by kernel_rfl)
theorem JZ (k0 t10 aS ba:Value) (L1:LQ) (aU:Value) (h:ad):Bg P K k0 t10 aS ba L1 [aU] h=
 (OP (au .lss aU ba) λbN=>
 aT bN
 (OP (bQ 1 aS aU) λfx=>
 OP (ax false 1 h fx) λfy=>
 OP (eN fy) λbC=>
 cn [(.int .i64 (0))] h λL2 xs hx=>
 Bh P K k0 t10 fy aS ba aU bC L1 L2 xs hx)
 (Bk P K t10 h)):=aE (by kernel_rfl)
theorem J3:Bk P K t10 h=
 (K (.tuple #[t10,(.int .i64 (0))]) h):=aE (by kernel_rfl)
theorem JY:Bf P K k0 l3 t10 h=
 (OP (cK l3) λba=>
 cn [(.int .i64 (0))] h λL1 xs hx=>
 Bg P K k0 t10 l3 ba L1 xs hx):=aE (by kernel_rfl)
def xA:Prop:=
 ay P 37 [k0,x1] h λeP z1=>
 OP (gN 0 eP) λfY=>
 OP (gN 1 eP) λbA=>
 OP (eG .not bA) λbp=>
 aT bp
 (K (.tuple #[(.pointer none),(.int .i64 (1))]) z1)
 (OP (cK l3) λdx=>
 cn [(.int .i64 (0))] z1 λL1 xs hx=>
 Bl P K k0 x2 l3 fY l3 dx L1 xs hx)
theorem FO:al P iE (br [.tmp 8,.tmp 9] K) (bY [k0,x1,x2,l3]) h=xA P K k0 x1 x2 l3 h:=by kernel_rfl
theorem f17 {K:VK} {k0 x1 x2 l3:Value} {h:ad} (H:xA Tryd.prog K k0 x1 x2 l3 h):ay Tryd.prog 17 [k0,x1,x2,l3] h K:=
 db IU (dh rfl) ((FO Tryd.prog K k0 x1 x2 l3 h).mpr H)
end
noncomputable section
variable (t0 a1 b2 : Value) (h : ad)
def AM:=cz Tryd.prog 21 [[],[]]
@[irreducible] def yh:=df AM
theorem IY:AM=some (18,yh,[.tmp 6]):=by kernel_rfl
def sy (P:Program) (K:VK) (t0 a1 b2:Value) (h:ad):Prop:=
 OP (au .sub a1 (.int .u8 (97))) λx9=>
 OP (au .sub b2 (.int .u8 (97))) λdw=>
 OP (kh t0) λeu=>
 OP (cA 1 eu) λaJ=>
 OP (eZ 6 6 aJ x9) λdN=>
 OP (eZ 6 1 dN dw) λbX=>
 OP (ax false 1 h bX) λgy=>
 OP (eG .not gy) λaO=>
 K aO h
theorem FU:al P yh (br [.tmp 6] K) (bY [t0,a1,b2]) h=sy P K t0 a1 b2 h:=by kernel_rfl
theorem f21 {K:VK} {t0 a1 b2:Value} {h:ad} (H:sy Tryd.prog K t0 a1 b2 h):ay Tryd.prog 21 [t0,a1,b2] h K:=
 db IY (dh rfl) ((FU Tryd.prog K t0 a1 b2 h).mpr H)
end
noncomputable section
variable (k0 x1 i5 dP fR : Value) (L1 : LQ) (xs : List Value) (h : ad)
def AP:=cz Tryd.prog 25 [[],[],[0,1],[5],[],[],[],[],[],[0,1],[1,47],[47,50],[]]
@[irreducible] def pW:=df AP
@[irreducible] def EJ:=pW.r.l.r.l.l
@[irreducible] def ym:=pW.r.r
@[irreducible] def sW:=ym.l
@[irreducible] def yl:=sW.l.r.l
@[irreducible] def EH:=sW.r
@[irreducible] def EI:=yl.r.l
theorem I1:AP=some (52,pW,[.tmp 4]):=by kernel_rfl
def ni (_P:Program) (K:VK):av:=br [.tmp 4] K
def Dx:av:=aG (al P ym (ni P K)) (ni P K)
def Dy:av:=bz 0 (Dx P K)
def Dz:av:=aG (λf' aP=>(([0,1]:List Nat).map f':List Value)=[k0,x1]/\L1 (([5]:List Nat).map f') aP) (Dy P K)
def xa:av:=aG (al P EH (ni P K)) (ni P K)
def Bo:Prop:=aB (al P EJ (Dz P K k0 x1 L1)) ([0,1]++[5]) ([k0,x1]++xs) h
def Bm:Prop:=aB (al P sW (ni P K)) [0,1] [k0,x1] h
def Bn:Prop:=aB (al P yl (xa P K)) [1,47] [x1,dP] h
def vt:Prop:=aB (al P EI (xa P K)) [47,50] [dP,fR] h
theorem J8 (k0 x1:Value) (L1:LQ) (i5:Value) (h:ad):Bo P K k0 x1 L1 [i5] h=
 (OP (cK x1) λx8=>
 OP (au .lss i5 x8) λx9=>
 aT x9
 (OP (bQ 2 x1 i5) λdN=>
 OP (cA 0 dN) λbX=>
 OP (ax false 1 h bX) λgy=>
 (True)/\
 OP (au .sub k0 (.int .i64 (1))) λaM=>
 ay P 49 [gy,(.int .i64 (0)),aM] h λaW z1=>
 (True)/\
 OP (eG .not aW) λeP=>
 bP eP false
 (OP (bQ 2 x1 i5) λbp=>
 OP (cA 1 bp) λbf=>
 OP (ax false 1 z1 bf) λdx=>
 (True)/\
 OP (au .sub k0 (.int .i64 (1))) λaN=>
 ay P 49 [dx,(.int .i64 (0)),aN] z1 λdO z2=>
 (True)/\
 OP (eG .not dO) λjN=>
 OP (bJ eP (.bool true) jN) λiA=>
 bP iA false
 (OP (bQ 2 x1 i5) λb9=>
 OP (cA 0 b9) λaS=>
 OP (ax false 1 z2 aS) λba=>
 (True)/\
 OP (bQ 2 x1 i5) λfx=>
 OP (cA 1 fx) λfy=>
 OP (ax false 1 z2 fy) λbB=>
 (True)/\
 OP (au .eql ba bB) λbC=>
 OP (bJ iA (.bool true) bC) λbO=>
 aT bO
 (K (.bool false) z2)
 (OP (au .add i5 (.int .i64 (1))) λdw=>
 ([k0,x1]:List Value)=[k0,x1]/\L1 [dw] z2))
 (OP (bJ iA (.bool true) undef) λbO=>
 aT bO
 (K (.bool false) z2)
 (OP (au .add i5 (.int .i64 (1))) λdw=>
 ([k0,x1]:List Value)=[k0,x1]/\L1 [dw] z2)))
 ((True)/\
 OP (bJ eP (.bool true) undef) λiA=>
 bP iA false
 (OP (bQ 2 x1 i5) λb9=>
 OP (cA 0 b9) λaS=>
 OP (ax false 1 z1 aS) λba=>
 (True)/\
 OP (bQ 2 x1 i5) λfx=>
 OP (cA 1 fx) λfy=>
 OP (ax false 1 z1 fy) λbB=>
 (True)/\
 OP (au .eql ba bB) λbC=>
 OP (bJ iA (.bool true) bC) λbO=>
 aT bO
 (K (.bool false) z1)
 (OP (au .add i5 (.int .i64 (1))) λdw=>
 ([k0,x1]:List Value)=[k0,x1]/\L1 [dw] z1))
 (OP (bJ iA (.bool true) undef) λbO=>
 aT bO
 (K (.bool false) z1)
 (OP (au .add i5 (.int .i64 (1))) λdw=>
 ([k0,x1]:List Value)=[k0,x1]/\L1 [dw] z1))))
 (Bm P K k0 x1 h)):=aE (by kernel_rfl)
theorem J7:vt P K dP fR h=
 (OP (bJ dP fR (.bool false)) λfA=>
 K fA h):=aE (by kernel_rfl)
theorem J6:Bn P K x1 dP h=
 (bP dP true
 (OP (cK x1) λcX=>
 OP (au .leq cX (.int .i64 (30))) λfR=>
 vt P K dP fR h)
 (vt P K dP undef h)):=aE (by kernel_rfl)
theorem J5:Bm P K k0 x1 h=
 (ay P 49 [k0,(.int .i64 (1)),(.int .i64 (6))] h λfQ z1=>
 Bn P K x1 fQ z1):=aE (by kernel_rfl)
def xB:Prop:=
 cn [(.int .i64 (0))] h λL1 xs hx=>
 Bo P K k0 x1 L1 xs hx
theorem FX:al P pW (br [.tmp 4] K) (bY [k0,x1]) h=xB P K k0 x1 h:=by kernel_rfl
theorem f25 {K:VK} {k0 x1:Value} {h:ad} (H:xB Tryd.prog K k0 x1 h):ay Tryd.prog 25 [k0,x1] h K:=
 db I1 (dh rfl) ((FX Tryd.prog K k0 x1 h).mpr H)
end
noncomputable section
variable (k0 s1 x2 i7 bA dO : Value) (L1 : LQ) (xs : List Value) (h : ad)
def AQ:=cz Tryd.prog 26 [[],[],[],[],[],[0,1],[7],[],[],[0,1,7,22],[0,1,7,22,29],[],[],[],[],[]]
@[irreducible] def pX:=df AQ
@[irreducible] def pY:=pX.r.r.l.r.l.l
@[irreducible] def EN:=pX.r.r.r
@[irreducible] def yn:=pY.r.l.l.l.r.l
@[irreducible] def EL:=pY.r.l.l.r
@[irreducible] def EK:=pY.r.r
@[irreducible] def EM:=yn.r.l
theorem I2:AQ=some (31,pX,[.tmp 6]):=by kernel_rfl
def xb (_P:Program) (K:VK):av:=br [.tmp 6] K
def DB:av:=aG (al P EN (xb P K)) (xb P K)
def DC:av:=bz 0 (DB P K)
def sg:av:=aG (λf' aP=>(([0,1]:List Nat).map f':List Value)=[k0,s1]/\L1 (([7]:List Nat).map f') aP) (DC P K)
def DA:av:=aG (al P EK (sg P K k0 s1 L1)) (sg P K k0 s1 L1)
def xc:av:=bz 1 (DA P K k0 s1 L1)
def xd:av:=aG (al P EL (xc P K k0 s1 L1)) (xc P K k0 s1 L1)
def Bq:Prop:=aB (al P pY (sg P K k0 s1 L1)) ([0,1]++[7]) ([k0,s1]++xs) h
def Bp:Prop:=aB (al P yn (xd P K k0 s1 L1)) [0,1,7,22] [k0,s1,i7,bA] h
def vu:Prop:=aB (al P EM (xd P K k0 s1 L1)) [0,1,7,22,29] [k0,s1,i7,bA,dO] h
theorem Ca:vu P K k0 s1 i7 bA dO L1 h=
 (OP (bJ bA (.bool true) dO) λjN=>
 aT jN
 (K (.int .i64 (2)) h)
 (OP (au .add i7 (.int .i64 (1))) λaO=>
 ([k0,s1]:List Value)=[k0,s1]/\L1 [aO] h)):=aE (by kernel_rfl)
theorem J9:Bp P K k0 s1 i7 bA L1 h=
 (bP bA false
 (OP (du s1 i7) λbf=>
 OP (au .sub bf (.int .u8 (97))) λdx=>
 OP (jw .i64 dx) λaF=>
 OP (au .geq aF k0) λdO=>
 vu P K k0 s1 i7 bA dO L1 h)
 (vu P K k0 s1 i7 bA undef L1 h)):=aE (by kernel_rfl)
theorem Ka (k0 s1:Value) (L1:LQ) (i7:Value) (h:ad):Bq P K k0 s1 L1 [i7] h=
 (OP (eN s1) λdN=>
 OP (au .lss i7 dN) λbX=>
 aT bX
 (OP (du s1 i7) λeP=>
 OP (au .lss eP (.int .u8 (97))) λfY=>
 Bp P K k0 s1 i7 fY L1 h)
 (K (.int .i64 (0)) h)):=aE (by kernel_rfl)
def sC:Prop:=
 OP (eN s1) λx9=>
 OP (au .gtr x9 x2) λdw=>
 aT dw
 (K (.int .i64 (3)) h)
 (cn [(.int .i64 (0))] h λL1 xs hx=>
 Bq P K k0 s1 L1 xs hx)
theorem FY:al P pX (br [.tmp 6] K) (bY [k0,s1,x2]) h=sC P K k0 s1 x2 h:=by kernel_rfl
theorem f26 {K:VK} {k0 s1 x2:Value} {h:ad} (H:sC Tryd.prog K k0 s1 x2 h):ay Tryd.prog 26 [k0,s1,x2] h K:=
 db I2 (dh rfl) ((FY Tryd.prog K k0 s1 x2 h).mpr H)
end
noncomputable section
variable (s0 x1 i5 : Value) (L1 : LQ) (xs : List Value) (h : ad)
def AS:=cz Tryd.prog 31 [[],[],[0,1],[5],[],[],[],[],[],[],[]]
@[irreducible] def pZ:=df AS
@[irreducible] def EP:=pZ.r.l.r.l.l
@[irreducible] def EO:=pZ.r.r
theorem I3:AS=some (17,pZ,[.tmp 4]):=by kernel_rfl
def xe (_P:Program) (K:VK):av:=br [.tmp 4] K
def DD:av:=aG (al P EO (xe P K)) (xe P K)
def DE:av:=bz 0 (DD P K)
def DF:av:=aG (λf' aP=>(([0,1]:List Nat).map f':List Value)=[s0,x1]/\L1 (([5]:List Nat).map f') aP) (DE P K)
def Br:Prop:=aB (al P EP (DF P K s0 x1 L1)) ([0,1]++[5]) ([s0,x1]++xs) h
theorem Kb (s0 x1:Value) (L1:LQ) (i5:Value) (h:ad):Br P K s0 x1 L1 [i5] h=
 (OP (eN s0) λx8=>
 OP (au .lss i5 x8) λx9=>
 aT x9
 (OP (du s0 i5) λdN=>
 OP (au .eql dN x1) λgy=>
 aT gy
 (K (.bool true) h)
 (OP (au .add i5 (.int .i64 (1))) λdw=>
 ([s0,x1]:List Value)=[s0,x1]/\L1 [dw] h))
 (K (.bool false) h)):=aE (by kernel_rfl)
def sD:Prop:=
 cn [(.int .i64 (0))] h λL1 xs hx=>
 Br P K s0 x1 L1 xs hx
theorem FZ:al P pZ (br [.tmp 4] K) (bY [s0,x1]) h=sD P K s0 x1 h:=by kernel_rfl
theorem f31 {K:VK} {s0 x1:Value} {h:ad} (H:sD Tryd.prog K s0 x1 h):ay Tryd.prog 31 [s0,x1] h K:=
 db I3 (dh rfl) ((FZ Tryd.prog K s0 x1 h).mpr H)
end
noncomputable section
variable (x0 x1 y2 i7 a8 c9 eQ aS aU bB fh fQ : Value) (L1 : LQ) (xs : List Value) (h : ad)
def AT:=cz Tryd.prog 32 [[],[],[0,1,2],[7],[],[],[],[0,1,2,7,8,9,33],[0,1,2,7,8,9,33,36],[0,1,2,7,8,9,38],[0,1,2,7,9,38,42],[0,1,2,7,38,42,45],[0,1,2,7,38,46],[],[],[],[],[]]
@[irreducible] def p5:=df AT
@[irreducible] def p6:=p5.r.l.r.l.l
@[irreducible] def ES:=p5.r.r
@[irreducible] def yo:=p6.r.l.l.r.l.r.l
@[irreducible] def ER:=p6.r.l.l.r.r
@[irreducible] def EU:=p6.r.r
@[irreducible] def yp:=yo.r.l
@[irreducible] def yq:=yp.r.l
@[irreducible] def yr:=yq.r.l
@[irreducible] def yu:=yr.r.l
@[irreducible] def ET:=yu.r.l
theorem I4:AT=some (48,p5,[.tmp 6]):=by kernel_rfl
def xf (_P:Program) (K:VK):av:=br [.tmp 6] K
def DG:av:=aG (al P ES (xf P K)) (xf P K)
def DH:av:=bz 0 (DG P K)
def sj:av:=aG (λf' aP=>(([0,1,2]:List Nat).map f':List Value)=[x0,x1,y2]/\L1 (([7]:List Nat).map f') aP) (DH P K)
def DI:av:=aG (al P EU (sj P K x0 x1 y2 L1)) (sj P K x0 x1 y2 L1)
def xh:av:=bz 1 (DI P K x0 x1 y2 L1)
def l9:av:=aG (al P ER (xh P K x0 x1 y2 L1)) (xh P K x0 x1 y2 L1)
def Bu:Prop:=aB (al P p6 (sj P K x0 x1 y2 L1)) ([0,1,2]++[7]) ([x0,x1,y2]++xs) h
def Bs:Prop:=aB (al P yo (l9 P K x0 x1 y2 L1)) [0,1,2,7,8,9,33] [x0,x1,y2,i7,a8,c9,eQ] h
def vv:Prop:=aB (al P yp (l9 P K x0 x1 y2 L1)) [0,1,2,7,8,9,33,36] [x0,x1,y2,i7,a8,c9,eQ,aS] h
def Bt:Prop:=aB (al P yq (l9 P K x0 x1 y2 L1)) [0,1,2,7,8,9,38] [x0,x1,y2,i7,a8,c9,aU] h
def vw:Prop:=aB (al P yr (l9 P K x0 x1 y2 L1)) [0,1,2,7,9,38,42] [x0,x1,y2,i7,c9,aU,bB] h
def vy:Prop:=aB (al P yu (l9 P K x0 x1 y2 L1)) [0,1,2,7,38,42,45] [x0,x1,y2,i7,aU,bB,fh] h
def vz:Prop:=aB (al P ET (l9 P K x0 x1 y2 L1)) [0,1,2,7,38,46] [x0,x1,y2,i7,aU,fQ] h
theorem Kh:vz P K x0 x1 y2 i7 aU fQ L1 h=
 (OP (bJ aU (.bool true) fQ) λdP=>
 aT dP
 (K (.bool true) h)
 (OP (au .add i7 (.int .i64 (1))) λbX=>
 ([x0,x1,y2]:List Value)=[x0,x1,y2]/\L1 [bX] h)):=aE (by kernel_rfl)
theorem Kg:vy P K x0 x1 y2 i7 aU bB fh L1 h=
 (bP aU false
 (OP (bJ bB fh (.bool false)) λfQ=>
 vz P K x0 x1 y2 i7 aU fQ L1 h)
 (vz P K x0 x1 y2 i7 aU undef L1 h)):=aE (by kernel_rfl)
theorem Kf:vw P K x0 x1 y2 i7 c9 aU bB L1 h=
 (bP bB true
 (OP (au .eql c9 x1) λfh=>
 vy P K x0 x1 y2 i7 aU bB fh L1 h)
 (vy P K x0 x1 y2 i7 aU bB undef L1 h)):=aE (by kernel_rfl)
theorem Ke:Bt P K x0 x1 y2 i7 a8 c9 aU L1 h=
 (bP aU false
 (OP (au .eql a8 y2) λfy=>
 vw P K x0 x1 y2 i7 c9 aU fy L1 h)
 (vw P K x0 x1 y2 i7 c9 aU undef L1 h)):=aE (by kernel_rfl)
theorem Kd:vv P K x0 x1 y2 i7 a8 c9 eQ aS L1 h=
 (OP (bJ eQ aS (.bool false)) λba=>
 Bt P K x0 x1 y2 i7 a8 c9 ba L1 h):=aE (by kernel_rfl)
theorem Kc:Bs P K x0 x1 y2 i7 a8 c9 eQ L1 h=
 (bP eQ true
 (OP (au .eql c9 y2) λaS=>
 vv P K x0 x1 y2 i7 a8 c9 eQ aS L1 h)
 (vv P K x0 x1 y2 i7 a8 c9 eQ undef L1 h)):=aE (by kernel_rfl)
theorem Ki (x0 x1 y2:Value) (L1:LQ) (i7:Value) (h:ad):Bu P K x0 x1 y2 L1 [i7] h=
 (OP (cK x0) λeu=>
 OP (au .lss i7 eu) λaJ=>
 aT aJ
 (OP (bQ 2 x0 i7) λaM=>
 OP (cA 0 aM) λaW=>
 OP (ax false 1 h aW) λeP=>
 (True)/\
 OP (au .add (.int .i64 (97)) eP) λfY=>
 OP (jw .u8 fY) λbA=>
 OP (bQ 2 x0 i7) λbf=>
 OP (cA 1 bf) λdx=>
 OP (ax false 1 h dx) λaF=>
 (True)/\
 OP (au .add (.int .i64 (97)) aF) λaN=>
 OP (jw .u8 aN) λdO=>
 OP (au .eql bA x1) λiB=>
 Bs P K x0 x1 y2 i7 bA dO iB L1 h)
 (K (.bool false) h)):=aE (by kernel_rfl)
def xC:Prop:=
 cn [(.int .i64 (0))] h λL1 xs hx=>
 Bu P K x0 x1 y2 L1 xs hx
theorem F0:al P p5 (br [.tmp 6] K) (bY [x0,x1,y2]) h=xC P K x0 x1 y2 h:=by kernel_rfl
theorem f32 {K:VK} {x0 x1 y2:Value} {h:ad} (H:xC Tryd.prog K x0 x1 y2 h):ay Tryd.prog 32 [x0,x1,y2] h K:=
 db I4 (dh rfl) ((F0 Tryd.prog K x0 x1 y2 h).mpr H)
end
noncomputable section
variable (k0 x1 t6 p8 dw aJ bX aM bm bp bf b9 bB bO cX : Value) (L1 : LQ) (xs : List Value) (h : ad)
def AU:=cz Tryd.prog 37 [[],[0,1,11],[0,1,11,13],[0,1,15],[0,1,15,18],[],[],[],[],[],[0,6,23,24],[25],[],[],[],[0,6,8,23,24,25,35],[0,6,8,23,24,25,35,42],[0,6,8,23,24,25,44],[0,6,8,23,24,25,44,49],[],[],[],[],[6],[]]
@[irreducible] def nw:=df AU
@[irreducible] def yz:=nw.r.l.l.r.l
@[irreducible] def E0:=nw.r.l.r
@[irreducible] def sX:=nw.r.r
@[irreducible] def yA:=yz.r.l
@[irreducible] def ny:=sX.r.l.r.l.l
@[irreducible] def yv:=sX.r.r
@[irreducible] def yB:=yA.r.l
@[irreducible] def yw:=ny.r.r.l.l.r.l.l.r.l
@[irreducible] def EZ:=ny.r.r.l.l.r.l.r
@[irreducible] def EY:=ny.r.r.l.l.r.r
@[irreducible] def EW:=ny.r.r.r
@[irreducible] def E2:=yv.l
@[irreducible] def EV:=yB.r.l
@[irreducible] def yx:=yw.r.l
@[irreducible] def yy:=yx.r.l
@[irreducible] def E1:=yy.r.l
theorem I5:AU=some (71,nw,[.tmp 4,.tmp 5]):=by kernel_rfl
def nj (_P:Program) (K:VK):av:=br [.tmp 4,.tmp 5] K
def xi:av:=aG (al P sX (nj P K)) (nj P K)
def pz:av:=aG (al P E0 (xi P K)) (xi P K)
def DJ:av:=aG (al P yv (nj P K)) (nj P K)
def DK:av:=bz 0 (DJ P K)
def sk:av:=aG (λf' aP=>(([0,6,23,24]:List Nat).map f':List Value)=[k0,t6,bm,bp]/\L1 (([25]:List Nat).map f') aP) (DK P K)
def DL:av:=aG (al P EW (sk P K k0 t6 bm bp L1)) (sk P K k0 t6 bm bp L1)
def xj:av:=bz 1 (DL P K k0 t6 bm bp L1)
def xk:av:=aG (al P EY (xj P K k0 t6 bm bp L1)) (xj P K k0 t6 bm bp L1)
def py:av:=aG (al P EZ (xk P K k0 t6 bm bp L1)) (xk P K k0 t6 bm bp L1)
def Bz:Prop:=aB (al P yz (pz P K)) [0,1,11] [k0,x1,dw] h
def vD:Prop:=aB (al P yA (pz P K)) [0,1,11,13] [k0,x1,dw,aJ] h
def BA:Prop:=aB (al P yB (pz P K)) [0,1,15] [k0,x1,bX] h
def vA:Prop:=aB (al P EV (pz P K)) [0,1,15,18] [k0,x1,bX,aM] h
def Bv:Prop:=aB (al P ny (sk P K k0 t6 bm bp L1)) ([0,6,23,24]++[25]) ([k0,t6,bm,bp]++xs) h
def Bw:Prop:=aB (al P yw (py P K k0 t6 bm bp L1)) [0,6,8,23,24,25,35] [k0,t6,p8,bm,bp,bf,b9] h
def vB:Prop:=aB (al P yx (py P K k0 t6 bm bp L1)) [0,6,8,23,24,25,35,42] [k0,t6,p8,bm,bp,bf,b9,bB] h
def Bx:Prop:=aB (al P yy (py P K k0 t6 bm bp L1)) [0,6,8,23,24,25,44] [k0,t6,p8,bm,bp,bf,bO] h
def vC:Prop:=aB (al P E1 (py P K k0 t6 bm bp L1)) [0,6,8,23,24,25,44,49] [k0,t6,p8,bm,bp,bf,bO,cX] h
def By:Prop:=aB (al P E2 (nj P K)) [6] [t6] h
theorem rE:vA P K k0 x1 bX aM h=
 (OP (bJ bX (.bool true) aM) λaW=>
 aT aW
 (K (.tuple #[(.pointer none),(.bool false)]) h)
 (OP (lu [(.int .i64 (0)),(.bool false),(.bool false),(.bool false),(.bool false),(.bool false),(.bool false),(.bool false),(.bool false),(.bool false),(.bool false),(.bool false),(.bool false),(.bool false),(.bool false),(.bool false),(.bool false),(.bool false),(.bool false),(.bool false),(.bool false),(.bool false),(.bool false),(.bool false),(.bool false),(.bool false),(.bool false),(.bool false),(.bool false),(.bool false),(.bool false),(.bool false),(.bool false),(.bool false),(.bool false),(.bool false),(.bool false)] [(0,1,k0)]) λfY=>
 OH (iO 78 h fY) λbA z1=>
 OP (cK x1) λbp=>
 cn [(.int .i64 (0))] z1 λL1 xs hx=>
 Bv P K k0 bA x1 bp L1 xs hx)):=aE (by kernel_rfl)
theorem Ko:BA P K k0 x1 bX h=
 (bP bX false
 (OP (cK x1) λaO=>
 OP (au .gtr aO (.int .i64 (30))) λaM=>
 vA P K k0 x1 bX aM h)
 (vA P K k0 x1 bX undef h)):=aE (by kernel_rfl)
theorem Kn:vD P K k0 x1 dw aJ h=
 (OP (bJ dw (.bool true) aJ) λdN=>
 BA P K k0 x1 dN h):=aE (by kernel_rfl)
theorem Km:Bz P K k0 x1 dw h=
 (bP dw false
 (OP (au .gtr k0 (.int .i64 (6))) λaJ=>
 vD P K k0 x1 dw aJ h)
 (vD P K k0 x1 dw undef h)):=aE (by kernel_rfl)
theorem rF:vC P K k0 t6 p8 bm bp bf bO cX L1 h=
 (OP (bJ bO (.bool true) cX) λfR=>
 aT fR
 (K (.tuple #[(.pointer none),(.bool false)]) h)
 (OP (cA 0 p8) λiW=>
 OP (ax false 1 h iW) λcF=>
 (True)/\
 OP (cA 1 p8) λew=>
 OP (ax false 1 h ew) λlV=>
 (True)/\
 OP (cA 1 p8) λmZ=>
 OP (ax false 1 h mZ) λiX=>
 (True)/\
 OP (cA 0 p8) λr5=>
 OP (ax false 1 h r5) λkv=>
 (True)/\
 OP (kh t6) λlW=>
 OP (cA 1 lW) λwC=>
 OP (eZ 6 6 wC cF) λLZ=>
 OP (eZ 6 1 LZ lV) λwD=>
 OH (eO 1 h wD (.bool true)) λ_ z1=>
 (ax false 1 z1 mZ=some iX/\ax false 1 z1 r5=some kv/\True)/\
 OP (kh t6) λlX=>
 OP (cA 1 lX) λL0=>
 OP (eZ 6 6 L0 iX) λwE=>
 OP (eZ 6 1 wE kv) λwF=>
 OH (eO 1 z1 wF (.bool true)) λ_ z2=>
 (True)/\
 OP (au .add bf (.int .i64 (1))) λwG=>
 ([k0,t6,bm,bp]:List Value)=[k0,t6,bm,bp]/\L1 [wG] z2)):=aE (by kernel_rfl)
theorem vT:Bx P K k0 t6 p8 bm bp bf bO L1 h=
 (bP bO false
 (OP (cA 0 p8) λfh=>
 OP (ax false 1 h fh) λfQ=>
 OP (cA 1 p8) λdP=>
 OP (ax false 1 h dP) λfz=>
 OP (au .eql fQ fz) λcX=>
 vC P K k0 t6 p8 bm bp bf bO cX L1 h)
 (vC P K k0 t6 p8 bm bp bf bO undef L1 h)):=aE (by kernel_rfl)
theorem vS:vB P K k0 t6 p8 bm bp bf b9 bB L1 h=
 (OP (bJ b9 (.bool true) bB) λbC=>
 Bx P K k0 t6 p8 bm bp bf bC L1 h):=aE (by kernel_rfl)
theorem Kk:Bw P K k0 t6 p8 bm bp bf b9 L1 h=
 (bP b9 false
 (OP (cA 0 p8) λaS=>
 OP (ax false 1 h aS) λba=>
 OP (cA 1 p8) λaU=>
 OP (ax false 1 h aU) λbN=>
 OP (fJ true [ba,bN]) λfx=>
 OP (au .geq fx k0) λbB=>
 vB P K k0 t6 p8 bm bp bf b9 bB L1 h)
 (vB P K k0 t6 p8 bm bp bf b9 undef L1 h)):=aE (by kernel_rfl)
theorem Kj (k0 t6 bm bp:Value) (L1:LQ) (bf:Value) (h:ad):Bv P K k0 t6 bm bp L1 [bf] h=
 (OP (au .lss bf bp) λdx=>
 aT dx
 (OP (bQ 2 bm bf) λaF=>
 OP (ax true 2 h aF) λaN=>
 OH (mJ 62 [(.int .i64 (0)),(.int .i64 (0))] h) λp8 z1=>
 OH (eO 2 z1 p8 aN) λ_ z2=>
 OP (cA 0 p8) λdO=>
 OP (ax false 1 z2 dO) λjN=>
 OP (cA 1 p8) λiA=>
 OP (ax false 1 z2 iA) λiB=>
 OP (fJ false [jN,iB]) λeQ=>
 OP (au .lss eQ (.int .i64 (0))) λlU=>
 Bw P K k0 t6 p8 bm bp bf lU L1 z2)
 (By P K t6 h)):=aE (by kernel_rfl)
theorem Kl:By P K t6 h=
 (K (.tuple #[t6,(.bool true)]) h):=aE (by kernel_rfl)
def sE:Prop:=
 OP (au .lss k0 (.int .i64 (1))) λaw=>
 Bz P K k0 x1 aw h
theorem F1:al P nw (br [.tmp 4,.tmp 5] K) (bY [k0,x1]) h=sE P K k0 x1 h:=by kernel_rfl
theorem f37 {K:VK} {k0 x1:Value} {h:ad} (H:sE Tryd.prog K k0 x1 h):ay Tryd.prog 37 [k0,x1] h K:=
 db I5 (dh rfl) ((F1 Tryd.prog K k0 x1 h).mpr H)
end
noncomputable section
variable (v0 x1 x2 aw aJ : Value) (h : ad)
def AY:=cz Tryd.prog 49 [[],[0,2,10],[10,13],[]]
@[irreducible] def qa:=df AY
@[irreducible] def yJ:=qa.r.l.r.l
@[irreducible] def Fb:=qa.r.r
@[irreducible] def Fc:=yJ.r.l
theorem I9:AY=some (15,qa,[.tmp 6]):=by kernel_rfl
def xo (_P:Program) (K:VK):av:=br [.tmp 6] K
def xp:av:=aG (al P Fb (xo P K)) (xo P K)
def BH:Prop:=aB (al P yJ (xp P K)) [0,2,10] [v0,x2,aw] h
def vI:Prop:=aB (al P Fc (xp P K)) [10,13] [aw,aJ] h
theorem KA:vI P K aw aJ h=
 (OP (bJ aw aJ (.bool false)) λdN=>
 K dN h):=aE (by kernel_rfl)
theorem Kz:BH P K v0 x2 aw h=
 (bP aw true
 (OP (au .leq v0 x2) λaJ=>
 vI P K aw aJ h)
 (vI P K aw undef h)):=aE (by kernel_rfl)
def sI:Prop:=
 OP (au .geq v0 x1) λx9=>
 BH P K v0 x2 x9 h
theorem F6:al P qa (br [.tmp 6] K) (bY [v0,x1,x2]) h=sI P K v0 x1 x2 h:=by kernel_rfl
theorem f49 {K:VK} {v0 x1 x2:Value} {h:ad} (H:sI Tryd.prog K v0 x1 x2 h):ay Tryd.prog 49 [v0,x1,x2] h K:=
 db I9 (dh rfl) ((F6 Tryd.prog K v0 x1 x2 h).mpr H)
end
end
section
theorem EX.load {h h':ad} (k:EX h h') {agg:Bool} {n:Nat} {a v:Value} (hl:ax agg n h a=some v):ax agg n h' a=some v:=by
 unfold ax at hl⊢
 split at hl
 ·rename_i i o
  cases hc:bd h i with
  | none=>rw [hc] at hl;cases hl
  | some xs=>rw [hc] at hl;rw [k.cells hc];exact hl
 ·cases hl
theorem dD (i:Nat) (h:i<4611686018427387904):IntKind.wrap .i64 ((i:Int)+1)=((i+1:Nat):Int):=by
 rw [wrap64 (by omega) (by omega)];omega
@[simp] theorem jg (o i k : Nat) : cA o (pt i k) = some (pt i (k + o)) := rfl
@[simp] theorem vf (i k : Nat) : kh (pt i k) = some (pt i k) := rfl
def bt (ps:List (Int×Int)):List Value:=ps.flatMap λp=>[I p.1,I p.2]
theorem jH:∀{ps:List (Int×Int)} {k:Nat} {p:Int×Int},ps[k]?=some p->(bt ps)[2*k]?=some (I p.1)/\(bt ps)[2*k+1]?=some (I p.2)
 | [],k,p,h=>by simp at h
 | q::ps,0,p,h=>by simp at h;subst h;simp [bt]
 | q::ps,k+1,p,h=>by
  have:=jH (ps:=ps) (k:=k) (p:=p) (by simpa using h)
  rw [show 2*(k+1)=2*k+1+1 by omega]
  simpa [bt] using this
theorem rA (ps:List (Int×Int)):(bt ps).length=2*ps.length:=by
 induction ps with
 | nil=>rfl
 | cons p ps ih=>simp only [bt,List.flatMap_cons,length_append,length_cons,List.length_nil] at ih⊢;omega
structure PS (h:ad) (v:Value) (ps:List (Int×Int)):Prop where
 len:cK v=some (I ps.length)
 get:∀k (hk:k<ps.length),∃i o,bQ 2 v (I k)=some (pt i o)/\ax false 1 h (pt i o)=some (I ps[k].1)/\ax false 1 h (pt i (o+1))=some (I ps[k].2)/\
  ax true 2 h (pt i o)=some (.agg #[I ps[k].1,I ps[k].2])
theorem PS.mono {h h':ad} {v:Value} {ps:List (Int×Int)} (k:EX h h') (p:PS h v ps):PS h' v ps:=
 ⟨p.len,λj hj=>let ⟨i,o,a,b,c,d⟩:=p.get j hj;⟨i,o,a,EX.load k b,EX.load k c,EX.load k d⟩⟩
theorem PS.sl {h:ad} {e:TypeId} {i:Nat} {ps:List (Int×Int)} (hc:bd h i=some (bt ps)):PS h (sl e i 0 ps.length) ps:=by
 refine ⟨rfl,λk hk=>⟨i,2*k,?_,?_,?_,?_⟩⟩
 ·have:(0:Int)<=(k:Int)/\(k:Int)<(ps.length:Int):=by omega
  simp [Go.Sim.sl,bQ,this,Nat.mul_comm]
 ·obtain ⟨g1,g2⟩:=jH (getElem?_eq_getElem hk)
  simp [ax,hc,dv,g1]
 ·obtain ⟨g1,g2⟩:=jH (getElem?_eq_getElem hk)
  simp [ax,hc,dv,g2]
 ·obtain ⟨g1,g2⟩:=jH (getElem?_eq_getElem hk)
  have hl:=rA ps
  have:((bt ps).drop (2*k)).take 2=[I ps[k].1,I ps[k].2]:=by
   apply List.ext_getElem?
   intro j
   rw [List.getElem?_take]
   match j with
   | 0=>simpa using g1
   | 1=>simpa using g2
   | j+2=>simp;omega
  have h2:2*k+2<=(bt ps).length:=by omega
  simp [ax,hc,dv,this,h2]
def qB (ps:List (Int×Int)):Prop:=∀p∈ps,0<=p.1/\p.1<6/\0<=p.2/\p.2<6
def hit (x y:UInt8) (p:Int×Int):Bool:=(decide (97+p.1=(x.toNat:Int))&&decide (97+p.2=(y.toNat:Int)))||(decide (97+p.1=(y.toNat:Int))&&decide (97+p.2=(x.toNat:Int)))
def aY (ps:List (Int×Int)) (x y:UInt8):Bool:=ps.any (hit x y)
theorem r8 (v lo hi:Int) {K:Value->ad->Prop} {h:ad} (hk:K (B (decide (lo<=v)&&decide (v<=hi))) h):ay Tryd.prog 49 [I v,I lo,I hi] h K:=by
 refine f49 ?_
 simp only [sI]
 by_cases h1:lo<=v <;> by_cases h2:v<=hi <;> simp [Kz,KA,h1,h2] at hk⊢ <;> exact hk
theorem CV {ps:List (Int×Int)} {pv:Value} {x y:UInt8} {h:ad} {K:Value->ad->Prop} (hp:PS h pv ps) (hg:qB ps) (hl:ps.length<=100) (hk:K (B (aY ps x y)) h):ay Tryd.prog 32 [pv,cv x,cv y] h K:=by
 refine f32 ?_
 refine ej (σ:=Nat) (λi=>[I i]) (λ_=>h) (λi=>i<=ps.length/\aY ps x y=(ps.drop i).any (hit x y)) (λi=>ps.length-i) 0 rfl rfl ⟨by omega,rfl⟩ ?_
 rintro i ⟨hi,hf⟩ L hL
 rw [Ki]
 simp only [hp.len,aq,dH,cI]
 refine ⟨λhlt=>?_,λdc=>?_⟩
 ·have cr:i<ps.length:=by omega
  obtain ⟨b,o,g1,g2,g3,_⟩:=hp.get i cr
  have MD:=hg ps[i] (getElem_mem cr)
  simp only [g1,g2,aq,jg,add_zero,g3,dp,nD,gC,true_and]
  rw [wrap64 (by omega) (by omega),gT (by omega) (by omega),wrap64 (by omega) (by omega),gT (by omega) (by omega)]
  have hd:ps.drop i=ps[i]::ps.drop (i+1):=List.drop_eq_getElem_cons cr
  have js:aY ps x y=(hit x y ps[i]||(ps.drop (i+1)).any (hit x y)):=by rw [hf,hd];rfl
  simp only [hit] at js
  simp only [Kc,Kd,Ke,Kf,Kg,Kh,gC,dp,aq,dD i (by omega),true_and]
  have next:=λhn:aY ps x y=(ps.drop (i+1)).any (hit x y)=>hL (i+1) ⟨by omega,hn⟩ (by omega)
  generalize (ps.drop (i+1)).any (hit x y)=rest at js next
  simp only [I] at next
  generalize decide ((97:Int)+ps[i].1=x.toNat)=b1 at js⊢
  generalize decide ((97:Int)+ps[i].2=y.toNat)=b2 at js⊢
  generalize decide ((97:Int)+ps[i].1=y.toNat)=b3 at js⊢
  generalize decide ((97:Int)+ps[i].2=x.toNat)=b4 at js⊢
  cases b1 <;> cases b2 <;> cases b3 <;> cases b4 <;> simp at js⊢ <;> first | (rw [js] at hk;exact hk) | exact next js
 ·have:i=ps.length:=by omega
  subst this
  simp at hf
  rw [hf] at hk
  exact hk
end
section
def cb (b:Nat) (hx:ad) (e:TypeId) (v:Value) (xs:List Value):Prop:=
 (v=.slice none 0 0/\xs=[])∨(∃i,b<=i/\v=sl e i 0 xs.length/\hx[i]?=some (.arr e xs))
theorem sO {h0 hx:ad} {e:TypeId} {bytes:Nat} {v x z:Value} {xs:List Value} {K:Value->ad->Prop} (o:cb h0.length hx e v xs) (hex:EX h0 hx) (hb:(xs.length+1)*bytes<=140737488355328) (hm:xs.length+1<=maxLen)
  (h1:dM x=true) (h2:aZ x=[x]) (hk:∀v' b0,EX h0 b0->cb h0.length b0 e v' (xs++[x])->K v' b0):
  OH (bI e 1 [z] hx [(0,1,x)]) λa h2=>OH (cg e 1 bytes h2 v a) K:=by
 have e1:bI e 1 [z] hx [(0,1,x)]=some (sl e hx.length 0 1,hx++[.arr e [x]]):=by
  simp [bI,gE,dQ,h1,h2,setAt]
 rw [e1]
 simp only [cw]
 have e2:dj (hx++[.arr e [x]]) 1 (sl e hx.length 0 1)=some [x]:=by simp [dj,sl,bd]
 have e3:fL (sl e hx.length 0 1)=some 1:=rfl
 rcases o with ⟨rfl,rfl⟩ | ⟨i,hi,rfl,az⟩
 ·refine pI (v:=sl e (hx.length+1) 0 1) (h:=hx++[.arr e [x]]++[.arr e [x]]) ?_ (hk _ _ ((hex.push _).push _) (.inr ⟨hx.length+1,by have:=hex.1;omega,rfl,by simp⟩))
  have eT:1*bytes<=140737488355328:=by simpa using hb
  have ct:1<=maxLen:=by simpa using hm
  simp only [cg,e2,e3]
  rw [if_neg (by omega),if_pos ⟨eT,ct⟩]
  simp
 ·have hlt:=(bw az).1
  have hg:(hx++[.arr e [x]])[i]?=some (.arr e xs):=by rw [getElem?_append_left hlt];exact az
  refine pI (v:=sl e (hx.length+1) 0 (xs.length+1)) (h:=(hx++[aA.arr e [x]]).set i aA.dead++[aA.arr e (xs++[x])]) ?_
   (hk _ _ (((hex.push _).set hi _).push _) (.inr ⟨hx.length+1,by have:=hex.1;omega,by simp,?_⟩))
  ·simp only [cg,e2,e3]
   simp only [sl,hg]
   rw [if_pos ⟨trivial,trivial,by simp,hb,hm⟩,if_neg (by omega)]
   simp
  ·rw [getElem?_append_right (by simp)]
   simp
theorem mc {b:Nat} {hx:ad} {e:TypeId} {v:Value} {l:List UInt8} (o:cb b hx e v (l.map cv)):fI hx v=some (S l):=by
 have hm:∀l:List UInt8,(l.map cv).mapM jR=some l:=by
  intro l
  induction l with
  | nil=>rfl
  | cons c l ih=>simp [List.mapM_cons,jR,ih]
 rcases o with ⟨rfl,hx⟩ | ⟨i,hi,rfl,az⟩
 ·have:l=[]:=by simpa using hx
  subst this
  rfl
 ·by_cases hl:l=[]
  ·subst hl
   simp [fI,dj,sl]
  ·have hn:l.length≠0:=by simpa using hl
   have qK:¬(l.map cv).length=0:=by simpa using hl
   have ht:((l.map cv).drop 0).take ((l.map cv).length*1)=l.map cv:=by rw [drop_zero,Nat.mul_one,take_length]
   simp only [fI,dj,sl,if_neg qK,bd,az,bind_some]
   rw [if_pos (by omega),ht,bind_some,hm]
   rfl
theorem qm {a:Nat} (h:a<100):cv (lt a)=.int .u8 ((97+a:Nat):Int):=by rw [cv,km h]
def bu (k:Int) (cm:Nat->Nat->Bool):List Value:=I k::(List.range 36).map λj=>B (cm (j / 6) (j%6))
def TH (h:ad) (t:Value) (k:Int) (cm:Nat->Nat->Bool):Prop:=∃i,t=pt i 0/\bd h i=some (bu k cm)
theorem TH.mono {h h':ad} {t:Value} {k:Int} {cm:Nat->Nat->Bool} (hx:EX h h') (p:TH h t k cm):TH h' t k cm:=let ⟨i,a,b⟩:=p;⟨i,a,hx.cells b⟩
def qx (cm:Nat->Nat->Bool) (x y:UInt8):Bool:=cm (x.toNat-97) (y.toNat-97)
theorem CQ {t:Value} {k:Int} {cm:Nat->Nat->Bool} {a b:Nat} {h:ad} {K:Value->ad->Prop} (ht:TH h t k cm) (ha:a<6) (hb:b<6) (hk:K (B (!qx cm (lt a) (lt b))) h):ay Tryd.prog 21 [t,cv (lt a),cv (lt b)] h K:=by
 obtain ⟨i,rfl,hc⟩:=ht
 refine f21 ?_
 simp only [sy,qm (show a<100 by omega),qm (show b<100 by omega),sQ,aq]
 rw [gT (by omega) (by omega),gT (by omega) (by omega)]
 have ea:((97+a:Nat):Int)-97=(a:Int):=by omega
 have eb:((97+b:Nat):Int)-97=(b:Int):=by omega
 rw [ea,eb]
 simp only [vf,aq,jg,zero_add]
 have e1:eZ 6 6 (pt i 1) (.int .u8 (a:Int))=some (pt i (1+a*6)):=by simp [eZ];omega
 have e2:eZ 6 1 (pt i (1+a*6)) (.int .u8 (b:Int))=some (pt i (1+a*6+b)):=by simp [eZ];omega
 simp only [e1,aq,e2]
 have e3:ax false 1 h (pt i (1+a*6+b))=some (B (cm a b)):=by
  have hlt:a*6+b<36:=by omega
  have hd:(a*6+b) / 6=a:=by omega
  have hm:(a*6+b)%6=b:=by omega
  simp only [ax,hc,bind_some,dv]
  rw [show 1+a*6+b=(a*6+b)+1 by omega]
  simp [bu,hlt,hd,hm]
 simp only [e3,aq,lO]
 simpa [qx,km (show a<100 by omega),km (show b<100 by omega)] using hk
end
section
structure SS (h:ad) (v:Value) (ls:List (List UInt8)):Prop where
 len:cK v=some (I ls.length)
 get:∀k (hk:k<ls.length),∃i o,bQ 1 v (I k)=some (pt i o)/\ax false 1 h (pt i o)=some (S ls[k])
theorem SS.mono {h h':ad} {v:Value} {ls:List (List UInt8)} (k:EX h h') (p:SS h v ls):SS h' v ls:=
 ⟨p.len,λj hj=>let ⟨i,o,a,b⟩:=p.get j hj;⟨i,o,a,EX.load k b⟩⟩
theorem SS.sl {h:ad} {e:TypeId} {i:Nat} {ls:List (List UInt8)} (hc:bd h i=some (ls.map S)):SS h (sl e i 0 ls.length) ls:=by
 refine ⟨rfl,λk hk=>⟨i,k,?_,?_⟩⟩
 ·have:(0:Int)<=(k:Int)/\(k:Int)<(ls.length:Int):=by omega
  simp [Go.Sim.sl,bQ,this]
 ·simp [ax,hc,dv,hk]
def jI (k:Int) (p:Int×Int):Bool:=(decide (0<=p.1)&&decide (p.1<=k))&&((decide (0<=p.2)&&decide (p.2<=k))&& !decide (p.1=p.2))
def lN (k:Int) (n:Nat):Bool:=(decide (1<=k)&&decide (k<=6))&&decide (n<=30)
def fg (k:Int) (ps:List (Int×Int)):Bool:=ps.all (jI (k-1))&&lN k ps.length
theorem LS (k:Int) (ps:List (Int×Int)):(ps.all (jI (IntKind.wrap .i64 (k-1)))&&lN k ps.length)=fg k ps:=by
 unfold fg
 cases ht:lN k ps.length with
 | false=>simp
 | true=>
  simp only [lN,Bool.and_eq_true,decide_eq_true_eq] at ht
  rw [wrap64 (by omega) (by omega)]
theorem CT {ps:List (Int×Int)} {pv:Value} {k:Int} {h:ad} {K:Value->ad->Prop} (hp:PS h pv ps) (hl:ps.length<=100) (hk:K (B (fg k ps)) h):ay Tryd.prog 25 [I k,pv] h K:=by
 refine f25 ?_
 rw [<-LS] at hk
 refine ej (σ:=Nat) (λi=>[I i]) (λ_=>h) (λi=>i<=ps.length/\ps.all (jI (IntKind.wrap .i64 (k-1)))=(ps.drop i).all (jI (IntKind.wrap .i64 (k-1)))) (λi=>ps.length-i) 0 rfl rfl ⟨by omega,rfl⟩ ?_
 rintro i ⟨hi,hf⟩ L hL
 rw [J8]
 simp only [hp.len,aq,dH,cI]
 refine ⟨λhlt=>?_,λdc=>?_⟩
 ·have cr:i<ps.length:=by omega
  obtain ⟨b,o,g1,g2,g3,_⟩:=hp.get i cr
  rw [List.drop_eq_getElem_cons cr,all_cons] at hf
  have no:jI (IntKind.wrap .i64 (k-1)) ps[i]=false->K (.bool false) h:=by
   intro hn
   rw [hn,Bool.false_and] at hf
   rw [hf,Bool.false_and] at hk
   exact hk
  have yes:jI (IntKind.wrap .i64 (k-1)) ps[i]=true->L [I ((i+1:Nat):Int)] h:=by
   intro hn
   rw [hn,Bool.true_and] at hf
   exact hL (i+1) ⟨by omega,hf⟩ (by omega)
  simp only [jI] at no yes
  simp only [g1,aq,jg,add_zero,g2,sQ,true_and]
  refine r8 _ _ _ ?_
  generalize (decide ((0:Int)<=ps[i].1)&&decide (ps[i].1<=IntKind.wrap .i64 (k-1)))=b1 at no yes⊢
  simp only [lO,aq]
  cases b1 with
  | false=>simp;exact no (by simp)
  | true=>
   simp only [Bool.not_true,gW,aq,g3]
   refine r8 _ _ _ ?_
   generalize (decide ((0:Int)<=ps[i].2)&&decide (ps[i].2<=IntKind.wrap .i64 (k-1)))=b2 at no yes⊢
   simp only [lO,aq]
   cases b2 with
   | false=>simp;exact no (by simp)
   | true=>
    simp only [Bool.not_true,iP,aq,gW,g2,g3,gC,cI,dp,dD i (by omega)]
    refine ⟨λhe=>no (by simp [he]),λhe=>yes (by simp [he])⟩
 ·have:i=ps.length:=by omega
  subst this
  simp only [List.drop_length,List.all_nil] at hf
  rw [hf,Bool.true_and] at hk
  rw [J5]
  refine r8 _ _ _ ?_
  simp only [lN] at hk
  generalize (decide ((1:Int)<=k)&&decide (k<=6))=b1 at hk⊢
  rw [J6]
  have qp:decide ((ps.length:Int)<=30)=decide (ps.length<=30):=by
   by_cases nL:ps.length<=30
   ·simp [nL];omega
   ·simp [nL];omega
  cases b1 <;> simp [J7,hp.len,qp] at hk⊢ <;> exact hk
def dG (k:Int) (c:UInt8):Bool:=decide ((c.toNat:Int)<97)||decide (k<=(c.toNat:Int)-97)
def wh (k:Int) (s:List UInt8) (most:Nat):Int:=if most<s.length then 3 else if s.any (dG k) then 2 else 0
theorem CU {s:List UInt8} {k:Int} {most:Nat} {h:ad} {K:Value->ad->Prop} (hs:s.length<=1000) (hk:K (I (wh k s most)) h):ay Tryd.prog 26 [I k,S s,I most] h K:=by
 refine f26 ?_
 unfold wh at hk
 simp only [sC,jE,aq,pQ,cI]
 refine ⟨λkY=>?_,λhle=>?_⟩
 ·rw [if_pos (by omega)] at hk
  exact hk
 ·rw [if_neg (by omega)] at hk
  refine ej (σ:=Nat) (λi=>[I i]) (λ_=>h) (λi=>i<=s.length/\s.any (dG k)=(s.drop i).any (dG k)) (λi=>s.length-i) 0 rfl rfl ⟨by omega,rfl⟩ ?_
  rintro i ⟨hi,hf⟩ L hL
  rw [Ka]
  simp only [jE,aq,dH,cI]
  refine ⟨λhlt=>?_,λdc=>?_⟩
  ·have cr:i<s.length:=by omega
   rw [List.drop_eq_getElem_cons cr,any_cons] at hf
   have yes:dG k s[i]=true->K (.int .i64 2) h:=by
    intro hn
    rw [hn,Bool.true_or] at hf
    rw [if_pos hf] at hk
    exact hk
   have no:dG k s[i]=false->L [I ((i+1:Nat):Int)] h:=by
    intro hn
    rw [hn,Bool.false_or] at hf
    exact hL (i+1) ⟨by omega,hf⟩ (by omega)
   simp only [dG] at yes no
   rw [ki s cr]
   simp only [aq,dH,J9]
   by_cases bk:(s[i].toNat:Int)<97
   ·have e1:decide ((s[i].toNat:Int)<97)=true:=by simpa using bk
    rw [e1]
    simp only [pk,Ca,jx,aq,fT]
    exact yes (by simp [bk])
   ·have e1:decide ((s[i].toNat:Int)<97)=false:=by simpa using bk
    rw [e1]
    have hb:=UInt8.toNat_lt s[i]
    simp only [gW,ki s cr,aq,sQ,nD,iD]
    rw [gT (by omega) (by omega),wrap64 (by omega) (by omega)]
    simp only [Ca,iP,aq,cI,dp,dD i (by omega),true_and]
    refine ⟨λdc=>yes (by simp [dc]),λdc=>no ?_⟩
    simp [bk,dc]
  ·have:i=s.length:=by omega
   subst this
   simp only [List.drop_length,List.any_nil] at hf
   rw [hf] at hk
   exact hk
def iu (k:Int) (ls:List (List UInt8)) (most:Nat):Int:=if ls.any (λs=>decide (most<s.length)) then 3 else if ls.any (λs=>s.any (dG k)) then 2 else 0
def eJ (k:Int) (ps:List (Int×Int)) (ls:List (List UInt8)) (most:Nat):Int:=if fg k ps then iu k ls most else 1
theorem pO {α:Type} {p:α->Bool} {l:List α} (h:l.any p=false) {x:α} (hx:x∈l):p x=false:=by
 rw [List.any_eq_false] at h
 simpa using h x hx
theorem C8 {ps:List (Int×Int)} {pv lv:Value} {ls:List (List UInt8)} {k:Int} {most:Nat} {h:ad} {K:Value->ad->Prop} (hp:PS h pv ps) (hl:ps.length<=100) (lp:SS h lv ls) (n7:ls.length<=1000)
  (hs:∀s∈ls,s.length<=1000) (hk:K (I (eJ k ps ls most)) h):ay Tryd.prog 8 [I k,pv,I most,lv] h K:=by
 refine ta (v:=I (eJ k ps ls most)) (Ren.bo rfl) ?_ hk
 refine f8 (CT hp hl ?_)
 unfold eJ
 cases ht:fg k ps with
 | false=>simp;exact EX.refl h
 | true=>
  simp only [lO,aq,Bool.not_true,fm,if_true]
  have e1:bI 29 2 [.int .i64 0] h [(0,1,.int .i64 3),(1,1,.int .i64 2)]=some (sl 29 h.length 0 2,h++[.arr 29 [I 3,I 2]]):=by
   simp [bI,gE,dQ,dM,aZ,Value.cells,setAt]
  simp only [e1,cw]
  simp only [sl,cK,aq]
  have hx:EX h (h++[.arr 29 [I 3,I 2]]):=EX.append _ _
  have kf:=lp.mono hx
  -- rounds:the Mu;in each the MW
  refine ej (σ:=Nat) (λj=>[I j]) (λ_=>h++[.arr 29 [I 3,I 2]]) (λj=>j<=2/\(1<=j->ls.any (λs=>decide (most<s.length))=false)/\(2<=j->ls.any (λs=>s.any (dG k))=false)) (λj=>2-j) 0 rfl rfl ⟨by omega,by omega,by omega⟩ ?_
  rintro j ⟨hj,ud,Hj⟩ L hL
  rw [KN]
  simp only [dH,aq,cI]
  refine ⟨λhlt=>?_,λdc=>?_⟩
  ·have nY:j<2:=by omega
   have g1:bQ 1 (.slice (some ⟨h.length,0,some 29⟩) 2 2) (I j)=some (pt h.length j):=by
    have:(0:Int)<=(j:Int)/\(j:Int)<2:=by omega
    simp [bQ,this]
   have g2:ax false 1 (h++[.arr 29 [I 3,I 2]]) (pt h.length j)=some (I (3-j)):=by
    have:j=0∨j=1:=by omega
    rcases this with rfl | rfl <;> simp [ax,bd,dv]
   simp only [g1,aq,g2]
   refine ej (σ:=Nat) (λi=>[I i]) (λ_=>h++[.arr 29 [I 3,I 2]]) (λi=>i<=ls.length/\(∀s∈ls.take i,s.length<=most)/\(j=1->∀s∈ls.take i,s.any (dG k)=false)) (λi=>ls.length-i) 0 rfl rfl ⟨by omega,by simp,by simp⟩ ?_
   rintro i ⟨hi,tZ,ua⟩ L2 hO
   rw [KL]
   simp only [kf.len,aq,dH,cI]
   refine ⟨λhlt2=>?_,λzz=>?_⟩
   ·have gK:i<ls.length:=by omega
    obtain ⟨b,o,s1,s2⟩:=kf.get i gK
    simp only [s1,aq,s2]
    refine CU (hs _ (getElem_mem gK)) ?_
    simp only [gC,aq]
    have htk:ls.take (i+1)=ls.take i++[ls[i]]:=by rw [take_succ_eq_append_getElem gK]
    have dr:ls[i]∈ls:=getElem_mem gK
    have go:ls[i].length<=most->(j=1->ls[i].any (dG k)=false)->L2 [I ((i+1:Nat):Int)] (h++[.arr 29 [I 3,I 2]]):=by
     intro a1 a2
     refine hO (i+1) ⟨by omega,?_,?_⟩ (by omega)
     ·intro s hm
      rw [htk,mem_append,mem_singleton] at hm
      rcases hm with hm | rfl
      ·exact tZ s hm
      ·exact a1
     ·intro hj s hm
      rw [htk,mem_append,mem_singleton] at hm
      rcases hm with hm | rfl
      ·exact ua hj s hm
      ·exact a2 hj
    have uc:j=0∨j=1:=by omega
    unfold wh iu
    by_cases uf:most<ls[i].length
    ·have fV:ls.any (λs=>decide (most<s.length))=true:=any_eq_true.2 ⟨_,dr,by simpa using uf⟩
     rw [if_pos uf,if_pos fV]
     rcases uc with rfl | rfl
     ·simp [oT,oU,oV,oW]
      exact hx
     ·have:=ud (by omega)
      rw [fV] at this
      cases this
    ·rw [if_neg uf]
     by_cases j3:ls[i].any (dG k)=true
     ·rw [if_pos j3]
      have fV:ls.any (λs=>s.any (dG k))=true:=any_eq_true.2 ⟨_,dr,j3⟩
      rcases uc with rfl | rfl
      ·simp only [oT,oU,oV,oW]
       simp [dD i (by omega)]
       have:=go (by omega) (by omega)
       simpa using this
      ·rw [ud (by omega),if_neg (by simp),if_pos fV]
       simp [oT,oU,oV,oW]
       exact hx
     ·rw [if_neg j3]
      have zA:=go (by omega) (λ_=>by simpa using j3)
      rcases uc with rfl | rfl
      ·simp only [oT,oU,oV,oW]
       simp [dD i (by omega)]
       simpa using zA
      ·simp only [oT,oU,oV,oW]
       simp [dD i (by omega)]
       simpa using zA
   ·have:i=ls.length:=by omega
    subst this
    rw [take_length] at tZ ua
    rw [KM]
    simp only [dp,aq,dD j (by omega),true_and]
    refine hL (j+1) ⟨by omega,λ_=>?_,λh2=>?_⟩ (by omega)
    ·rw [List.any_eq_false];intro s hm;have:=tZ s hm;simp;omega
    ·rw [List.any_eq_false];intro s hm;rw [ua (by omega) s hm];simp
  ·have:j=2:=by omega
   subst this
   unfold iu
   rw [ud (by omega),Hj (by omega)]
   exact ⟨rfl,hx⟩
end
section
def cy (ps:List (Int×Int)) (a b:Nat):Bool:=ps.any λp=>(decide (p.1=a)&&decide (p.2=b))||(decide (p.1=b)&&decide (p.2=a))
theorem pN {α:Type} {p q:α->Bool}:∀{l:List α},(∀x∈l,p x=q x)->l.any p=l.any q
 | [],_=>rfl
 | x::l,h=>by rw [any_cons,any_cons,h x (by simp),pN λy hy=>h y (by simp [hy])]
theorem Gv (ps:List (Int×Int)) {a b:Nat} (ha:a<100) (hb:b<100):qx (cy ps) (lt a) (lt b)=aY ps (lt a) (lt b):=by
 unfold qx cy aY
 refine pN λp _=>?_
 unfold hit
 rw [km ha,km hb]
 have e1:∀(x:Int) (c:Nat),decide (x=((97+c-97:Nat):Int))=decide (97+x=((97+c:Nat):Int)):=by
  intro x c
  by_cases h:97+x=((97+c:Nat):Int)
  ·rw [hC h,hC (by omega)]
  ·rw [eA h,eA (by omega)]
 rw [e1,e1,e1,e1]
theorem wu (k:Int) (cm:Nat->Nat->Bool):(bu k cm).length=37:=by simp [bu]
theorem Cx {k:Int} {cm cm':Nat->Nat->Bool} {a b:Nat} (ha:a<6) (hb:b<6) (h:∀x y,x<6->y<6->cm' x y=if x=a/\y=b then true else cm x y):
  setAt (bu k cm) (1+a*6+b) [B true]=bu k cm':=by
 apply List.ext_getElem?
 intro j
 have hl:=wu k cm
 unfold setAt
 by_cases h0:j=1+a*6+b
 ·subst h0
  rw [getElem?_append_left (by simp [hl];omega),getElem?_append_right (by simp;omega)]
  have:((List.take (1+a*6+b) (bu k cm)).length)=1+a*6+b:=by simp [hl];omega
  rw [this]
  have e:1+a*6+b=(a*6+b)+1:=by omega
  have hd:(a*6+b) / 6=a:=by omega
  have hm:(a*6+b)%6=b:=by omega
  have hlt:a*6+b<36:=by omega
  rw [e]
  simp [bu,hlt,hd,hm,h a b ha hb]
 ·have e2:(List.take (1+a*6+b) (bu k cm)++[B true]++List.drop (1+a*6+b+[B true].length) (bu k cm))[j]?=(bu k cm)[j]?:=by
   by_cases hj:j<1+a*6+b
   ·rw [getElem?_append_left (by simp [hl];omega),getElem?_append_left (by simp [hl];omega),List.getElem?_take,if_pos hj]
   ·rw [getElem?_append_right (by simp [hl];omega),List.getElem?_drop]
    congr 1
    simp [hl]
    omega
  rw [e2]
  cases j with
  | zero=>simp [bu]
  | succ j=>
   by_cases hj:j<36
   ·simp only [bu,List.getElem?_cons_succ,List.getElem?_map,List.getElem?_range hj,Option.map_some]
    rw [h (j / 6) (j%6) (by omega) (by omega)]
    rw [if_neg (by omega)]
   ·simp [bu,hj]
def vW (k:Int) (ps:List (Int×Int)):Bool:=(decide (1<=k)&&decide (k<=6)&&decide (ps.length<=30))&&ps.all λp=>decide (0<=min p.1 p.2)&&decide (max p.1 p.2<k)&& !decide (p.1=p.2)
theorem KR (k:Int) (ps:List (Int×Int)):vW k ps=fg k ps:=by
 unfold vW fg lN
 rw [Bool.and_comm]
 congr 1
 induction ps with
 | nil=>rfl
 | cons p ps ih=>
  rw [all_cons,all_cons,ih]
  congr 1
  unfold jI
  rw [Bool.eq_iff_iff]
  simp
  omega
theorem Cy {k:Int} {ps:List (Int×Int)} (h:fg k ps=true):qB ps/\1<=k/\k<=6/\ps.length<=30/\∀p∈ps,0<=p.1/\p.1<k/\0<=p.2/\p.2<k/\p.1≠p.2:=by
 simp only [fg,lN,Bool.and_eq_true,decide_eq_true_eq,List.all_eq_true] at h
 obtain ⟨h1,⟨h2,h3⟩,h4⟩:=h
 have key:∀p∈ps,0<=p.1/\p.1<k/\0<=p.2/\p.2<k/\p.1≠p.2:=by
  intro p hp
  have:=h1 p hp
  simp only [jI,Bool.and_eq_true,decide_eq_true_eq,Bool.not_eq_true',decide_eq_false_iff_not] at this
  omega
 refine ⟨λp hp=>?_,h2,h3,h4,key⟩
 have:=key p hp
 omega
theorem min2 (a b:Int):fJ false [I a,I b]=some (I (min a b)):=by
 simp only [fJ,foldlM,max2,Bool.false_eq_true,if_false]
 have:(if b<a then b else a)=min a b:=by split <;> omega
 rw [this]
 rfl
theorem Ay (a b:Int):fJ true [I a,I b]=some (I (max a b)):=by
 simp only [fJ,foldlM,max2,if_true]
 have:(if b>a then b else a)=max a b:=by split <;> omega
 rw [this]
 rfl
theorem oG {h:ad} {e:TypeId} {xs:List Value} {j:Nat} {v:Value} (hj:xs[j]?=some v):ax false 1 (h++[.arr e xs]) (pt h.length j)=some v:=by
 simp [ax,bd,dv,hj]
theorem FC (ps:List (Int×Int)) (p:Int×Int) {a b:Nat} (ha:p.1=a) (hb:p.2=b) (x y:Nat):
  cy (ps++[p]) x y=if x=b/\y=a then true else if x=a/\y=b then true else cy ps x y:=by
 unfold cy
 rw [any_append]
 simp only [any_cons,List.any_nil,Bool.or_false,ha,hb]
 have e:∀c d:Nat,decide ((c:Int)=(d:Int))=decide (c=d):=by
  intro c d
  by_cases h:c=d
  ·subst h;simp
  ·rw [eA h,eA (by omega)]
 rw [e,e,e,e]
 by_cases h1:x=b/\y=a
 ·obtain ⟨rfl,rfl⟩:=h1;simp
 ·rw [if_neg h1]
  by_cases h2:x=a/\y=b
  ·obtain ⟨rfl,rfl⟩:=h2;simp
  ·rw [if_neg h2]
   have:(decide (a=x)&&decide (b=y)||decide (a=y)&&decide (b=x))=false:=by
    simp;omega
   rw [this,Bool.or_false]
theorem CW {ps:List (Int×Int)} {pv:Value} {k:Int} {h:ad} {K:Value->ad->Prop} (hp:PS h pv ps) (hl:ps.length<=100)
  (aH:fg k ps=false->K (.tuple #[.pointer none,B false]) h) (dC:fg k ps=true->K (.tuple #[pt h.length 0,B true]) (h++[aA.arr 78 (bu k (cy ps))])):
  ay Tryd.prog 37 [I k,pv] h K:=by
 have key:∀{K':Value->ad->Prop},(fg k ps=false->∀hx,EX h hx->K' (.tuple #[.pointer none,B false]) hx)->
   (fg k ps=true->∀hx,EX h hx->hx[h.length]?=some (aA.arr 78 (bu k (cy ps)))->K' (.tuple #[pt h.length 0,B true]) hx)->ay Tryd.prog 37 [I k,pv] h K':=by
  intro K' aH dC
  refine f37 ?_
  simp only [sE,dH,aq,Km,Kn,Ko]
  rw [<-KR] at aH dC
  unfold vW at aH dC
  have qp:decide ((30:Int)<(ps.length:Int))= !decide (ps.length<=30):=by
   by_cases nL:ps.length<=30
   ·simp [nL];omega
   ·simp [nL];omega
  by_cases c1:k<1
  ·have:=aH (by simp;omega)
   simp [c1,rE]
   exact this h (EX.refl h)
  ·by_cases c2:6<k
   ·have:=aH (by simp;omega)
    simp [c1,c2,rE]
    exact this h (EX.refl h)
   ·by_cases c3:ps.length<=30
    ·have g1:decide (1<=k)=true:=by simp;omega
     have g2:decide (k<=6)=true:=by simp;omega
     have g3:decide (ps.length<=30)=true:=by simp [c3]
     rw [g1,g2,g3] at aH dC
     simp only [Bool.true_and] at aH dC
     have e1:decide (k<1)=false:=by simp [c1]
     have e2:decide (6<k)=false:=by simp [c2]
     simp only [e1,gW,pQ,aq,e2,iP,hp.len,qp,g3,Bool.not_true,rE,fm]
     have eb:lu [(.int .i64 (0)),(.bool false),(.bool false),(.bool false),(.bool false),(.bool false),(.bool false),(.bool false),(.bool false),(.bool false),(.bool false),(.bool false),(.bool false),(.bool false),(.bool false),(.bool false),(.bool false),(.bool false),(.bool false),(.bool false),(.bool false),(.bool false),(.bool false),(.bool false),(.bool false),(.bool false),(.bool false),(.bool false),(.bool false),(.bool false),(.bool false),(.bool false),(.bool false),(.bool false),(.bool false),(.bool false),(.bool false)] [(0,1,I k)]
       =some (.agg (bu k (cy [])).toArray):=rfl
     simp only [I] at eb
     simp only [I,eb,aq]
     have ex:iO 78 h (.agg (bu k (cy [])).toArray)=some (pt h.length 0,h++[aA.arr 78 (bu k (cy []))]):=rfl
     simp only [ex,cw]
     refine ej (σ:=Nat×ad) (λp=>[I p.1]) (λp=>p.2)
      (λp=>p.1<=ps.length/\EX h p.2/\p.2[h.length]?=some (aA.arr 78 (bu k (cy (ps.take p.1))))/\(ps.take p.1).all (λp=>decide (0<=min p.1 p.2)&&decide (max p.1 p.2<k)&& !decide (p.1=p.2))=true) (λp=>ps.length-p.1)
      (0,h++[aA.arr 78 (bu k (cy []))]) rfl rfl ⟨by simp,EX.append _ _,by simp,rfl⟩ ?_
     rintro ⟨i,hx⟩ ⟨hi,hex,az,dT⟩ L hL
     simp only at hi hex az dT hL⊢
     rw [Kj]
     have HM:=hp.mono hex
     simp only [dH,aq,cI]
     refine ⟨λhlt=>?_,λdc=>?_⟩
     ·have cr:i<ps.length:=by omega
      obtain ⟨b,o,s1,s2,s3,s4⟩:=HM.get i cr
      have htk:ps.take (i+1)=ps.take i++[ps[i]]:=by rw [take_succ_eq_append_getElem cr]
      simp only [s1,aq,s4]
      have ea:mJ 62 [I 0,I 0] hx=some (pt hx.length 0,hx++[aA.arr 62 [I 0,I 0]]):=rfl
      simp only [I] at ea
      simp only [ea,cw]
      have es:eO 2 (hx++[aA.arr 62 [.int .i64 0,.int .i64 0]]) (pt hx.length 0) (.agg #[I ps[i].1,I ps[i].2])=some (undef,hx++[aA.arr 62 [I ps[i].1,I ps[i].2]]):=by
       simp [eO,jy,dM,aZ,Value.cells,setAt]
      simp only [I] at es
      simp only [I,es,cw]
      have l1:ax false 1 (hx++[aA.arr 62 [I ps[i].1,I ps[i].2]]) (pt hx.length 0)=some (I ps[i].1):=oG rfl
      have l2:ax false 1 (hx++[aA.arr 62 [I ps[i].1,I ps[i].2]]) (pt hx.length 1)=some (I ps[i].2):=oG rfl
      simp only [I] at l1 l2
      simp only [jg,aq,add_zero,zero_add,l1,l2]
      have m1:=min2 ps[i].1 ps[i].2
      have m2:=Ay ps[i].1 ps[i].2
      simp only [I] at m1 m2
      simp only [m1,aq,dH,Kk,jg,add_zero,zero_add,l1,l2,m2,iD,vS,vT,gC]
      have bad:(decide (0<=min ps[i].1 ps[i].2)&&decide (max ps[i].1 ps[i].2<k)&& !decide (ps[i].1=ps[i].2))=false->K' (.tuple #[.pointer none,.bool false]) (hx++[aA.arr 62 [I ps[i].1,I ps[i].2]]):=by
       intro hb
       refine aH ?_ _ (hex.push _)
       rw [List.all_eq_false]
       exact ⟨ps[i],getElem_mem cr,by rw [hb];simp⟩
      simp only [I] at bad
      by_cases d1:min ps[i].1 ps[i].2<0
      ·have:=bad (by rw [eA (by omega)];rfl)
       simp [d1,vS,vT,rF]
       exact this
      ·by_cases d2:k<=max ps[i].1 ps[i].2
       ·have:=bad (by rw [eA (p:=max ps[i].1 ps[i].2<k) (by omega)];simp)
        simp [d1,d2,vS,vT,rF]
        exact this
       ·by_cases d3:ps[i].1=ps[i].2
        ·have:=bad (by rw [hC d3];simp)
         simp only [eA d1,gW,jg,aq,add_zero,zero_add,l1,l2,m2,iD,eA d2,iP,gC,hC d3,rF,fT]
         exact this
        ·simp only [eA d1,gW,jg,aq,add_zero,zero_add,l1,l2,m2,iD,eA d2,iP,gC,eA d3,rF,fm,true_and,vf]
         obtain ⟨a,zr⟩:∃a:Nat,ps[i].1=a:=⟨ps[i].1.toNat,by omega⟩
         obtain ⟨c,iJ⟩:∃c:Nat,ps[i].2=c:=⟨ps[i].2.toNat,by omega⟩
         have mu:a<6:=by omega
         have hc6:c<6:=by omega
         have xE:∀x:Nat,x<6->eZ 6 6 (pt h.length 1) (I x)=some (pt h.length (1+x*6)):=by intro x Ir;simp [eZ];omega
         have xF:∀q x:Nat,x<6->eZ 6 1 (pt h.length q) (I x)=some (pt h.length (q+x)):=by intro q x Ir;simp [eZ];omega
         have b1:=xE a mu
         have b2:=xF (1+a*6) c hc6
         have b3:=xE c hc6
         have b4:=xF (1+c*6) a mu
         rw [<-zr] at b1 b4
         rw [<-iJ] at b2 b3
         simp only [I] at b1 b2 b3 b4
         have Ht:h.length<hx.length:=(bw az).1
         have wo:eO 1 (hx++[aA.arr 62 [I ps[i].1,I ps[i].2]]) (pt h.length (1+a*6+c)) (.bool true)=
           some (undef,(hx++[aA.arr 62 [I ps[i].1,I ps[i].2]]).set h.length (aA.arr 78 (setAt (bu k (cy (ps.take i))) (1+a*6+c) [B true]))):=by
          have hg:(hx++[aA.arr 62 [I ps[i].1,I ps[i].2]])[h.length]?=some (aA.arr 78 (bu k (cy (ps.take i)))):=by rw [getElem?_append_left Ht];exact az
          have zH:=wu k (cy (ps.take i))
          have:1+a*6+c+1<=(bu k (cy (ps.take i))).length:=by omega
          simp [eO,jy,hg,dM,aZ,Value.cells,this]
         let gD:Nat->Nat->Bool:=λx y=>if x=a/\y=c then true else cy (ps.take i) x y
         have eY:=Cx (k:=k) (cm:=cy (ps.take i)) (cm':=gD) mu hc6 (λx y _ _=>rfl)
         rw [eY] at wo
         simp only [I] at wo
         simp only [b1,aq,b2,wo,cw]
         have ld:∀(j:Nat) (v:Value),[I ps[i].1,I ps[i].2][j]?=some v->ax false 1 ((hx++[aA.arr 62 [I ps[i].1,I ps[i].2]]).set h.length (aA.arr 78 (bu k gD))) (pt hx.length j)=some v:=by
          intro j v hv
          have:((hx++[aA.arr 62 [I ps[i].1,I ps[i].2]]).set h.length (aA.arr 78 (bu k gD)))[hx.length]?=some (aA.arr 62 [I ps[i].1,I ps[i].2]):=by
           rw [getElem?_set_ne (by omega)]
           simp
          have h2:bd ((hx++[aA.arr 62 [I ps[i].1,I ps[i].2]]).set h.length (aA.arr 78 (bu k gD))) hx.length=some [I ps[i].1,I ps[i].2]:=by
           unfold bd
           rw [this]
          simp only [ax,h2,bind_some,dv]
          simpa using hv
         have Ao:=ld 1 _ rfl
         have An:=ld 0 _ rfl
         simp only [I] at Ao An
         refine ⟨⟨Ao,An,trivial⟩,?_⟩
         have wq:eO 1 ((hx++[aA.arr 62 [I ps[i].1,I ps[i].2]]).set h.length (aA.arr 78 (bu k gD))) (pt h.length (1+c*6+a)) (.bool true)=
           some (undef,((hx++[aA.arr 62 [I ps[i].1,I ps[i].2]]).set h.length (aA.arr 78 (bu k gD))).set h.length (aA.arr 78 (setAt (bu k gD) (1+c*6+a) [B true]))):=by
          have hg:((hx++[aA.arr 62 [I ps[i].1,I ps[i].2]]).set h.length (aA.arr 78 (bu k gD)))[h.length]?=some (aA.arr 78 (bu k gD)):=by
           rw [List.getElem?_set_self (by simp;omega)]
          have zH:=wu k gD
          have:1+c*6+a+1<=(bu k gD).length:=by omega
          simp [eO,jy,hg,dM,aZ,Value.cells,this]
         have hs2:=Cx (k:=k) (cm:=gD) (cm':=cy (ps.take (i+1))) hc6 mu (λx y _ _=>by rw [htk,FC _ _ zr iJ])
         rw [hs2] at wq
         simp only [I] at wq
         simp only [b3,aq,b4,wq,cw,dp,dD i (by omega)]
         refine hL (i+1,_) ⟨by omega,((hex.push _).set (le_refl _) _).set (le_refl _) _,?_,?_⟩ (by simp;omega)
         ·rw [List.getElem?_set_self (by simp;omega)]
         ·simp only [htk,List.all_append,dT,Bool.true_and,all_cons,List.all_nil,Bool.and_true]
          rw [hC (by omega),hC (by omega),eA d3]
          rfl
     ·have:i=ps.length:=by omega
      subst this
      rw [take_length] at az dT
      rw [Kl]
      exact dC dT hx hex az
    ·have:=aH (by simp;omega)
     have e1:decide (k<1)=false:=by simp [c1]
     have e2:decide (6<k)=false:=by simp [c2]
     have g3:decide (ps.length<=30)=false:=by simp;omega
     simp only [e1,gW,pQ,aq,e2,iP,hp.len,qp,g3,Bool.not_false,rE,fT]
     exact this h (EX.refl h)
 cases ht:fg k ps with
 | false=>
  refine ta (v:=.tuple #[.pointer none,B false]) (Ren.tuple (l:=[λ_=>.pointer none,λ_=>B false]) (.cons (Ren.bo rfl) (.cons (Ren.bo rfl) .nil))) ?_ (aH ht)
  exact key (λ_ hx hex=>⟨rfl,hex⟩) (λh1=>by rw [ht] at h1;cases h1)
 | true=>
  refine yX (V:=λi=>.tuple #[pt i 0,B true]) (o:=aA.arr 78 (bu k (cy ps))) (Ren.tuple (l:=[λi=>pt i 0,λ_=>B true]) (.cons (Ren.pt 0) (.cons (Ren.bo rfl) .nil))) ?_ ?_ (dC ht)
  ·simp [kn,bu,bo]
  ·exact key (λh1=>by rw [ht] at h1;cases h1) (λ_ hx hex hg=>⟨hex,h.length,le_refl _,hg,rfl⟩)
end
section
theorem wv {k:Int} {ps:List (Int×Int)} (h:fg k ps=true):∃n:Nat,k=n/\1<=n/\n<=6:=by
 obtain ⟨_,h1,h2,_⟩:=Cy h
 exact ⟨k.toNat,by omega,by omega,by omega⟩
theorem Ar {n:Nat} {s:List UInt8} (h:s.any (dG n)=false):letters n s:=by
 intro c hc
 have:=pO h hc
 simp only [dG,Bool.or_eq_false_iff,decide_eq_false_iff_not] at this
 refine ⟨c.toNat-97,by omega,?_⟩
 apply UInt8.toNat_inj.1
 rw [lt,UInt8.toNat_ofNat']
 have:=UInt8.toNat_lt c
 omega
theorem Cu {k:Int} {ls:List (List UInt8)} {most:Nat} (h:iu k ls most=0):∀s∈ls,s.length<=most/\s.any (dG k)=false:=by
 unfold iu at h
 cases h1:ls.any (λs=>decide (most<s.length)) with
 | true=>rw [h1] at h;simp at h
 | false=>
  cases h2:ls.any (λs=>s.any (dG k)) with
  | true=>rw [h1,h2] at h;simp at h
  | false=>
   intro s hs
   have a:=pO h1 hs
   have b:=pO h2 hs
   simp only [decide_eq_false_iff_not] at a
   exact ⟨by omega,b⟩
theorem CO {ps:List (Int×Int)} {pv lv:Value} {ls:List (List UInt8)} {k:Int} {most:Nat} {h:ad} {K:Value->ad->Prop} (hp:PS h pv ps) (hl:ps.length<=100) (lp:SS h lv ls) (n7:ls.length<=1000)
  (hs:∀s∈ls,s.length<=1000) (aH:eJ k ps ls most≠0->K (.tuple #[.pointer none,I (eJ k ps ls most)]) h)
  (dC:eJ k ps ls most=0->K (.tuple #[pt h.length 0,I 0]) (h++[.arr 78 (bu k (cy ps))])):ay Tryd.prog 17 [I k,pv,I most,lv] h K:=by
 have key:∀{K':Value->ad->Prop},(eJ k ps ls most≠0->∀hx,EX h hx->K' (.tuple #[.pointer none,I (eJ k ps ls most)]) hx)->
   (eJ k ps ls most=0->K' (.tuple #[pt h.length 0,I 0]) (h++[.arr 78 (bu k (cy ps))]))->ay Tryd.prog 17 [I k,pv,I most,lv] h K':=by
  intro K' aH dC
  unfold eJ at aH dC
  refine f17 (CW hp hl (λht=>?_) (λht=>?_))
  ·rw [ht] at aH
   have:=aH (by simp) h (EX.refl h)
   simpa using this
  ·rw [ht] at aH dC
   simp only [if_true] at aH dC
   obtain ⟨n,rfl,hn1,kb⟩:=wv ht
   have hex:EX h (h++[.arr 78 (bu n (cy ps))]):=EX.append _ _
   have kf:=lp.mono hex
   generalize h++[.arr 78 (bu n (cy ps))]=hx at hex kf dC⊢
   have e0:(#[pt h.length 0,B true]:Array Value)[0]?=some (pt h.length 0):=rfl
   have e1:(#[pt h.length 0,B true]:Array Value)[1]?=some (B true):=rfl
   simp only [mi,e0,e1,aq,lO,Bool.not_true,fm,kf.len]
   refine ej (σ:=Nat) (λi=>[I i]) (λ_=>hx) (λi=>i<=ls.length/\(ls.take i).any (λs=>decide (most<s.length))=false) (λi=>ls.length-i) 0 rfl rfl ⟨by omega,rfl⟩ ?_
   rintro i ⟨hi,hf⟩ L hL
   rw [J4]
   simp only [dH,aq,cI]
   refine ⟨λhlt=>?_,λdc=>?_⟩
   ·have gK:i<ls.length:=by omega
    obtain ⟨b,o,s1,s2⟩:=kf.get i gK
    have htk:ls.take (i+1)=ls.take i++[ls[i]]:=by rw [take_succ_eq_append_getElem gK]
    simp only [s1,aq,s2,jE,pQ,cI,dp,dD i (by omega),true_and]
    refine ⟨λkY=>?_,λhle=>?_⟩
    ·have fV:ls.any (λs=>decide (most<s.length))=true:=any_eq_true.2 ⟨ls[i],getElem_mem gK,by simp;omega⟩
     have he:iu n ls most=3:=by unfold iu;rw [fV];simp
     rw [he] at aH
     exact aH (by omega) hx hex
    ·refine hL (i+1) ⟨by omega,?_⟩ (by omega)
     rw [htk,any_append,hf]
     simp
     omega
   ·have:i=ls.length:=by omega
    subst this
    rw [take_length] at hf
    rw [JY]
    simp only [kf.len,aq]
    refine ej (σ:=Nat) (λi=>[I i]) (λ_=>hx) (λi=>i<=ls.length/\(ls.take i).any (λs=>s.any (dG n))=false) (λi=>ls.length-i) 0 rfl rfl ⟨by omega,rfl⟩ ?_
    rintro i ⟨hi,hg⟩ L1 GN
    rw [JZ]
    simp only [dH,aq,cI]
    refine ⟨λhlt=>?_,λdc=>?_⟩
    ·have gK:i<ls.length:=by omega
     obtain ⟨b,o,s1,s2⟩:=kf.get i gK
     have htk:ls.take (i+1)=ls.take i++[ls[i]]:=by rw [take_succ_eq_append_getElem gK]
     have dr:ls[i]∈ls:=getElem_mem gK
     have hlen:=hs ls[i] dr
     simp only [s1,aq,s2,jE]
     refine ej (σ:=Nat) (λj=>[I j]) (λ_=>hx) (λj=>j<=ls[i].length/\(ls[i].take j).any (dG n)=false) (λj=>ls[i].length-j) 0 rfl rfl ⟨by omega,rfl⟩ ?_
     rintro j ⟨hj,hh⟩ L2 hO
     rw [J0]
     simp only [dH,aq,cI]
     refine ⟨λhlt2=>?_,λzz=>?_⟩
     ·have nY:j<ls[i].length:=by omega
      have Ik:ls[i].take (j+1)=ls[i].take j++[ls[i][j]]:=by rw [take_succ_eq_append_getElem nY]
      rw [ki _ nY]
      simp only [aq,dH,J1]
      have bad:dG n ls[i][j]=true->K' (.tuple #[.pointer none,.int .i64 2]) hx:=by
       intro hb
       have fV:ls.any (λs=>s.any (dG n))=true:=any_eq_true.2 ⟨ls[i],dr,any_eq_true.2 ⟨ls[i][j],getElem_mem nY,hb⟩⟩
       have he:iu n ls most=2:=by unfold iu;rw [hf,fV];simp
       rw [he] at aH
       exact aH (by omega) hx hex
      have zg:dG n ls[i][j]=false->L2 [I ((j+1:Nat):Int)] hx:=by
       intro hb
       refine hO (j+1) ⟨by omega,?_⟩ (by omega)
       rw [Ik,any_append,hh]
       simp [hb]
      simp only [dG] at bad zg
      have hb:=UInt8.toNat_lt ls[i][j]
      by_cases bk:(ls[i][j].toNat:Int)<97
      ·simp only [hC bk,pk,B9,jx,aq,fT]
       exact bad (by simp [bk])
      ·simp only [eA bk,gW,ki _ nY,aq,nD,dp,iD]
       rw [gT (n:=(n:Int)) (by omega) (by omega),gT (by omega) (by omega)]
       simp only [B9,iP,aq,cI,dp,dD j (by omega),true_and]
       refine ⟨λdc=>bad ?_,λdc=>zg ?_⟩
       ·rw [hC (p:=(n:Int)<=(ls[i][j].toNat:Int)-97) (by omega)];simp
       ·rw [eA bk,eA (by omega)];rfl
     ·have:j=ls[i].length:=by omega
      subst this
      rw [take_length] at hh
      rw [J2]
      simp only [dp,aq,dD i (by omega),true_and]
      refine GN (i+1) ⟨by omega,?_⟩ (by omega)
      rw [htk,any_append,hg]
      simp [hh]
    ·have:i=ls.length:=by omega
     subst this
     rw [take_length] at hg
     rw [J3]
     exact dC (by unfold iu;rw [hf,hg];simp)
 by_cases hw:eJ k ps ls most=0
 ·exact key (λh1=>absurd hw h1) dC
 ·refine ta (v:=.tuple #[.pointer none,I (eJ k ps ls most)]) (Ren.tuple (l:=[λ_=>.pointer none,λ_=>I (eJ k ps ls most)]) (.cons (Ren.bo rfl) (.cons (Ren.bo rfl) .nil))) ?_ (aH hw)
  exact key (λ_ hx hex=>⟨rfl,hex⟩) (λh1=>absurd h1 hw)
theorem CF {k:Int} {ps:List (Int×Int)} {ls:List (List UInt8)} {most:Nat} (h:eJ k ps ls most=0):fg k ps=true/\iu k ls most=0:=by
 unfold eJ at h
 cases ht:fg k ps with
 | false=>rw [ht] at h;simp at h
 | true=>rw [ht] at h;exact ⟨rfl,by simpa using h⟩
theorem C6 {s:List UInt8} {n:Nat} {h:ad} {K:Value->ad->Prop} (hk:K (S (s.take n)) h):ay Tryd.prog 6 [S s,I n] h K:=by
 refine f6 ?_
 simp only [T6,jE,aq,min2]
 have e:min (s.length:Int) (n:Int)=((min s.length n:Nat):Int):=by omega
 rw [e]
 rw [LK s (by omega)]
 simp only [aq]
 have e2:s.take (min s.length n)=s.take n:=by
  rcases Nat.le_total s.length n with h | h
  ·rw [Nat.min_eq_left h,take_length,List.take_of_length_le h]
  ·rw [Nat.min_eq_right h]
 rw [e2]
 exact hk
def kA (h:ad) (v:Value) (ps:List (Int×Int)):Prop:=(v=.slice none 0 0/\ps=[])∨∃i,v=sl 62 i 0 ps.length/\(ps=[]∨bd h i=some (bt ps))
theorem kA.mono {h h':ad} {v:Value} {ps:List (Int×Int)} (k:EX h h') (p:kA h v ps):kA h' v ps:=
 p.imp id λ⟨i,a,b⟩=>⟨i,a,b.imp id λb=>k.cells b⟩
theorem BY (ps:List (Int×Int)) (n:Nat):(bt ps).take (2*n)=bt (ps.take n):=by
 induction ps generalizing n with
 | nil=>simp [bt]
 | cons p ps ih=>
  cases n with
  | zero=>simp [bt]
  | succ n=>
   rw [show 2*(n+1)=2*n+1+1 by omega]
   have:=ih n
   simp only [bt] at this⊢
   simp [this]
theorem C5 {ps:List (Int×Int)} {pv:Value} {k:Int} {h:ad} {K:Value->ad->Prop} (hp:kA h pv ps)
  (hk:K (.tuple #[I k,sl 62 h.length 0 (ps.take 31).length]) (h++[.arr 62 (bt (ps.take 31))])):ay Tryd.prog 5 [.agg #[I k,pv]] h K:=by
 refine yX (V:=λi=>.tuple #[I k,sl 62 i 0 (ps.take 31).length]) (o:=.arr 62 (bt (ps.take 31))) (Ren.tuple (l:=[λ_=>I k,λi=>sl 62 i 0 (ps.take 31).length]) (.cons (Ren.bo rfl) (.cons (Ren.sl _ _ _) .nil))) ?_ ?_ hk
 ·have:∀l:List (Int×Int),(bt l).all bo=true:=by
   intro l
   induction l with
   | nil=>rfl
   | cons p l ih=>simp only [bt] at ih⊢;simp [ih,bo]
  exact this _
 ·refine f5 ?_
  have e1:iO 24 h (.agg #[I k,pv])=some (pt h.length 0,h++[.arr 24 [I k,pv]]):=rfl
  simp only [T5,e1,cw,jg,add_zero,aq,zero_add]
  have l0:ax false 1 (h++[.arr 24 [I k,pv]]) (pt h.length 0)=some (I k):=oG rfl
  have l1:ax false 1 (h++[.arr 24 [I k,pv]]) (pt h.length 1)=some pv:=oG rfl
  have x1:EX h (h++[.arr 24 [I k,pv]]):=EX.append _ _
  generalize zB:h++[aA.arr 24 [I k,pv]]=h1 at*
  have MH:h1.length=h.length+1:=by rw [<-zB];simp
  have e2:bI 62 0 [.int .i64 0,.int .i64 0] h1 []=some (sl 62 h1.length 0 0,h1++[.arr 62 []]):=rfl
  simp only [l0,aq,e2,cw,true_and]
  have x2:EX h1 (h1++[.arr 62 []]):=EX.append _ _
  have hp2:=hp.mono (x1.trans x2)
  have q7:=EX.load x2 l0
  have Jc:=EX.load x2 l1
  have nU:(h1++[aA.arr 62 []])[h1.length]?=some (.arr 62 []):=by simp
  generalize Hd:h1++[aA.arr 62 []]=h2 at*
  have hl2:h2.length=h1.length+1:=by rw [<-Hd];simp
  refine ⟨⟨q7,trivial⟩,?_⟩
  simp only [Jc,aq,l1,true_and]
  have hlen:cK pv=some (I ps.length):=by rcases hp with ⟨rfl,rfl⟩ | ⟨i,rfl,_⟩ <;> rfl
  have em:min (ps.length:Int) 31=(((ps.take 31).length:Nat):Int):=by rw [length_take];omega
  have mm:=min2 ps.length 31
  rw [em] at mm
  simp only [I] at mm hlen
  simp only [hlen,aq,mm,I]
  have done:∀hx,EX h2 hx->ax false 1 hx (pt h.length 0)=some (I k):=λhx hex=>EX.load hex q7
  simp only [I] at done
  rcases hp2 with ⟨rfl,rfl⟩ | ⟨i,rfl,hc⟩
  ·have es:lx 62 2 (.slice none 0 0) none (some (.int .i64 (((([]:List (Int×Int)).take 31).length:Nat):Int)))=some (.slice none 0 0):=rfl
   simp only [es,aq]
   have ea:cg 62 2 16 h2 (sl 62 h1.length 0 0) (.slice none 0 0)=some (sl 62 h1.length 0 0,h2):=by
    simp [cg,dj,fL,sl,nU]
   simp only [ea,cw]
   exact ⟨⟨q7,trivial⟩,x1.trans x2,h1.length,by omega,nU,rfl⟩
  ·have hm:(ps.take 31).length<=ps.length:=by rw [length_take];omega
   have es:lx 62 2 (sl 62 i 0 ps.length) none (some (.int .i64 (((ps.take 31).length:Nat):Int)))=some (sl 62 i 0 (ps.take 31).length):=by
    have:(ps.take 31).length<=ps.length:=hm
    simp only [lx,sl,if_true,kg,lF]
    rw [if_pos (by omega),Int.toNat_natCast]
    simp
    omega
   simp only [es,aq]
   have zM:dj h2 2 (sl 62 i 0 (ps.take 31).length)=some (bt (ps.take 31)):=by
    unfold dj sl
    simp only
    by_cases hz:(ps.take 31).length=0
    ·rw [if_pos hz]
     have:ps.take 31=[]:=List.length_eq_zero_iff.1 hz
     rw [this]
     rfl
    ·have hc:=hc.resolve_left (by rintro rfl;simp at hz)
     rw [if_neg hz,hc]
     have zH:=rA ps
     simp only [bind_some,zero_add,drop_zero]
     rw [if_pos (by omega)]
     have:=BY ps (ps.take 31).length
     rw [Nat.mul_comm] at this
     rw [this]
     congr 2
     rw [length_take]
     rcases Nat.le_total 31 ps.length with h | h
     ·rw [Nat.min_eq_left h]
     ·rw [Nat.min_eq_right h,take_length,List.take_of_length_le h]
   have bk:fL (sl 62 i 0 (ps.take 31).length)=some (ps.take 31).length:=rfl
   have Mx:(ps.take 31).length<=31:=by rw [length_take];omega
   by_cases hz:(ps.take 31).length=0
   ·have lh:ps.take 31=[]:=List.length_eq_zero_iff.1 hz
    have ea:cg 62 2 16 h2 (sl 62 h1.length 0 0) (sl 62 i 0 (ps.take 31).length)=some (sl 62 h1.length 0 0,h2):=by
     simp only [cg,zM,bk]
     simp only [sl,nU,hz]
     simp
    simp only [ea,cw]
    refine ⟨⟨q7,trivial⟩,x1.trans x2,h1.length,by omega,?_,?_⟩
    ·rw [nU,lh];rfl
    ·rw [hz]
   ·have ea:cg 62 2 16 h2 (sl 62 h1.length 0 0) (sl 62 i 0 (ps.take 31).length)=some (sl 62 h2.length 0 (ps.take 31).length,h2.set h1.length .dead++[.arr 62 (bt (ps.take 31))]):=by
     simp only [cg,zM,bk]
     simp only [sl,nU]
     rw [if_pos ⟨trivial,trivial,by simp,by simp only [zero_add];omega,by simp only [zero_add,maxLen];omega⟩,if_neg hz]
     simp
    simp only [ea,cw]
    have x3:EX h (h2.set h1.length .dead++[.arr 62 (bt (ps.take 31))]):=((x1.trans x2).set (by omega) _).push _
    refine ⟨⟨?_,trivial⟩,x3,h2.length,by omega,?_,rfl⟩
    ·have:EX h1 (h2.set h1.length .dead++[.arr 62 (bt (ps.take 31))]):=(x2.set (le_refl _) _).push _
     exact EX.load this l0
    ·rw [getElem?_append_right (by simp)]
     simp
end
section
open Go.Sim Go.ChangeShapes Go.WideShapes Go.ChangeAt Go.RowKit
theorem Tryd.own:ownKnob Tryd.prog.godebug=none:=by kernel_rfl
theorem Tryd.laidOut:laidOutB Tryd.prog=true:=by kernel_rfl
theorem qe:Tryd.prog.cellsOf 62=2:=by kernel_rfl
theorem FB:Tryd.prog.cellsOf 24=2:=by kernel_rfl
theorem FA:Tryd.prog.cellsOf 22=1:=by kernel_rfl
theorem yZ:Tryd.prog.cellsOf 3=1:=by kernel_rfl
theorem Fz:Tryd.prog.cellTypes Tryd.prog.depth 24=some [3,22]:=by kernel_rfl
section
variable {H : Type} {enc : TypeId × Value -> H} {W : World} {ρ : ai} {h : ad}
theorem BU {n:Nat} {cs:List Value} {y:DataW H×List MemPlace} (hd:DataW.trod enc Tryd.prog W 0 (λ_=>true) true n 62 cs=some y):∃a b,cs=[I a,I b]:=by
 obtain ⟨y0,y1,m,_,hl,h0,h1⟩:=trod_struct2 Tryd.underlying62 hd
 simp only [qe,yZ] at hl h0 h1
 obtain ⟨a,ha,_,_⟩:=DataW.trod_int Tryd.underlying3 h0
 obtain ⟨b,hb,_,_⟩:=DataW.trod_int Tryd.underlying3 h1
 match cs,hl with
 | [c0,c1],_=>
  simp at ha hb
  exact ⟨a,b,by rw [ha,hb]⟩
theorem JC (n:Nat) (cs:List Value) (y:DataW H×List MemPlace) (hd:DataW.trod enc Tryd.prog W 0 (λ_=>true) true n 62 cs=some y):cs.length=Tryd.prog.cellsOf 62/\∀x∈cs,bo x=true:=by
 obtain ⟨a,b,rfl⟩:=BU hd
 exact ⟨by rw [qe];rfl,by simp [bo]⟩
theorem BW:∀{n:Nat} {xs:List Value},xs.length=n*2->(∀i,i<n->∃a b,(xs.drop (i*2)).take 2=[I a,I b])->∃ps:List (Int×Int),ps.length=n/\xs=bt ps
 | 0,xs,hl,_=>⟨[],rfl,by simpa [bt] using hl⟩
 | n+1,xs,hl,hp=>by
  obtain ⟨a,b,kQ⟩:=hp 0 (by omega)
  match xs,hl with
  | x::y::xs,hl=>
   simp at kQ
   obtain ⟨rfl,rfl⟩:=kQ
   obtain ⟨ps,h1,h2⟩:=BW (n:=n) (xs:=xs) (by simp at hl;omega) λi hi=>by
    have:=hp (i+1) (by omega)
    rw [show (i+1)*2=i*2+1+1 by omega] at this
    simpa using this
   exact ⟨(a,b)::ps,by simp [h1],by simp [bt,h2]⟩
set_option maxRecDepth 100000 in
theorem Gh {b:Nat} {v:Value} {d:DataW H} {ps:List MemPlace} (ak:Value.okWide Tryd.prog W .any b 24 v) (hd:DataW.Trod enc Tryd.prog W 0 (λ_=>true) true 24 v d ps) (HR:ar Tryd.prog ρ h W) (eE:gS h):
  ∃(ae:ai) (g:ad) (k:Int) (pv:Value) (qs:List (Int×Int)),ρ.le ae/\ar Tryd.prog ae (h++g) W/\gS (h++g)/\af ae (.agg #[I k,pv]) v/\kA (h++g) pv qs:=by
 simp only [Value.okWide,Tryd.underlying24] at ak
 obtain ⟨cs,rfl,ft,ts,ow,_,hcells⟩:=ak
 rw [Fz] at ow
 obtain rfl:=(Option.some.inj ow).symm
 obtain ⟨fuel,hf⟩:=hd
 simp only [Value.cells] at hf
 obtain ⟨y0,y1,m,_,hl,h0,h1⟩:=trod_struct2 Tryd.underlying24 hf
 simp only [FB,FA,yZ] at hl h0 h1
 obtain ⟨c0,c1,j4⟩:∃c0 c1,cs.toList=[c0,c1]:=by
  match cs.toList,hl with
  | [c0,c1],_=>exact ⟨c0,c1,rfl⟩
 rw [j4] at h0 h1
 simp at h0 h1
 obtain ⟨k,hk,_,_⟩:=DataW.trod_int Tryd.underlying3 h0
 simp at hk
 subst hk
 obtain rfl:cs=#[I k,c1]:=by
  apply Array.ext'
  simpa using j4
 obtain ⟨u,hu,hc⟩:=hcells 1 c1 rfl
 simp at hu
 subst hu
 have bc:Tryd.prog.cellsOf 62≠0:=by rw [qe];exact Nat.succ_ne_zero 1
 have key:=Ge (P:=Tryd.prog) (W:=W) (enc:=enc) (ρ:=ρ) (h:=h) Tryd.underlying22 bc JC (fuel:=m) (v:=c1) (x:=y1) (b:=b)
 obtain ⟨ae,g,v',n,xs,e1,e2,e3,e4,e5,e6,e7,e8,e9⟩:=key h1 hc HR eE
 rw [qe] at e7 e9
 obtain ⟨qs,q1,rfl⟩:=BW e7 λi hi=>by
  obtain ⟨m,y,hy⟩:=e9 i hi
  exact BU hy
 refine ⟨ae,g,k,v',qs,e1,e2,e3,?_,?_⟩
 ·refine af.nr (ρ:=ae) (xs:=[I k,v']) (xs':=[I k,c1]) (.cons (.int .i64 k) (.cons e4 .nil)) ?_
  intro x hx
  rcases List.mem_cons.1 hx with rfl | hx
  ·rfl
  ·rw [mem_singleton.1 hx]
   exact e5
 ·rcases e6 with ⟨rfl,h0⟩ | ⟨i,rfl,h0⟩
  ·subst h0
   exact .inl ⟨rfl,List.length_eq_zero_iff.1 q1⟩
  ·subst q1
   exact .inr ⟨i,rfl,h0.imp (λh=>List.length_eq_zero_iff.1 h) id⟩
end
end
section
variable (P : Program) (K : VK)
noncomputable section
variable (t0 x1 e9 aw b9 aU fx fy fz fR iW cF : Value) (h : ad)
def AR:=cz Tryd.prog 3 [[],[],[],[],[],[],[9,10,35],[35,38],[40],[40,41],[],[],[9,48],[48,50],[52],[52,53],[]]
@[irreducible] def c3:=df AR
@[irreducible] def yD:=c3.r.r.r.r.l.r.r.l.l.r.l
@[irreducible] def E8:=c3.r.r.r.r.l.r.r.l.r
@[irreducible] def sY:=c3.r.r.r.r.r
@[irreducible] def yE:=yD.r.l
@[irreducible] def yG:=sY.l.r.l
@[irreducible] def E6:=sY.r
@[irreducible] def yF:=yE.r.l
@[irreducible] def yH:=yG.r.l
@[irreducible] def E5:=yF.r.l
@[irreducible] def yI:=yH.r.l
@[irreducible] def E7:=yI.r.l
theorem k3:AR=some (55,c3,[.tmp 4]):=by kernel_rfl
def pA (_P:Program) (K:VK):av:=br [.tmp 4] K
def xm:av:=aG (al P sY (pA P K)) (pA P K)
def pC:av:=aG (al P E8 (xm P K)) (xm P K)
def pB:av:=aG (al P E6 (pA P K)) (pA P K)
def BC:Prop:=aB (al P yD (pC P K)) [9,10,35] [e9,aw,b9] h
def vE:Prop:=aB (al P yE (pC P K)) [35,38] [b9,aU] h
def BD:Prop:=aB (al P yF (pC P K)) [40] [fx] h
def vF:Prop:=aB (al P E5 (pC P K)) [40,41] [fx,fy] h
def BE:Prop:=aB (al P yG (pB P K)) [9,48] [e9,fz] h
def vG:Prop:=aB (al P yH (pB P K)) [48,50] [fz,fR] h
def BF:Prop:=aB (al P yI (pB P K)) [52] [iW] h
def vH:Prop:=aB (al P E7 (pB P K)) [52,53] [iW,cF] h
theorem Kt:vF P K fx fy h=
 (OP (bJ fx fy (.bool false)) λbB=>
 K bB h):=aE (by kernel_rfl)
theorem Ks:BD P K fx h=
 (bP fx true
 (ay P 9 [] h λfy z1=>
 vF P K fx fy z1)
 (vF P K fx undef h)):=aE (by kernel_rfl)
theorem Kr:vE P K b9 aU h=
 (OP (bJ b9 aU (.bool false)) λbN=>
 BD P K bN h):=aE (by kernel_rfl)
theorem Kq:BC P K e9 aw b9 h=
 (bP b9 true
 (OP (au .eql e9 aw) λaU=>
 vE P K b9 aU h)
 (vE P K b9 undef h)):=aE (by kernel_rfl)
theorem Kx:vH P K iW cF h=
 (OP (bJ iW cF (.bool false)) λew=>
 K ew h):=aE (by kernel_rfl)
theorem Kw:BF P K iW h=
 (bP iW true
 (ay P 9 [] h λcF z1=>
 vH P K iW cF z1)
 (vH P K iW undef h)):=aE (by kernel_rfl)
theorem Kv:vG P K fz fR h=
 (OP (bJ fz fR (.bool false)) λfA=>
 BF P K fA h):=aE (by kernel_rfl)
theorem Ku:BE P K e9 fz h=
 (bP fz true
 (OP (au .eql e9 (.int .i64 (0))) λfR=>
 vG P K fz fR h)
 (vG P K fz undef h)):=aE (by kernel_rfl)
def T3:Prop:=
 OH (iO 24 h t0) λt2 z1=>
 OP (ax true 2 z1 t2) λeu=>
 ay P 5 [eu] z1 λaJ z2=>
 OP (gN 0 aJ) λdN=>
 OP (gN 1 aJ) λbX=>
 ay P 6 [x1,(.int .i64 (41))] z2 λaO z3=>
 ay P 7 [dN,bX,aO] z3 λbA z4=>
 OP (gN 0 bA) λbm=>
 OP (gN 1 bA) λbp=>
 OH (bI 9 1 [(.string ⟨#[]⟩)] z4 [(0,1,aO)]) λaN z5=>
 ay P 8 [dN,bX,(.int .i64 (40)),aN] z5 λdO z6=>
 OP (au .neq dO (.int .i64 (0))) λiA=>
 aT iA
 (OP (cK bm) λeQ=>
 OP (au .eql eQ (.int .i64 (0))) λlU=>
 BC P K bp dO lU z6)
 (ay P 11 [bX,aO] z6 λfQ z7=>
 ay P 10 [bm,fQ] z7 λdP z8=>
 BE P K bp dP z8)
theorem e3:al P c3 (br [.tmp 4] K) (bY [t0,x1]) h=T3 P K t0 x1 h:=by kernel_rfl
theorem f3 {K:VK} {t0 x1:Value} {h:ad} (H:T3 Tryd.prog K t0 x1 h):ay Tryd.prog 3 [t0,x1] h K:=
 db k3 (dh rfl) ((e3 Tryd.prog K t0 x1 h).mpr H)
end
noncomputable section
variable (k0 x1 s2 t8 aw eu aJ i14 aF aN bN bB cF ew : Value) (L1 L2 L3 : LQ) (xs : List Value) (h : ad)
def A2:=cz Tryd.prog 7 [[],[],[],[],[],[],[],[2,8,27],[10,28],[],[],[],[],[2,8,10,12,27,28,39],[2,8,10,12,27,28,39,42],[],[],[],[],[2,8,10,13,27,28],[14],[],[],[],[2,8,10,13,14,27,28,53],[54],[],[],[],[],[2,8,10,13,14,27,28,53,54],[2,8,10,13,14,27,28],[2,8,10,13,27,28],[2,8,10,27,28],[10],[]]
@[irreducible] def c7:=df A2
@[irreducible] def nA:=c7.r.r.r.r.l.r.l.l
@[irreducible] def yS:=c7.r.r.r.r.r
@[irreducible] def yO:=nA.r.r.l.l.r.r.l.l.r.l
@[irreducible] def Fi:=nA.r.r.l.l.r.r.l.r
@[irreducible] def s6:=nA.r.r.l.l.r.r.r
@[irreducible] def yN:=nA.r.r.r
@[irreducible] def Fp:=yS.l
@[irreducible] def Fj:=yO.r.l
@[irreducible] def s7:=s6.r.l.r.l.l
@[irreducible] def yP:=s6.r.r
@[irreducible] def Fo:=yN.l
@[irreducible] def yR:=s7.r.l.l.r.l.l
@[irreducible] def yQ:=s7.r.r
@[irreducible] def Fm:=yP.l
@[irreducible] def Fk:=yR.r.r.r.l
@[irreducible] def Fl:=yQ.l
theorem k7:A2=some (89,c7,[.tmp 6,.tmp 7]):=by kernel_rfl
def sm (_P:Program) (K:VK):av:=br [.tmp 6,.tmp 7] K
def D2:av:=aG (al P yS (sm P K)) (sm P K)
def D3:av:=bz 0 (D2 P K)
def pE:av:=aG (λf' aP=>(([2,8,27]:List Nat).map f':List Value)=[s2,t8,aF]/\L1 (([10,28]:List Nat).map f') aP) (D3 P K)
def DW:av:=aG (al P yN (pE P K s2 t8 aF L1)) (pE P K s2 t8 aF L1)
def nk:av:=bz 1 (DW P K s2 t8 aF L1)
def xu:av:=aG (al P s6 (nk P K s2 t8 aF L1)) (nk P K s2 t8 aF L1)
def xv:av:=aG (al P Fi (xu P K s2 t8 aF L1)) (xu P K s2 t8 aF L1)
def DX:av:=aG (al P yP (nk P K s2 t8 aF L1)) (nk P K s2 t8 aF L1)
def DY:av:=bz 2 (DX P K s2 t8 aF L1)
def pF:av:=aG (λf' aP=>(([2,8,10,13,27,28]:List Nat).map f':List Value)=[s2,t8,aw,aJ,aF,aN]/\L2 (([14]:List Nat).map f') aP) (DY P K s2 t8 aF L1)
def DZ:av:=aG (al P yQ (pF P K s2 t8 aw aJ aF aN L1 L2)) (pF P K s2 t8 aw aJ aF aN L1 L2)
def D0:av:=bz 3 (DZ P K s2 t8 aw aJ aF aN L1 L2)
def D1:av:=bz 4 (D0 P K s2 t8 aw aJ aF aN L1 L2)
def xw:av:=aG (λf' aP=>(([2,8,10,13,14,27,28,53]:List Nat).map f':List Value)=[s2,t8,aw,aJ,i14,aF,aN,cF]/\L3 (([54]:List Nat).map f') aP) (D1 P K s2 t8 aw aJ aF aN L1 L2)
def BJ:Prop:=aB (al P nA (pE P K s2 t8 aF L1)) ([2,8,27]++[10,28]) ([s2,t8,aF]++xs) h
def BK:Prop:=aB (al P yO (xv P K s2 t8 aF L1)) [2,8,10,12,27,28,39] [s2,t8,aw,eu,aF,aN,bN] h
def rr:Prop:=aB (al P Fj (xv P K s2 t8 aF L1)) [2,8,10,12,27,28,39,42] [s2,t8,aw,eu,aF,aN,bN,bB] h
def vK:Prop:=aB (al P s7 (pF P K s2 t8 aw aJ aF aN L1 L2)) ([2,8,10,13,27,28]++[14]) ([s2,t8,aw,aJ,aF,aN]++xs) h
def BL:Prop:=aB (al P yR (xw P K s2 t8 aw aJ i14 aF aN cF L1 L2 L3)) ([2,8,10,13,14,27,28,53]++[54]) ([s2,t8,aw,aJ,i14,aF,aN,cF]++xs) h
def lH:Prop:=aB (al P Fk (xw P K s2 t8 aw aJ i14 aF aN cF L1 L2 L3)) [2,8,10,13,14,27,28,53,54] [s2,t8,aw,aJ,i14,aF,aN,cF,ew] h
def BM:Prop:=aB (al P Fl (pF P K s2 t8 aw aJ aF aN L1 L2)) [2,8,10,13,14,27,28] [s2,t8,aw,aJ,i14,aF,aN] h
def BN:Prop:=aB (al P Fm (nk P K s2 t8 aF L1)) [2,8,10,13,27,28] [s2,t8,aw,aJ,aF,aN] h
def ru:Prop:=aB (al P Fo (pE P K s2 t8 aF L1)) [2,8,10,27,28] [s2,t8,aw,aF,aN] h
def BO:Prop:=aB (al P Fp (sm P K)) [10] [aw] h
theorem Cb:rr P K s2 t8 aw eu aF aN bN bB L1 h=
 (OP (bJ bN (.bool true) bB) λbC=>
 aT bC
 (ru P K s2 t8 aw aF aN L1 h)
 (OP (ax false 1 h eu) λbO=>
 OH (bI 5 1 [(.int .u8 (0))] h [(0,1,bO)]) λfh z1=>
 OH (mJ 40 [(.slice none 0 0)] z1) λaJ z2=>
 OH (eO 1 z2 aJ fh) λ_ z3=>
 cn [(.int .i64 (0))] z3 λL2 xs hx=>
 vK P K s2 t8 aw aJ aF aN L1 L2 xs hx)):=aE (by kernel_rfl)
theorem KE:BK P K s2 t8 aw eu aF aN bN L1 h=
 (bP bN false
 (ay P 19 [aw,(.func (.func 20) #[] #[eu])] h λbB z1=>
 rr P K s2 t8 aw eu aF aN bN bB L1 z1)
 (rr P K s2 t8 aw eu aF aN bN undef L1 h)):=aE (by kernel_rfl)
theorem KH:lH P K s2 t8 aw aJ i14 aF aN cF ew L1 L2 L3 h=
 (OP (au .add ew (.int .i64 (1))) λL8=>
 ([s2,t8,aw,aJ,i14,aF,aN,cF]:List Value)=[s2,t8,aw,aJ,i14,aF,aN,cF]/\L3 [L8] h):=aE (by kernel_rfl)
theorem KG (s2 t8 aw aJ i14 aF aN cF:Value) (L1 L2 L3:LQ) (ew:Value) (h:ad):BL P K s2 t8 aw aJ i14 aF aN cF L1 L2 L3 [ew] h=
 (OP (au .lss ew cF) λlV=>
 aT lV
 (OP (ax false 1 h aJ) λiX=>
 (True)/\
 OP (bQ 1 iX i14) λkv=>
 OP (ax false 1 h kv) λlW=>
 (True)/\
 OP (du s2 ew) λwD=>
 ay P 21 [t8,lW,wD] h λlX z1=>
 (True)/\
 bP lX true
 (OP (ax false 1 z1 aJ) λwE=>
 (True)/\
 OP (du s2 ew) λL4=>
 ay P 22 [wE,L4] z1 λwH z2=>
 (True)/\
 OP (eG .not wH) λL5=>
 OP (bJ lX L5 (.bool false)) λwI=>
 aT wI
 (OP (ax false 1 z2 aJ) λpc=>
 (True)/\
 OP (du s2 ew) λwJ=>
 OH (bI 5 1 [(.int .u8 (0))] z2 [(0,1,wJ)]) λwK z3=>
 (ax false 1 z3 aJ=some pc/\True)/\
 OH (cg 5 1 1 z3 pc wK) λpd z4=>
 (True)/\
 OH (eO 1 z4 aJ pd) λ_ z5=>
 (True)/\
 lH P K s2 t8 aw aJ i14 aF aN cF ew L1 L2 L3 z5)
 (lH P K s2 t8 aw aJ i14 aF aN cF ew L1 L2 L3 z2))
 ((True)/\
 OP (bJ lX undef (.bool false)) λwI=>
 aT wI
 (OP (ax false 1 z1 aJ) λpc=>
 (True)/\
 OP (du s2 ew) λwJ=>
 OH (bI 5 1 [(.int .u8 (0))] z1 [(0,1,wJ)]) λwK z2=>
 (ax false 1 z2 aJ=some pc/\True)/\
 OH (cg 5 1 1 z2 pc wK) λpd z3=>
 (True)/\
 OH (eO 1 z3 aJ pd) λ_ z4=>
 (True)/\
 lH P K s2 t8 aw aJ i14 aF aN cF ew L1 L2 L3 z4)
 (lH P K s2 t8 aw aJ i14 aF aN cF ew L1 L2 L3 z1)))
 (BM P K s2 t8 aw aJ i14 aF aN L1 L2 h)):=aE (by kernel_rfl)
theorem KI:BM P K s2 t8 aw aJ i14 aF aN L1 L2 h=
 (OP (au .add i14 (.int .i64 (1))) λfA=>
 ([s2,t8,aw,aJ,aF,aN]:List Value)=[s2,t8,aw,aJ,aF,aN]/\L2 [fA] h):=aE (by kernel_rfl)
theorem KF (s2 t8 aw aJ aF aN:Value) (L1 L2:LQ) (i14:Value) (h:ad):vK P K s2 t8 aw aJ aF aN L1 L2 [i14] h=
 (OP (ax false 1 h aJ) λdP=>
 OP (cK dP) λfz=>
 OP (au .lss i14 fz) λcX=>
 aT cX
 (OP (eN s2) λcF=>
 cn [(.int .i64 (0))] h λL3 xs hx=>
 BL P K s2 t8 aw aJ i14 aF aN cF L1 L2 L3 xs hx)
 (BN P K s2 t8 aw aJ aF aN L1 h)):=aE (by kernel_rfl)
theorem KJ:BN P K s2 t8 aw aJ aF aN L1 h=
 (ay P 23 [(.func (.func 24) #[] #[aJ]),s2] h λMc z1=>
 OH (bI 9 1 [(.string ⟨#[]⟩)] z1 [(0,1,Mc)]) λwL z2=>
 OH (cg 9 1 16 z2 aw wL) λpe z3=>
 ru P K s2 t8 pe aF aN L1 z3):=aE (by kernel_rfl)
theorem Cc:ru P K s2 t8 aw aF aN L1 h=
 (OP (au .add aN (.int .i64 (1))) λwM=>
 ([s2,t8,aF]:List Value)=[s2,t8,aF]/\L1 [aw,wM] h):=aE (by kernel_rfl)
theorem KD (s2 t8 aF:Value) (L1:LQ) (aw aN:Value) (h:ad):BJ P K s2 t8 aF L1 [aw,aN] h=
 (OP (au .lss aN aF) λdO=>
 aT dO
 (OP (jw .u8 aN) λiB=>
 OP (au .add (.int .u8 (97)) iB) λeQ=>
 OH (mJ 5 [(.int .u8 (0))] h) λeu z1=>
 OH (eO 1 z1 eu eQ) λ_ z2=>
 OP (ax false 1 z2 eu) λb9=>
 OP (oE b9) λaS=>
 ay P 18 [s2,aS] z2 λba z3=>
 OP (eG .not ba) λaU=>
 BK P K s2 t8 aw eu aF aN aU L1 z3)
 (BO P K aw h)):=aE (by kernel_rfl)
theorem KK:BO P K aw h=
 (K (.tuple #[aw,(.int .i64 (0))]) h):=aE (by kernel_rfl)
def T7:Prop:=
 OH (bI 9 1 [(.string ⟨#[]⟩)] h [(0,1,s2)]) λeP z1=>
 ay P 17 [k0,x1,(.int .i64 (40)),eP] z1 λfY z2=>
 OP (gN 0 fY) λbA=>
 OP (gN 1 fY) λbm=>
 OP (au .neq bm (.int .i64 (0))) λbf=>
 aT bf
 (K (.tuple #[(.slice none 0 0),bm]) z2)
 (cn [(.slice none 0 0),(.int .i64 (0))] z2 λL1 xs hx=>
 BJ P K s2 bA k0 L1 xs hx)
theorem e7:al P c7 (br [.tmp 6,.tmp 7] K) (bY [k0,x1,s2]) h=T7 P K k0 x1 s2 h:=by kernel_rfl
theorem f7 {K:VK} {k0 x1 s2:Value} {h:ad} (H:T7 Tryd.prog K k0 x1 s2 h):ay Tryd.prog 7 [k0,x1,s2] h K:=
 db k7 (dh rfl) ((e7 Tryd.prog K k0 x1 s2 h).mpr H)
end
noncomputable section
variable (x0 s1 x5 x6 x7 x8 i9 cY t11 i12 bA bf bC dP cX gz : Value) (L1 L2 L3 : LQ) (xs : List Value) (h : ad)
def AH:=cz Tryd.prog 11 [[],[],[],[0,1],[5,6,7],[],[],[0,1,5,6,7,22],[0,1,5,6,7,22,25],[],[],[],[],[0,1,5,6,7],[8,9],[],[],[],[0,1,5,6,7,9],[8,10],[],[],[0,1,5,6,7,8,9,10,43],[0,1,5,6,7,8,9,10,43,47],[0,1,5,6,7,8,9,10,49],[0,1,5,6,7,8,9,10,49,56],[],[0,1,5,6,7,8,9,10],[0,1,5,6,7,8,9],[0,1,5,6,7,8],[],[],[],[0,1,5,6,7,8],[11,12],[],[],[],[0,1,5,6,7,8,11,12],[0,1,5,6,7,11],[0,1,5,6,7],[5],[]]
@[irreducible] def pT:=df AH
@[irreducible] def nv:=pT.r.r.l.r.l.l
@[irreducible] def xS:=pT.r.r.r
@[irreducible] def xP:=nv.r.l.l.l.l.r.l
@[irreducible] def Er:=nv.r.l.l.l.r
@[irreducible] def sR:=nv.r.l.l.r
@[irreducible] def xZ:=nv.r.r
@[irreducible] def EA:=xS.l
@[irreducible] def Es:=xP.r.l
@[irreducible] def sS:=sR.r.l.r.l.l
@[irreducible] def xQ:=sR.r.r
@[irreducible] def Ez:=xZ.l
@[irreducible] def pU:=sS.r.l.l.r.l.l
@[irreducible] def xR:=sS.r.r
@[irreducible] def sT:=xQ.l
@[irreducible] def xU:=pU.r.l.l.l.r.l
@[irreducible] def Et:=pU.r.l.l.r
@[irreducible] def xT:=pU.r.r
@[irreducible] def Ew:=xR.l
@[irreducible] def xY:=sT.r.r.l.r.l.l
@[irreducible] def xX:=sT.r.r.r
@[irreducible] def xV:=xU.r.l
@[irreducible] def Ev:=xT.l
@[irreducible] def Ex:=xY.r.r.l
@[irreducible] def Ey:=xX.l
@[irreducible] def xW:=xV.r.l
@[irreducible] def Eu:=xW.r.l
theorem IT:AH=some (89,pT,[.tmp 4]):=by kernel_rfl
def se (_P:Program) (K:VK):av:=br [.tmp 4] K
def Dh:av:=aG (al P xS (se P K)) (se P K)
def Dl:av:=bz 0 (Dh P K)
def pw:av:=aG (λf' aP=>(([0,1]:List Nat).map f':List Value)=[x0,s1]/\L1 (([5,6,7]:List Nat).map f') aP) (Dl P K)
def Dm:av:=aG (al P xZ (pw P K x0 s1 L1)) (pw P K x0 s1 L1)
def jO:av:=bz 1 (Dm P K x0 s1 L1)
def w4:av:=aG (al P sR (jO P K x0 s1 L1)) (jO P K x0 s1 L1)
def w5:av:=aG (al P Er (w4 P K x0 s1 L1)) (w4 P K x0 s1 L1)
def Dc:av:=aG (al P xQ (jO P K x0 s1 L1)) (jO P K x0 s1 L1)
def Dd:av:=bz 2 (Dc P K x0 s1 L1)
def pn:av:=aG (λf' aP=>(([0,1,5,6,7]:List Nat).map f':List Value)=[x0,s1,x5,x6,x7]/\L2 (([8,9]:List Nat).map f') aP) (Dd P K x0 s1 L1)
def De:av:=aG (al P xR (pn P K x0 s1 x5 x6 x7 L1 L2)) (pn P K x0 s1 x5 x6 x7 L1 L2)
def Df:av:=bz 3 (De P K x0 s1 x5 x6 x7 L1 L2)
def Dg:av:=bz 4 (Df P K x0 s1 x5 x6 x7 L1 L2)
def pq:av:=aG (λf' aP=>(([0,1,5,6,7,9]:List Nat).map f':List Value)=[x0,s1,x5,x6,x7,i9]/\L3 (([8,10]:List Nat).map f') aP) (Dg P K x0 s1 x5 x6 x7 L1 L2)
def Di:av:=aG (al P xT (pq P K x0 s1 x5 x6 x7 i9 L1 L2 L3)) (pq P K x0 s1 x5 x6 x7 i9 L1 L2 L3)
def w6:av:=bz 5 (Di P K x0 s1 x5 x6 x7 i9 L1 L2 L3)
def pr:av:=aG (al P Et (w6 P K x0 s1 x5 x6 x7 i9 L1 L2 L3)) (w6 P K x0 s1 x5 x6 x7 i9 L1 L2 L3)
def Dj:av:=aG (al P xX (jO P K x0 s1 L1)) (jO P K x0 s1 L1)
def Dk:av:=bz 6 (Dj P K x0 s1 L1)
def w7:av:=aG (λf' aP=>(([0,1,5,6,7,8]:List Nat).map f':List Value)=[x0,s1,x5,x6,x7,x8]/\L2 (([11,12]:List Nat).map f') aP) (Dk P K x0 s1 L1)
def Be:Prop:=aB (al P nv (pw P K x0 s1 L1)) ([0,1]++[5,6,7]) ([x0,s1]++xs) h
def A8:Prop:=aB (al P xP (w5 P K x0 s1 L1)) [0,1,5,6,7,22] [x0,s1,x5,x6,x7,bA] h
def rk:Prop:=aB (al P Es (w5 P K x0 s1 L1)) [0,1,5,6,7,22,25] [x0,s1,x5,x6,x7,bA,bf] h
def vm:Prop:=aB (al P sS (pn P K x0 s1 x5 x6 x7 L1 L2)) ([0,1,5,6,7]++[8,9]) ([x0,s1,x5,x6,x7]++xs) h
def A9:Prop:=aB (al P pU (pq P K x0 s1 x5 x6 x7 i9 L1 L2 L3)) ([0,1,5,6,7,9]++[8,10]) ([x0,s1,x5,x6,x7,i9]++xs) h
def Ba:Prop:=aB (al P xU (pr P K x0 s1 x5 x6 x7 i9 L1 L2 L3)) [0,1,5,6,7,8,9,10,43] [x0,s1,x5,x6,x7,x8,i9,cY,bC] h
def vn:Prop:=aB (al P xV (pr P K x0 s1 x5 x6 x7 i9 L1 L2 L3)) [0,1,5,6,7,8,9,10,43,47] [x0,s1,x5,x6,x7,x8,i9,cY,bC,dP] h
def Bb:Prop:=aB (al P xW (pr P K x0 s1 x5 x6 x7 i9 L1 L2 L3)) [0,1,5,6,7,8,9,10,49] [x0,s1,x5,x6,x7,x8,i9,cY,cX] h
def rl:Prop:=aB (al P Eu (pr P K x0 s1 x5 x6 x7 i9 L1 L2 L3)) [0,1,5,6,7,8,9,10,49,56] [x0,s1,x5,x6,x7,x8,i9,cY,cX,gz] h
def rn:Prop:=aB (al P Ev (pq P K x0 s1 x5 x6 x7 i9 L1 L2 L3)) [0,1,5,6,7,8,9,10] [x0,s1,x5,x6,x7,x8,i9,cY] h
def Bc:Prop:=aB (al P Ew (pn P K x0 s1 x5 x6 x7 L1 L2)) [0,1,5,6,7,8,9] [x0,s1,x5,x6,x7,x8,i9] h
def vo:Prop:=aB (al P sT (jO P K x0 s1 L1)) [0,1,5,6,7,8] [x0,s1,x5,x6,x7,x8] h
def vp:Prop:=aB (al P xY (w7 P K x0 s1 x5 x6 x7 x8 L1 L2)) ([0,1,5,6,7,8]++[11,12]) ([x0,s1,x5,x6,x7,x8]++xs) h
def rp:Prop:=aB (al P Ex (w7 P K x0 s1 x5 x6 x7 x8 L1 L2)) [0,1,5,6,7,8,11,12] [x0,s1,x5,x6,x7,x8,t11,i12] h
def vq:Prop:=aB (al P Ey (jO P K x0 s1 L1)) [0,1,5,6,7,11] [x0,s1,x5,x6,x7,t11] h
def rq:Prop:=aB (al P Ez (pw P K x0 s1 L1)) [0,1,5,6,7] [x0,s1,x5,x6,x7] h
def Bd:Prop:=aB (al P EA (se P K)) [5] [x5] h
theorem B5:rk P K x0 s1 x5 x6 x7 bA bf L1 h=
 (OP (bJ bA (.bool true) bf) λdx=>
 aT dx
 (rq P K x0 s1 x5 x6 x7 L1 h)
 (OH (bI 5 1 [(.int .u8 (0))] h [(0,1,x7)]) λaN z1=>
 OP (fI z1 aN) λdO=>
 cn [dO,(.int .i64 (0))] z1 λL2 xs hx=>
 vm P K x0 s1 x5 x6 x7 L1 L2 xs hx)):=aE (by kernel_rfl)
theorem JL:A8 P K x0 s1 x5 x6 x7 bA L1 h=
 (bP bA false
 (ay P 31 [x6,x7] h λbf z1=>
 rk P K x0 s1 x5 x6 x7 bA bf L1 z1)
 (rk P K x0 s1 x5 x6 x7 bA undef L1 h)):=aE (by kernel_rfl)
theorem B8:rl P K x0 s1 x5 x6 x7 x8 i9 cY cX gz L1 L2 L3 h=
 (OP (bJ cX gz (.bool false)) λmZ=>
 aT mZ
 (OH (bI 5 1 [(.int .u8 (0))] h [(0,1,cY)]) λkv z1=>
 OP (fI z1 kv) λlW=>
 OP (au .add x8 lW) λwC=>
 rn P K x0 s1 x5 x6 x7 wC i9 cY L1 L2 L3 z1)
 (rn P K x0 s1 x5 x6 x7 x8 i9 cY L1 L2 L3 h)):=aE (by kernel_rfl)
theorem B7:Bb P K x0 s1 x5 x6 x7 x8 i9 cY cX L1 L2 L3 h=
 (bP cX true
 (OP (du x8 i9) λcF=>
 ay P 32 [x0,cF,cY] h λlV z1=>
 OP (eG .not lV) λgz=>
 rl P K x0 s1 x5 x6 x7 x8 i9 cY cX gz L1 L2 L3 z1)
 (rl P K x0 s1 x5 x6 x7 x8 i9 cY cX undef L1 L2 L3 h)):=aE (by kernel_rfl)
theorem B6:vn P K x0 s1 x5 x6 x7 x8 i9 cY bC dP L1 L2 L3 h=
 (OP (bJ bC dP (.bool false)) λfz=>
 Bb P K x0 s1 x5 x6 x7 x8 i9 cY fz L1 L2 L3 h):=aE (by kernel_rfl)
theorem JO:Ba P K x0 s1 x5 x6 x7 x8 i9 cY bC L1 L2 L3 h=
 (bP bC true
 (ay P 31 [x8,cY] h λfQ z1=>
 OP (eG .not fQ) λdP=>
 vn P K x0 s1 x5 x6 x7 x8 i9 cY bC dP L1 L2 L3 z1)
 (vn P K x0 s1 x5 x6 x7 x8 i9 cY bC undef L1 L2 L3 h)):=aE (by kernel_rfl)
theorem JP:rn P K x0 s1 x5 x6 x7 x8 i9 cY L1 L2 L3 h=
 (OP (au .add cY (.int .u8 (1))) λbN=>
 ([x0,s1,x5,x6,x7,i9]:List Value)=[x0,s1,x5,x6,x7,i9]/\L3 [x8,bN] h):=aE (by kernel_rfl)
theorem JN (x0 s1 x5 x6 x7 i9:Value) (L1 L2 L3:LQ) (x8 cY:Value) (h:ad):A9 P K x0 s1 x5 x6 x7 i9 L1 L2 L3 [x8,cY] h=
 (OP (au .leq cY (.int .u8 (102))) λba=>
 aT ba
 (ay P 31 [s1,cY] h λbB z1=>
 Ba P K x0 s1 x5 x6 x7 x8 i9 cY bB L1 L2 L3 z1)
 (Bc P K x0 s1 x5 x6 x7 x8 i9 L1 L2 h)):=aE (by kernel_rfl)
theorem JQ:Bc P K x0 s1 x5 x6 x7 x8 i9 L1 L2 h=
 (OP (au .add i9 (.int .i64 (1))) λb9=>
 ([x0,s1,x5,x6,x7]:List Value)=[x0,s1,x5,x6,x7]/\L2 [x8,b9] h):=aE (by kernel_rfl)
theorem JM (x0 s1 x5 x6 x7:Value) (L1 L2:LQ) (x8 i9:Value) (h:ad):vm P K x0 s1 x5 x6 x7 L1 L2 [x8,i9] h=
 (OP (eN x8) λiB=>
 OP (au .lss i9 iB) λeQ=>
 aT eQ
 (cn [x8,(.int .u8 (97))] h λL3 xs hx=>
 A9 P K x0 s1 x5 x6 x7 i9 L1 L2 L3 xs hx)
 (vo P K x0 s1 x5 x6 x7 x8 L1 h)):=aE (by kernel_rfl)
theorem JT:rp P K x0 s1 x5 x6 x7 x8 t11 i12 L1 L2 h=
 (OP (au .add i12 (.int .i64 (1))) λwH=>
 ([x0,s1,x5,x6,x7,x8]:List Value)=[x0,s1,x5,x6,x7,x8]/\L2 [t11,wH] h):=aE (by kernel_rfl)
theorem JS (x0 s1 x5 x6 x7 x8:Value) (L1 L2:LQ) (t11 i12:Value) (h:ad):vp P K x0 s1 x5 x6 x7 x8 L1 L2 [t11,i12] h=
 (OP (eN s1) λwF=>
 OP (au .lss i12 wF) λwG=>
 aT wG
 (OP (du s1 i12) λL6=>
 ay P 31 [x8,L6] h λL7 z1=>
 aT L7
 (OP (au .add i12 (.int .i64 (1))) λL9=>
 OP (iQ s1 (some i12) (some L9)) λMa=>
 OP (au .add t11 Ma) λMb=>
 rp P K x0 s1 x5 x6 x7 x8 Mb i12 L1 L2 z1)
 (rp P K x0 s1 x5 x6 x7 x8 t11 i12 L1 L2 z1))
 (vq P K x0 s1 x5 x6 x7 t11 L1 h)):=aE (by kernel_rfl)
theorem JU:vq P K x0 s1 x5 x6 x7 t11 L1 h=
 (OH (bI 9 1 [(.string ⟨#[]⟩)] h [(0,1,t11)]) λpe z1=>
 OH (cg 9 1 16 z1 x5 pe) λwM z2=>
 rq P K x0 s1 wM x6 x7 L1 z2):=aE (by kernel_rfl)
theorem JR:vo P K x0 s1 x5 x6 x7 x8 L1 h=
 (OP (au .add x6 x8) λlX=>
 cn [(.string ⟨#[]⟩),(.int .i64 (0))] h λL2 xs hx=>
 vp P K x0 s1 x5 lX x7 x8 L1 L2 xs hx):=aE (by kernel_rfl)
theorem JV:rq P K x0 s1 x5 x6 x7 L1 h=
 (OP (au .add x7 (.int .u8 (1))) λaO=>
 ([x0,s1]:List Value)=[x0,s1]/\L1 [x5,x6,aO] h):=aE (by kernel_rfl)
theorem JX (x0 s1:Value) (L1:LQ) (x5 x6 x7:Value) (h:ad):Be P K x0 s1 L1 [x5,x6,x7] h=
 (OP (au .leq x7 (.int .u8 (102))) λbX=>
 aT bX
 (ay P 31 [s1,x7] h λeP z1=>
 OP (eG .not eP) λfY=>
 A8 P K x0 s1 x5 x6 x7 fY L1 z1)
 (Bd P K x5 h)):=aE (by kernel_rfl)
theorem JW:Bd P K x5 h=
 (K x5 h):=aE (by kernel_rfl)
def su:Prop:=
 OH (bI 9 0 [(.string ⟨#[]⟩)] h []) λaJ z1=>
 cn [aJ,(.string ⟨#[]⟩),(.int .u8 (97))] z1 λL1 xs hx=>
 Be P K x0 s1 L1 xs hx
theorem FN:al P pT (br [.tmp 4] K) (bY [x0,s1]) h=su P K x0 s1 h:=by kernel_rfl
theorem f11 {K:VK} {x0 s1:Value} {h:ad} (H:su Tryd.prog K x0 s1 h):ay Tryd.prog 11 [x0,s1] h K:=
 db IT (dh rfl) ((FN Tryd.prog K x0 s1 h).mpr H)
end
noncomputable section
variable (s0 x1 : Value) (h : ad)
def AJ:=cz Tryd.prog 18 [[],[]]
@[irreducible] def ye:=df AJ
theorem IV:AJ=some (9,ye,[.tmp 4]):=by kernel_rfl
def sv:Prop:=
 ay P 38 [s0,x1] h λx7 z1=>
 OP (au .geq x7 (.int .i64 (0))) λx8=>
 K x8 z1
theorem FP:al P ye (br [.tmp 4] K) (bY [s0,x1]) h=sv P K s0 x1 h:=by kernel_rfl
theorem f18 {K:VK} {s0 x1:Value} {h:ad} (H:sv Tryd.prog K s0 x1 h):ay Tryd.prog 18 [s0,x1] h K:=
 db IV (dh rfl) ((FP Tryd.prog K s0 x1 h).mpr H)
end
noncomputable section
variable (s0 f1 : Value) (h : ad)
def AK:=cz Tryd.prog 19 [[],[]]
@[irreducible] def yf:=df AK
theorem IW:AK=some (9,yf,[.tmp 4]):=by kernel_rfl
def sw:Prop:=
 ay P 39 [s0,f1] h λx7 z1=>
 OP (au .geq x7 (.int .i64 (0))) λx8=>
 K x8 z1
theorem FQ:al P yf (br [.tmp 4] K) (bY [s0,f1]) h=sw P K s0 f1 h:=by kernel_rfl
theorem f19 {K:VK} {s0 f1:Value} {h:ad} (H:sw Tryd.prog K s0 f1 h):ay Tryd.prog 19 [s0,f1] h K:=
 db IW (dh rfl) ((FQ Tryd.prog K s0 f1 h).mpr H)
end
noncomputable section
variable (p0 x1 : Value) (h : ad)
def AL:=cz Tryd.prog 20 [[],[]]
@[irreducible] def yg:=df AL
theorem IX:AL=some (8,yg,[.tmp 3]):=by kernel_rfl
def sx:Prop:=
 OP (ax false 1 h x1) λx5=>
 OP (oE x5) λx6=>
 ay P 18 [p0,x6] h λx7 z1=>
 K x7 z1
theorem FT:al P yg (br [.tmp 3] K) (bY [p0,x1]) h=sx P K p0 x1 h:=by kernel_rfl
theorem f20 {K:VK} {p0 x1:Value} {h:ad} (H:sx Tryd.prog K p0 x1 h):ay Tryd.prog 20 [p0,x1] h K:=
 db IX (dh rfl) ((FT Tryd.prog K p0 x1 h).mpr H)
end
noncomputable section
variable (s0 v1 : Value) (h : ad)
def AN:=cz Tryd.prog 22 [[],[]]
@[irreducible] def yj:=df AN
theorem IZ:AN=some (9,yj,[.tmp 4]):=by kernel_rfl
def sA:Prop:=
 ay P 40 [s0,v1] h λx7 z1=>
 OP (au .geq x7 (.int .i64 (0))) λx8=>
 K x8 z1
theorem FV:al P yj (br [.tmp 4] K) (bY [s0,v1]) h=sA P K s0 v1 h:=by kernel_rfl
theorem f22 {K:VK} {s0 v1:Value} {h:ad} (H:sA Tryd.prog K s0 v1 h):ay Tryd.prog 22 [s0,v1] h K:=
 db IZ (dh rfl) ((FV Tryd.prog K s0 v1 h).mpr H)
end
noncomputable section
variable (c0 x1 : Value) (h : ad)
def AO:=cz Tryd.prog 24 [[],[],[],[],[]]
@[irreducible] def yk:=df AO
theorem I0:AO=some (9,yk,[.tmp 3]):=by kernel_rfl
def sB:Prop:=
 OP (ax false 1 h x1) λx4=>
 OP (jw .u8 c0) λx6=>
 ay P 22 [x4,x6] h λx7 z1=>
 aT x7
 (K c0 z1)
 (K (.int .i32 (-1)) z1)
theorem FW:al P yk (br [.tmp 3] K) (bY [c0,x1]) h=sB P K c0 x1 h:=by kernel_rfl
theorem f24 {K:VK} {c0 x1:Value} {h:ad} (H:sB Tryd.prog K c0 x1 h):ay Tryd.prog 24 [c0,x1] h K:=
 db I0 (dh rfl) ((FW Tryd.prog K c0 x1 h).mpr H)
end
noncomputable section
variable (s0 x1 : Value) (h : ad)
def AV:=cz Tryd.prog 38 [[],[]]
@[irreducible] def yC:=df AV
theorem I6:AV=some (8,yC,[.tmp 4]):=by kernel_rfl
def sF:Prop:=
 ay P 60 [s0,x1] h λx7 z1=>
 K x7 z1
theorem F3:al P yC (br [.tmp 4] K) (bY [s0,x1]) h=sF P K s0 x1 h:=by kernel_rfl
theorem f38 {K:VK} {s0 x1:Value} {h:ad} (H:sF Tryd.prog K s0 x1 h):ay Tryd.prog 38 [s0,x1] h K:=
 db I6 (dh rfl) ((F3 Tryd.prog K s0 x1 h).mpr H)
end
noncomputable section
variable (s0 f1 x7 x8 : Value) (L1 : LQ) (xs : List Value) (h : ad)
def AW:=cz Tryd.prog 39 [[],[],[0,1,7],[8],[],[],[],[],[],[],[],[]]
@[irreducible] def p7:=df AW
@[irreducible] def E4:=p7.r.l.r.l.l
@[irreducible] def E3:=p7.r.r
theorem I7:AW=some (19,p7,[.tmp 4]):=by kernel_rfl
def xl (_P:Program) (K:VK):av:=br [.tmp 4] K
def DM:av:=aG (al P E3 (xl P K)) (xl P K)
def DN:av:=bz 0 (DM P K)
def DO:av:=aG (λf' aP=>(([0,1,7]:List Nat).map f':List Value)=[s0,f1,x7]/\L1 (([8]:List Nat).map f') aP) (DN P K)
def BB:Prop:=aB (al P E4 (DO P K s0 f1 x7 L1)) ([0,1,7]++[8]) ([s0,f1,x7]++xs) h
theorem Kp (s0 f1 x7:Value) (L1:LQ) (x8:Value) (h:ad):BB P K s0 f1 x7 L1 [x8] h=
 (OP (au .lss x8 x7) λx9=>
 aT x9
 (OP (bQ 1 s0 x8) λdN=>
 OP (ax false 1 h dN) λbX=>
 l5 P f1 [bX] h λgy z1=>
 aT gy
 (K x8 z1)
 (OP (au .add x8 (.int .i64 (1))) λaM=>
 ([s0,f1,x7]:List Value)=[s0,f1,x7]/\L1 [aM] z1))
 (K (.int .i64 (-1)) h)):=aE (by kernel_rfl)
def sG:Prop:=
 OP (cK s0) λx7=>
 cn [(.int .i64 (0))] h λL1 xs hx=>
 BB P K s0 f1 x7 L1 xs hx
theorem F4:al P p7 (br [.tmp 4] K) (bY [s0,f1]) h=sG P K s0 f1 h:=by kernel_rfl
theorem f39 {K:VK} {s0 f1:Value} {h:ad} (H:sG Tryd.prog K s0 f1 h):ay Tryd.prog 39 [s0,f1] h K:=
 db I7 (dh rfl) ((F4 Tryd.prog K s0 f1 h).mpr H)
end
noncomputable section
variable (s0 v1 x7 x8 : Value) (L1 : LQ) (xs : List Value) (h : ad)
def AX:=cz Tryd.prog 40 [[],[],[0,1,7],[8],[],[],[],[],[],[],[],[]]
@[irreducible] def p9:=df AX
@[irreducible] def Fa:=p9.r.l.r.l.l
@[irreducible] def E9:=p9.r.r
theorem I8:AX=some (19,p9,[.tmp 4]):=by kernel_rfl
def xn (_P:Program) (K:VK):av:=br [.tmp 4] K
def DP:av:=aG (al P E9 (xn P K)) (xn P K)
def DQ:av:=bz 0 (DP P K)
def DR:av:=aG (λf' aP=>(([0,1,7]:List Nat).map f':List Value)=[s0,v1,x7]/\L1 (([8]:List Nat).map f') aP) (DQ P K)
def BG:Prop:=aB (al P Fa (DR P K s0 v1 x7 L1)) ([0,1,7]++[8]) ([s0,v1,x7]++xs) h
theorem Ky (s0 v1 x7:Value) (L1:LQ) (x8:Value) (h:ad):BG P K s0 v1 x7 L1 [x8] h=
 (OP (au .lss x8 x7) λx9=>
 aT x9
 (OP (bQ 1 s0 x8) λdN=>
 OP (ax false 1 h dN) λbX=>
 OP (au .eql v1 bX) λgy=>
 aT gy
 (K x8 h)
 (OP (au .add x8 (.int .i64 (1))) λaM=>
 ([s0,v1,x7]:List Value)=[s0,v1,x7]/\L1 [aM] h))
 (K (.int .i64 (-1)) h)):=aE (by kernel_rfl)
def sH:Prop:=
 OP (cK s0) λx7=>
 cn [(.int .i64 (0))] h λL1 xs hx=>
 BG P K s0 v1 x7 L1 xs hx
theorem F5:al P p9 (br [.tmp 4] K) (bY [s0,v1]) h=sH P K s0 v1 h:=by kernel_rfl
theorem f40 {K:VK} {s0 v1:Value} {h:ad} (H:sH Tryd.prog K s0 v1 h):ay Tryd.prog 40 [s0,v1] h K:=
 db I8 (dh rfl) ((F5 Tryd.prog K s0 v1 h).mpr H)
end
noncomputable section
variable (s0 x1 x4 n5 nu t9 lJ iE aW bA aS lS lT : Value) (L1 : LQ) (xs : List Value) (h : ad)
def A1:=cz Tryd.prog 60 [[],[],[0,1,4,5,12,19,36,107,132],[0,1,4,5,12,19,22,36,107,132],[],[],[],[],[],[],[],[],[],[],[],[],[],[],[0,1,5,6,7,9],[8,10,12,107,132],[],[],[],[],[],[],[],[0,1,5,6,7,8,9,10,12,107,132],[0,1,5,6,7,8,9,10,12,84,107,132],[0,1,5,6,7,8,9,10,12,84,92,107,132],[],[],[],[],[],[],[],[],[],[],[],[],[],[],[],[],[],[],[]]
@[irreducible] def nz:=df A1
@[irreducible] def yL:=nz.r.r.l.l.l.r.l
@[irreducible] def Fg:=nz.r.r.l.l.r
@[irreducible] def sZ:=nz.r.r.r
@[irreducible] def Fh:=yL.r.l
@[irreducible] def yK:=sZ.r.r.r.r.r.l.l.l
@[irreducible] def Fe:=sZ.r.r.r.r.r.r
@[irreducible] def s5:=yK.r.l.r.l
@[irreducible] def Ff:=s5.l.l.r.l
@[irreducible] def Mm:=s5.l.r
@[irreducible] def Ml:=s5.r
@[irreducible] def Mn:=Ff.r.l
theorem Ja:A1=some (143,nz,[.tmp 4]):=by kernel_rfl
def pD (_P:Program) (K:VK):av:=br [.tmp 4] K
def DV:av:=aG (al P sZ (pD P K)) (pD P K)
def xr:av:=bz 0 (DV P K)
def xt:av:=aG (al P Fg (xr P K)) (xr P K)
def DS:av:=aG (al P Fe (pD P K)) (pD P K)
def DT:av:=bz 1 (DS P K)
def DU (s0 x1 n5 nu iE t9:Value) (L1:LQ):av:=aG (λf' aP=>(([0,1,5,6,7,9]:List Nat).map f':List Value)=[s0,x1,n5,nu,iE,t9]/\L1 (([8,10,12,107,132]:List Nat).map f') aP) (DT P K)
def BI:Prop:=aB (al P yL (xt P K)) [0,1,4,5,12,19,36,107,132] [s0,x1,x4,n5,lJ,aW,aS,lS,lT] h
def vJ:Prop:=aB (al P Fh (xt P K)) [0,1,4,5,12,19,22,36,107,132] [s0,x1,x4,n5,lJ,aW,bA,aS,lS,lT] h
def JB (s0 x1 n5 nu iE t9:Value) (L1:LQ) (xs:List Value) (h:ad):Prop:=aB (al P yK (DU P K s0 x1 n5 nu iE t9 L1)) ([0,1,5,6,7,9]++[8,10,12,107,132]) ([s0,x1,n5,nu,iE,t9]++xs) h
theorem KC:vJ P K s0 x1 x4 n5 lJ aW bA aS lS lT h=
 (OP (bJ aW (.bool true) bA) λbm=>
 aT bm
 (K (.int .i64 (0)) h)
 (OP (au .eql n5 (.int .i64 (1))) λdx=>
 aT dx
 (OP (du x1 (.int .i64 (0))) λdO=>
 ay P 77 [s0,dO] h λjN z1=>
 K jN z1)
 (OP (eN s0) λlU=>
 OP (au .geq n5 lU) λb9=>
 aT b9
 (K (.int .i64 (-1)) h)
 (OH none λ_ z1=>
 aT aS
 (OH none λ_ z2=>
 K x4 z2)
 (OP (du x1 (.int .i64 (0))) λcX=>
 OP (du x1 (.int .i64 (1))) λfA=>
 OP (eN s0) λcF=>
 OP (au .sub cF n5) λlV=>
 OP (au .add lV (.int .i64 (1))) λgz=>
 cn [(.int .i64 (0)),(.int .i64 (0)),lJ,lS,lT] z1 λL1 xs hx=>
 JB P K s0 x1 n5 cX fA gz L1 xs hx))))):=aE (by kernel_rfl)
theorem KB:BI P K s0 x1 x4 n5 lJ aW aS lS lT h=
 (bP aW false
 (OP (au .eql x1 s0) λbA=>
 vJ P K s0 x1 x4 n5 lJ aW bA aS lS lT h)
 (vJ P K s0 x1 x4 n5 lJ aW undef aS lS lT h)):=aE (by kernel_rfl)
def sJ:Prop:=
 OP (eN x1) λbX=>
 OP (au .eql bX (.int .i64 (0))) λaM=>
 BI P K s0 x1 (.int .i64 (0)) bX undef aM undef undef undef h
theorem F7:al P nz (br [.tmp 4] K) (bY [s0,x1]) h=sJ P K s0 x1 h:=by kernel_rfl
theorem f60 {K:VK} {s0 x1:Value} {h:ad} (H:sJ Tryd.prog K s0 x1 h):ay Tryd.prog 60 [s0,x1] h K:=
 db Ja (dh rfl) ((F7 Tryd.prog K s0 x1 h).mpr H)
end
noncomputable section
variable (s0 c1 : Value) (h : ad)
def A3:=cz Tryd.prog 77 [[],[]]
@[irreducible] def yM:=df A3
theorem Jb:A3=some (8,yM,[.tmp 4]):=by kernel_rfl
def sK (P:Program) (K:VK) (s0 c1:Value) (h:ad):Prop:=
 OP (oC s0 c1) λx7=>
 K x7 h
theorem F8:al P yM (br [.tmp 4] K) (bY [s0,c1]) h=sK P K s0 c1 h:=by kernel_rfl
theorem f77 {K:VK} {s0 c1:Value} {h:ad} (H:sK Tryd.prog K s0 c1 h):ay Tryd.prog 77 [s0,c1] h K:=
 db Jb (dh rfl) ((F8 Tryd.prog K s0 c1 h).mpr H)
end
end
end Go.Proofs.YtlpdhfdpnakgdaaDoor
namespace Go.Sim
section
def C0 (fr:UInt8->UInt8->Bool) (s:List UInt8) (Q:UInt8->Prop):Prop:=∀a,Q a->∀y∈s,fr a y=false->Q y
def jA (fr:UInt8->UInt8->Bool) (s:List UInt8) (x y:UInt8):Prop:=∀Q:UInt8->Prop,Q x->C0 fr s Q->Q y
open Classical in
noncomputable def qY (fr:UInt8->UInt8->Bool) (s:List UInt8) (x y:UInt8):Bool:=decide (jA fr s x y)
theorem II {fr:UInt8->UInt8->Bool} {s:List UInt8} {x y:UInt8}:qY fr s x y=true↔jA fr s x y:=by simp [qY]
noncomputable def jG (fr:UInt8->UInt8->Bool) (s:List UInt8) (x:UInt8):List UInt8:=s.filter (qY fr s x)
noncomputable def bS (fr:UInt8->UInt8->Bool) (s:List UInt8):Nat->List (List UInt8)
 | 0=>[]
 | a+1=>if lt a∈s/\(bS fr s a).any (λp=>p.contains (lt a))=false then bS fr s a++[jG fr s (lt a)] else bS fr s a
theorem IJ (fr:UInt8->UInt8->Bool) (s:List UInt8) (x:UInt8):jA fr s x x:=λ_ h _=>h
theorem zX {fr:UInt8->UInt8->Bool} {s:List UInt8} {x y z:UInt8} (h:jA fr s x y) (hz:z∈s) (hf:fr y z=false):jA fr s x z:=λQ q0 q1=>q1 y (h Q q0 q1) z hz hf
theorem uX {fr:UInt8->UInt8->Bool} {s:List UInt8} {x y:UInt8} (hx:x∈s) (h:jA fr s x y):y∈s:=h (·∈s) hx λ_ _ _ hy _=>hy
structure dR (fr:UInt8->UInt8->Bool) (s:List UInt8) (x:UInt8) (P:List UInt8) (i:Nat):Prop where
 here:x∈P
 nd:P.Nodup
 kk:∀y∈P,jA fr s x y
 done:∀m (hm:m<P.length),m<i->∀y∈s,fr P[m] y=false->y∈P
theorem dR.start (fr:UInt8->UInt8->Bool) (s:List UInt8) (x:UInt8):dR fr s x [x] 0:=
 ⟨by simp,by simp,λy hy=>by rw [mem_singleton.1 hy];exact IJ fr s x,λm _ h=>by omega⟩
theorem dR.push {fr:UInt8->UInt8->Bool} {s:List UInt8} {x y:UInt8} {P:List UInt8} {i:Nat} (b:dR fr s x P i) (hi:i<=P.length) (hy:y∉P) (hc:jA fr s x y):dR fr s x (P++[y]) i:=by
 refine ⟨by simp [b.here],?_,?_,?_⟩
 ·rw [List.nodup_append]
  refine ⟨b.nd,by simp,?_⟩
  rintro a ha c hc rfl
  rw [mem_singleton.1 hc] at ha
  exact hy ha
 ·intro z hz
  rcases mem_append.1 hz with hz | hz
  ·exact b.kk z hz
  ·rw [mem_singleton.1 hz];exact hc
 ·intro m hm oa z hz hf
  have od:m<P.length:=by omega
  rw [List.getElem_append_left od] at hf
  exact List.mem_append_left _ (b.done m od oa z hz hf)
theorem dR.next {fr:UInt8->UInt8->Bool} {s:List UInt8} {x:UInt8} {P:List UInt8} {i:Nat} (b:dR fr s x P i) (hi:i<P.length) (h:∀y∈s,fr P[i] y=false->y∈P):dR fr s x P (i+1):=
 ⟨b.here,b.nd,b.kk,λm hm oa y hy hf=>by
  by_cases e:m=i
  ·subst e;exact h y hy hf
  ·exact b.done m hm (by omega) y hy hf⟩
theorem dR.full {fr:UInt8->UInt8->Bool} {s:List UInt8} {x:UInt8} {P:List UInt8} (b:dR fr s x P P.length) (y:UInt8):P.contains y=qY fr s x y:=by
 rw [Bool.eq_iff_iff,contains_iff_mem,II]
 refine ⟨b.kk y,λh=>h (·∈P) b.here ?_⟩
 intro a ha z hz hf
 obtain ⟨m,hm,rfl⟩:=List.getElem_of_mem ha
 exact b.done m hm hm z hz hf
theorem AF:∀(L P:List UInt8),P.Nodup->(∀y∈P,y∈L)->P.length<=L.length
 | [],P,_,h=>by
  cases P with
  | nil=>simp
  | cons a P=>exact absurd (h a (by simp)) (by simp)
 | x::L,P,hn,h=>by
  have ih:=AF L (P.erase x) (hn.erase x) λy hy=>by
   have h1:=(hn.mem_erase_iff).1 hy
   rcases List.mem_cons.1 (h y h1.2) with h2 | h2
   ·exact absurd h2 h1.1
   ·exact h2
  rw [List.length_erase] at ih
  rw [length_cons]
  split at ih <;> omega
theorem dR.short {fr:UInt8->UInt8->Bool} {s:List UInt8} {x:UInt8} {P:List UInt8} {i:Nat} (b:dR fr s x P i) (hx:x∈s) (hs:letters 6 s):letters 6 P/\P.length<=6:=by
 have hl:letters 6 P:=λy hy=>hs y (uX hx (b.kk y hy))
 refine ⟨hl,AF [lt 0,lt 1,lt 2,lt 3,lt 4,lt 5] P b.nd λy hy=>?_⟩
 obtain ⟨a,ha,rfl⟩:=hl y hy
 have:a=0∨a=1∨a=2∨a=3∨a=4∨a=5:=by omega
 rcases this with rfl | rfl | rfl | rfl | rfl | rfl <;> simp
theorem JD {fr:UInt8->UInt8->Bool} {s:List UInt8} {k:Nat} (hs:letters k s) (hk:k<=50):∀n,k<=n->n<=50->bS fr s n=bS fr s k:=by
 intro n hn MJ
 induction n with
 | zero=>rw [show k=0 by omega]
 | succ n ih=>
  by_cases e:k=n+1
  ·rw [e]
  ·rw [<-ih (by omega) (by omega)]
   simp only [bS]
   rw [if_neg]
   rintro ⟨h,_⟩
   obtain ⟨a,ha,he⟩:=hs _ h
   have h1:=congrArg UInt8.toNat he
   rw [km (by omega),km (by omega)] at h1
   omega
theorem ry (fr:UInt8->UInt8->Bool) (s:List UInt8):∀n,(bS fr s n).length<=n
 | 0=>le_refl _
 | n+1=>by
  have:=ry fr s n
  simp only [bS]
  split
  ·rw [length_append];simp;omega
  ·omega
end
section
theorem EX.load {h h':ad} (k:EX h h') {agg:Bool} {n:Nat} {a v:Value} (hl:ax agg n h a=some v):ax agg n h' a=some v:=by
 unfold ax at hl⊢
 split at hl
 ·rename_i i o
  cases hc:bd h i with
  | none=>rw [hc] at hl;cases hl
  | some xs=>rw [hc] at hl;rw [k.cells hc];exact hl
 ·cases hl
theorem dD (i:Nat) (h:i<4611686018427387904):IntKind.wrap .i64 ((i:Int)+1)=((i+1:Nat):Int):=by
 rw [wrap64 (by omega) (by omega)];omega
@[simp] theorem jg (o i k : Nat) : cA o (pt i k) = some (pt i (k + o)) := rfl
@[simp] theorem vf (i k : Nat) : kh (pt i k) = some (pt i k) := rfl
def bt (ps:List (Int×Int)):List Value:=ps.flatMap λp=>[I p.1,I p.2]
theorem jH:∀{ps:List (Int×Int)} {k:Nat} {p:Int×Int},ps[k]?=some p->(bt ps)[2*k]?=some (I p.1)/\(bt ps)[2*k+1]?=some (I p.2)
 | [],k,p,h=>by simp at h
 | q::ps,0,p,h=>by simp at h;subst h;simp [bt]
 | q::ps,k+1,p,h=>by
  have:=jH (ps:=ps) (k:=k) (p:=p) (by simpa using h)
  rw [show 2*(k+1)=2*k+1+1 by omega]
  simpa [bt] using this
theorem rA (ps:List (Int×Int)):(bt ps).length=2*ps.length:=by
 induction ps with
 | nil=>rfl
 | cons p ps ih=>simp only [bt,List.flatMap_cons,length_append,length_cons,List.length_nil] at ih⊢;omega
structure PS (h:ad) (v:Value) (ps:List (Int×Int)):Prop where
 len:cK v=some (I ps.length)
 get:∀k (hk:k<ps.length),∃i o,bQ 2 v (I k)=some (pt i o)/\ax false 1 h (pt i o)=some (I ps[k].1)/\ax false 1 h (pt i (o+1))=some (I ps[k].2)/\
  ax true 2 h (pt i o)=some (.agg #[I ps[k].1,I ps[k].2])
theorem PS.mono {h h':ad} {v:Value} {ps:List (Int×Int)} (k:EX h h') (p:PS h v ps):PS h' v ps:=
 ⟨p.len,λj hj=>let ⟨i,o,a,b,c,d⟩:=p.get j hj;⟨i,o,a,EX.load k b,EX.load k c,EX.load k d⟩⟩
theorem PS.sl {h:ad} {e:TypeId} {i:Nat} {ps:List (Int×Int)} (hc:bd h i=some (bt ps)):PS h (sl e i 0 ps.length) ps:=by
 refine ⟨rfl,λk hk=>⟨i,2*k,?_,?_,?_,?_⟩⟩
 ·have:(0:Int)<=(k:Int)/\(k:Int)<(ps.length:Int):=by omega
  simp [Go.Sim.sl,bQ,this,Nat.mul_comm]
 ·obtain ⟨g1,g2⟩:=jH (getElem?_eq_getElem hk)
  simp [ax,hc,dv,g1]
 ·obtain ⟨g1,g2⟩:=jH (getElem?_eq_getElem hk)
  simp [ax,hc,dv,g2]
 ·obtain ⟨g1,g2⟩:=jH (getElem?_eq_getElem hk)
  have hl:=rA ps
  have:((bt ps).drop (2*k)).take 2=[I ps[k].1,I ps[k].2]:=by
   apply List.ext_getElem?
   intro j
   rw [List.getElem?_take]
   match j with
   | 0=>simpa using g1
   | 1=>simpa using g2
   | j+2=>simp;omega
  have h2:2*k+2<=(bt ps).length:=by omega
  simp [ax,hc,dv,this,h2]
def cb (b:Nat) (hx:ad) (e:TypeId) (v:Value) (xs:List Value):Prop:=
 (v=.slice none 0 0/\xs=[])∨(∃i,b<=i/\v=sl e i 0 xs.length/\hx[i]?=some (.arr e xs))
theorem sO {h0 hx:ad} {e:TypeId} {bytes:Nat} {v x z:Value} {xs:List Value} {K:Value->ad->Prop} (o:cb h0.length hx e v xs) (hex:EX h0 hx) (hb:(xs.length+1)*bytes<=140737488355328) (hm:xs.length+1<=maxLen)
  (h1:dM x=true) (h2:aZ x=[x]) (hk:∀v' b0,EX h0 b0->cb h0.length b0 e v' (xs++[x])->K v' b0):
  OH (bI e 1 [z] hx [(0,1,x)]) λa h2=>OH (cg e 1 bytes h2 v a) K:=by
 have e1:bI e 1 [z] hx [(0,1,x)]=some (sl e hx.length 0 1,hx++[.arr e [x]]):=by
  simp [bI,gE,dQ,h1,h2,setAt]
 rw [e1]
 simp only [cw]
 have e2:dj (hx++[.arr e [x]]) 1 (sl e hx.length 0 1)=some [x]:=by simp [dj,sl,bd]
 have e3:fL (sl e hx.length 0 1)=some 1:=rfl
 rcases o with ⟨rfl,rfl⟩ | ⟨i,hi,rfl,az⟩
 ·refine pI (v:=sl e (hx.length+1) 0 1) (h:=hx++[.arr e [x]]++[.arr e [x]]) ?_ (hk _ _ ((hex.push _).push _) (.inr ⟨hx.length+1,by have:=hex.1;omega,rfl,by simp⟩))
  have eT:1*bytes<=140737488355328:=by simpa using hb
  have ct:1<=maxLen:=by simpa using hm
  simp only [cg,e2,e3]
  rw [if_neg (by omega),if_pos ⟨eT,ct⟩]
  simp
 ·have hlt:=(bw az).1
  have hg:(hx++[.arr e [x]])[i]?=some (.arr e xs):=by rw [getElem?_append_left hlt];exact az
  refine pI (v:=sl e (hx.length+1) 0 (xs.length+1)) (h:=(hx++[aA.arr e [x]]).set i aA.dead++[aA.arr e (xs++[x])]) ?_
   (hk _ _ (((hex.push _).set hi _).push _) (.inr ⟨hx.length+1,by have:=hex.1;omega,by simp,?_⟩))
  ·simp only [cg,e2,e3]
   simp only [sl,hg]
   rw [if_pos ⟨trivial,trivial,by simp,hb,hm⟩,if_neg (by omega)]
   simp
  ·rw [getElem?_append_right (by simp)]
   simp
theorem mc {b:Nat} {hx:ad} {e:TypeId} {v:Value} {l:List UInt8} (o:cb b hx e v (l.map cv)):fI hx v=some (S l):=by
 have hm:∀l:List UInt8,(l.map cv).mapM jR=some l:=by
  intro l
  induction l with
  | nil=>rfl
  | cons c l ih=>simp [List.mapM_cons,jR,ih]
 rcases o with ⟨rfl,hx⟩ | ⟨i,hi,rfl,az⟩
 ·have:l=[]:=by simpa using hx
  subst this
  rfl
 ·by_cases hl:l=[]
  ·subst hl
   simp [fI,dj,sl]
  ·have hn:l.length≠0:=by simpa using hl
   have qK:¬(l.map cv).length=0:=by simpa using hl
   have ht:((l.map cv).drop 0).take ((l.map cv).length*1)=l.map cv:=by rw [drop_zero,Nat.mul_one,take_length]
   simp only [fI,dj,sl,if_neg qK,bd,az,bind_some]
   rw [if_pos (by omega),ht,bind_some,hm]
   rfl
structure SS (h:ad) (v:Value) (ls:List (List UInt8)):Prop where
 len:cK v=some (I ls.length)
 get:∀k (hk:k<ls.length),∃i o,bQ 1 v (I k)=some (pt i o)/\ax false 1 h (pt i o)=some (S ls[k])
theorem SS.mono {h h':ad} {v:Value} {ls:List (List UInt8)} (k:EX h h') (p:SS h v ls):SS h' v ls:=
 ⟨p.len,λj hj=>let ⟨i,o,a,b⟩:=p.get j hj;⟨i,o,a,EX.load k b⟩⟩
theorem SS.sl {h:ad} {e:TypeId} {i:Nat} {ls:List (List UInt8)} (hc:bd h i=some (ls.map S)):SS h (sl e i 0 ls.length) ls:=by
 refine ⟨rfl,λk hk=>⟨i,k,?_,?_⟩⟩
 ·have:(0:Int)<=(k:Int)/\(k:Int)<(ls.length:Int):=by omega
  simp [Go.Sim.sl,bQ,this]
 ·simp [ax,hc,dv,hk]
theorem pO {α:Type} {p:α->Bool} {l:List α} (h:l.any p=false) {x:α} (hx:x∈l):p x=false:=by
 rw [List.any_eq_false] at h
 simpa using h x hx
theorem pN {α:Type} {p q:α->Bool}:∀{l:List α},(∀x∈l,p x=q x)->l.any p=l.any q
 | [],_=>rfl
 | x::l,h=>by rw [any_cons,any_cons,h x (by simp),pN λy hy=>h y (by simp [hy])]
theorem min2 (a b:Int):fJ false [I a,I b]=some (I (min a b)):=by
 simp only [fJ,foldlM,max2,Bool.false_eq_true,if_false]
 have:(if b<a then b else a)=min a b:=by split <;> omega
 rw [this]
 rfl
theorem Ay (a b:Int):fJ true [I a,I b]=some (I (max a b)):=by
 simp only [fJ,foldlM,max2,if_true]
 have:(if b>a then b else a)=max a b:=by split <;> omega
 rw [this]
 rfl
theorem oG {h:ad} {e:TypeId} {xs:List Value} {j:Nat} {v:Value} (hj:xs[j]?=some v):ax false 1 (h++[.arr e xs]) (pt h.length j)=some v:=by
 simp [ax,bd,dv,hj]
theorem BY (ps:List (Int×Int)) (n:Nat):(bt ps).take (2*n)=bt (ps.take n):=by
 induction ps generalizing n with
 | nil=>simp [bt]
 | cons p ps ih=>
  cases n with
  | zero=>simp [bt]
  | succ n=>
   rw [show 2*(n+1)=2*n+1+1 by omega]
   have:=ih n
   simp only [bt] at this⊢
   simp [this]
theorem mO {h:ad} {d:Nat} {v:Value} (hc:bd h d=some [v]):ax false 1 h (pt d 0)=some v:=by
 simp [ax,hc,dv]
@[simp] theorem mS (a b : Value) : (#[a, b] : Array Value)[0]? = some a := rfl
@[simp] theorem mT (a b : Value) : (#[a, b] : Array Value)[1]? = some b := rfl
theorem kN {h:ad} {o:aA}:(h++[o])[h.length]?=some o:=by simp
theorem wj (xs:List Value) (o:Nat) (v:Value) (ho:o<xs.length):setAt xs o [v]=xs.set o v:=by
 unfold setAt
 rw [List.set_eq_take_append_cons_drop,if_pos ho]
 simp
theorem rT {h:ad} {i o:Nat} {e:TypeId} {xs:List Value} {v:Value} (hg:h[i]?=some (.arr e xs)) (ho:o<xs.length) (h1:dM v=true) (h2:aZ v=[v]):eO 1 h (pt i o) v=some (undef,h.set i (.arr e (xs.set o v))):=by
 simp only [eO,jy,hg,h1,h2,wj _ _ _ ho]
 rw [if_pos ⟨trivial,rfl,by omega⟩]
 rfl
theorem xH {b:Nat} {hx:ad} {e:TypeId} {bytes:Nat} {v x z:Value} {xs:List Value} {K:Value->ad->Prop} (o:cb b hx e v xs) (hb:(xs.length+1)*bytes<=140737488355328) (hm:xs.length+1<=maxLen)
  (h1:dM x=true) (h2:aZ x=[x]) (hk:∀h1 b0,h1=hx++[.arr e [x]]->b0.length=hx.length+2->(∀d,d<hx.length->(∀n,v≠sl e d 0 n)->b0[d]?=hx[d]?)->b0[hx.length+1]?=some (.arr e (xs++[x]))->OH (some (sl e (hx.length+1) 0 (xs.length+1),b0)) K):
  OH (bI e 1 [z] hx [(0,1,x)]) λa h2=>OH (cg e 1 bytes h2 v a) K:=by
 have e1:bI e 1 [z] hx [(0,1,x)]=some (sl e hx.length 0 1,hx++[.arr e [x]]):=by
  simp [bI,gE,dQ,h1,h2,setAt]
 rw [e1]
 simp only [cw]
 have e2:dj (hx++[.arr e [x]]) 1 (sl e hx.length 0 1)=some [x]:=by simp [dj,sl,bd]
 have e3:fL (sl e hx.length 0 1)=some 1:=rfl
 rcases o with ⟨rfl,rfl⟩ | ⟨i,hi,rfl,az⟩
 ·have eT:1*bytes<=140737488355328:=by simpa using hb
  have ct:1<=maxLen:=by simpa using hm
  have e4:cg e 1 bytes (hx++[.arr e [x]]) (.slice none 0 0) (sl e hx.length 0 1)=some (sl e (hx.length+1) 0 1,hx++[.arr e [x]]++[.arr e [x]]):=by
   simp only [cg,e2,e3]
   rw [if_neg (by omega),if_pos ⟨eT,ct⟩]
   simp
  rw [e4]
  refine hk _ _ rfl (by simp) (λd hd _=>by rw [getElem?_append_left (by simp;omega),getElem?_append_left hd]) (by rw [getElem?_append_right (by simp)];simp)
 ·have hlt:=(bw az).1
  have hg:(hx++[.arr e [x]])[i]?=some (.arr e xs):=by rw [getElem?_append_left hlt];exact az
  have e4:cg e 1 bytes (hx++[.arr e [x]]) (sl e i 0 xs.length) (sl e hx.length 0 1)=some (sl e (hx.length+1) 0 (xs.length+1),(hx++[aA.arr e [x]]).set i aA.dead++[aA.arr e (xs++[x])]):=by
   simp only [cg,e2,e3]
   simp only [sl,hg]
   rw [if_pos ⟨trivial,trivial,by simp,hb,hm⟩,if_neg (by omega)]
   simp
  rw [e4]
  refine hk _ _ rfl (by simp) (λd hd bc=>?_) (by rw [getElem?_append_right (by simp)];simp)
  have tT:i≠d:=by rintro rfl;exact bc _ rfl
  rw [getElem?_append_left (by simp;omega),getElem?_set_ne tT,getElem?_append_left hd]
theorem oZ {e e':TypeId} {i i' o o' n n':Nat} (h:sl e i o n=sl e' i' o' n'):i=i'/\n=n':=by
 unfold sl at h
 injection h with h1 h2
 injection h1 with h1
 injection h1 with h1
 exact ⟨h1,h2⟩
theorem cb.jC {b:Nat} {g g':ad} {e:TypeId} {v:Value} {xs:List Value} (o:cb b g e v xs) (h:∀d n,v=sl e d 0 n->b<=d->g'[d]?=g[d]?):cb b g' e v xs:=by
 rcases o with ⟨h1,h2⟩ | ⟨i,h1,h2,h3⟩
 ·exact .inl ⟨h1,h2⟩
 ·exact .inr ⟨i,h1,h2,by rw [h i _ h2 h1];exact h3⟩
theorem cb.lt {b:Nat} {g:ad} {e:TypeId} {v:Value} {xs:List Value} {d n:Nat} (o:cb b g e v xs) (h:v=sl e d 0 n):b<=d/\d<g.length/\g[d]?=some (.arr e xs):=by
 rcases o with ⟨h1,_⟩ | ⟨i,h1,h2,h3⟩
 ·rw [h1] at h;cases h
 ·rw [h2] at h
  obtain ⟨rfl,_⟩:=oZ h
  exact ⟨h1,(bw h3).1,h3⟩
theorem pM {e:TypeId} {id n j:Nat} (hj:j<n):bQ 1 (sl e id 0 n) (I j)=some (pt id j):=by
 have:(0:Int)<=(j:Int)/\(j:Int)<(n:Int):=by omega
 simp [sl,bQ,this]
theorem wk {h:ad} {i:Nat} {o o':aA} (hg:h[i]?=some o'):(h.set i o)[i]?=some o:=by
 rw [List.getElem?_set_self (bw hg).1]
theorem Fy {P:Program} {F:FuncId} {cap:Array Value} {args:List Value} {h:ad} {K:Value->ad->Prop} (hF:gY P F=true) (hc:ay P F (args++cap.toList) h K):l5 P (.func (.func F) #[] cap) args h K:=by
 rw [iY] at hc
 exact ⟨⟨hF,by simpa using hc⟩⟩
end
end Go.Sim
namespace Go.Proofs.YtlpdhfdpnakgdaaDoor
open Go.Sim
section
theorem indexB (c:UInt8):∀s:List UInt8,Lib.indexByte s c=if s.idxOf c<s.length then (s.idxOf c:Int) else -1
 | []=>rfl
 | x::s=>by
  have ih:=indexB c s
  rw [Lib.indexByte]
  by_cases h:(x==c)=true
  ·have e1:(x::s).idxOf c=0:=by rw [List.idxOf_cons,h];rfl
   rw [if_pos h,e1,if_pos (by simp)];rfl
  ·have h':(x==c)=false:=by simpa using h
   have e1:(x::s).idxOf c=s.idxOf c+1:=by rw [List.idxOf_cons,h'];rfl
   rw [if_neg h,ih,e1,length_cons]
   by_cases h2:s.idxOf c<s.length
   ·have h3:¬(((s.idxOf c:Nat):Int)== -1)=true:=by
     rw [beq_iff_eq];omega
    rw [if_pos h2,if_pos (show s.idxOf c+1<s.length+1 by omega),if_neg h3]
    omega
   ·rw [if_neg h2,if_neg (show ¬s.idxOf c+1<s.length+1 by omega)]
    rfl
section
variable {h : ad} {K : Value -> ad -> Prop} {s : List UInt8}
theorem CY {c:UInt8} (hk:K (I (if s.idxOf c<s.length then (s.idxOf c:Int) else -1)) h):ay Tryd.prog 77 [S s,cv c] h K:=by
 refine f77 ?_
 have e:oC (S s) (cv c)=some (I (if s.idxOf c<s.length then (s.idxOf c:Int) else -1)):=by
  have e1:oC (S s) (cv c)=some (Value.int .i64 (Lib.indexByte (Go.Sim.bytes (ByteArray.mk s.toArray)) ((c.toNat:Int)).toNat.toUInt8)):=rfl
  rw [e1,xO,Int.toNat_natCast,indexB]
  have:c.toNat.toUInt8=c:=by simp
  rw [this]
 simp only [sK,e,aq]
 exact hk
theorem CX {c:UInt8} (hk:K (I (if s.idxOf c<s.length then (s.idxOf c:Int) else -1)) h):ay Tryd.prog 60 [S s,S [c]] h K:=by
 refine f60 ?_
 have l1:eN (S [c])=some (I 1):=rfl
 have ix:du (S [c]) (.int .i64 0)=some (cv c):=rfl
 have e1:au .eql (I 1) (.int .i64 0)=some (B false):=rfl
 have e2:au .eql (I 1) (.int .i64 1)=some (B true):=rfl
 simp only [sJ,l1,aq,e1]
 rw [KB]
 simp only [gW,Ej,aq]
 rw [KC]
 simp only [iP,aq,cI]
 refine ⟨λhe=>?_,λ_=>?_⟩
 ·have e3:s.idxOf c=0:=by rw [<-he];simp
  have e4:0<s.length:=by rw [<-he];simp
  rw [e3,if_pos e4] at hk
  exact hk
 ·simp only [e2,aq,fT,ix]
  exact CY hk
theorem wS {c:UInt8} (hk:K (B (s.contains c)) h):ay Tryd.prog 18 [S s,S [c]] h K:=by
 refine f18 ?_
 unfold sv
 refine f38 ?_
 unfold sF
 refine CX ?_
 simp only [iD,aq]
 have e:decide ((0:Int)<=if s.idxOf c<s.length then (s.idxOf c:Int) else -1)=s.contains c:=by
  by_cases hm:c∈s
  ·have h1:=List.idxOf_lt_length_of_mem hm
   rw [if_pos h1,(contains_iff_mem).2 hm]
   exact hC (by omega)
  ·have h1:¬s.idxOf c<s.length:=λhc=>hm (List.idxOf_lt_length_iff.1 hc)
   have h2:s.contains c=false:=by
    cases hx:s.contains c with
    | false=>rfl
    | true=>exact absurd ((contains_iff_mem).1 hx) hm
   rw [if_neg h1,h2]
   rfl
 rw [e]
 exact hk
theorem Cd {a:Nat} (ha:a<26):oE (cv (lt a))=some (S [lt a]):=by
 have key:∀a<26,Utf8.encode (((lt a).toNat:Nat):Int)=⟨#[lt a]⟩:=by decide+kernel
 show some (Value.string (Utf8.encode (((lt a).toNat:Nat):Int)))=some (S [lt a])
 rw [key a ha]
 rfl
theorem Ju:gY Tryd.prog 20=true:=by kernel_rfl
theorem CP {v:Value} {ls:List (List UInt8)} {a jc:Nat} (hv:SS h v ls) (hl:ls.length<=1000) (ha:a<26) (hc:bd h jc=some [cv (lt a)]) (hk:K (B (ls.any λp=>p.contains (lt a))) h):
  ay Tryd.prog 19 [v,.func (.func 20) #[] #[pt jc 0]] h K:=by
 refine f19 ?_
 unfold sw
 refine f39 ?_
 simp only [sG,hv.len,aq]
 have lc:ax false 1 h (pt jc 0)=some (cv (lt a)):=mO hc
 refine ej (σ:=Nat) (λj=>[I j]) (λ_=>h) (λj=>j<=ls.length/\(ls.take j).any (λp=>p.contains (lt a))=false) (λj=>ls.length-j) 0 rfl rfl ⟨zero_le _,rfl⟩ ?_
 rintro j ⟨hj,aH⟩ L hL
 rw [Kp]
 simp only [dH,aq,cI]
 refine ⟨λhlt=>?_,λdc=>?_⟩
 ·have dL:j<ls.length:=by omega
  obtain ⟨b,o,u1,u2⟩:=hv.get j dL
  simp only [u1,aq,u2]
  refine Fy Ju ?_
  have ea:([S ls[j]]++(#[pt jc 0]:Array Value).toList)=[S ls[j],pt jc 0]:=rfl
  rw [ea]
  refine f20 ?_
  simp only [sx,lc,aq,Cd ha]
  refine wS ?_
  have htk:(ls.take (j+1)).any (λp=>p.contains (lt a))=((ls.take j).any (λp=>p.contains (lt a))||ls[j].contains (lt a)):=by
   rw [take_succ_eq_append_getElem dL,any_append]
   simp
  rw [aH,Bool.false_or] at htk
  cases hx:ls[j].contains (lt a) with
  | true=>
   simp only [fT,iD,aq]
   have:ls.any (λp=>p.contains (lt a))=true:=any_eq_true.2 ⟨_,getElem_mem dL,hx⟩
   rw [this] at hk
   rw [hC (show (0:Int)<=(j:Int) by omega)]
   exact hk
  | false=>
   simp only [fm,dp,aq,dD j (by omega),true_and]
   exact hL (j+1) ⟨by omega,by rw [htk,hx]⟩ (by omega)
 ·have k9:j=ls.length:=by omega
  subst k9
  rw [take_length] at aH
  simp only [iD,aq]
  rw [aH] at hk
  exact hk
theorem wT {v:Value} {xs:List UInt8} {c:UInt8} (hlen:cK v=some (I xs.length)) (az:∀j (hj:j<xs.length),∃b o,bQ 1 v (I j)=some (pt b o)/\ax false 1 h (pt b o)=some (cv xs[j])) (hl:xs.length<=1000)
  (hk:K (B (xs.contains c)) h):ay Tryd.prog 22 [v,cv c] h K:=by
 refine f22 ?_
 unfold sA
 refine f40 ?_
 simp only [sH,hlen,aq]
 refine ej (σ:=Nat) (λj=>[I j]) (λ_=>h) (λj=>j<=xs.length/\(xs.take j).contains c=false) (λj=>xs.length-j) 0 rfl rfl ⟨zero_le _,rfl⟩ ?_
 rintro j ⟨hj,aH⟩ L hL
 rw [Ky]
 simp only [dH,aq,cI]
 refine ⟨λhlt=>?_,λdc=>?_⟩
 ·have dL:j<xs.length:=by omega
  obtain ⟨b,o,u1,u2⟩:=az j dL
  simp only [u1,aq,u2,gC,cI]
  have htk:(xs.take (j+1)).contains c=(decide (c=xs[j])):=by
   rw [take_succ_eq_append_getElem dL,List.contains_append,aH,Bool.false_or]
   simp
  refine ⟨λhe=>?_,λbc=>?_⟩
  ·have eC:c=xs[j]:=(ql _ _).1 he
   have:xs.contains c=true:=(contains_iff_mem).2 (eC ▸ getElem_mem dL)
   rw [this] at hk
   simp only [iD,aq]
   rw [hC (show (0:Int)<=(j:Int) by omega)]
   exact hk
  ·have eC:c≠xs[j]:=λe=>bc ((ql _ _).2 e)
   simp only [dp,aq,dD j (by omega),true_and]
   exact hL (j+1) ⟨by omega,by rw [htk];exact eA eC⟩ (by omega)
 ·have k9:j=xs.length:=by omega
  subst k9
  rw [take_length] at aH
  simp only [iD,aq]
  rw [aH] at hk
  exact hk
end
end
end Go.Proofs.YtlpdhfdpnakgdaaDoor
set_option linter.unusedVariables false
namespace Go.MapWalk
section
open Go.Shelf Go.RowKit Go.Lib Go.Proofs
variable {P : Program} {ρ : Ren}
abbrev keepI (p : UInt8 -> Bool) (b : UInt8) : Int := if p b = true then (b.toNat : Int) else -1
set_option maxHeartbeats 4000000 in
set_option maxRecDepth 1000000 in
theorem map_ascii (L : Lays.n230 P ρ) (X : Builder.Extra P ρ) (g : Nat) (lb : Array Value) (eg : ∀ args w, (callFunc g args).run P w = .ok (.enter g args) w) (p : UInt8 -> Bool) (s : ByteArray) (w : World) (hs : s.size < 1000) (ha : ∀ b ∈ s.data.toList, b.toNat < 128)
    (hf : ∀ (W : World) (b : UInt8), b ∈ s.data.toList -> Below w.heap.size w W -> Calls P g (#[.int .i32 (b.toNat : Int)] ++ lb) W λe w' => e = .returned (.int .i32 (keepI p b)) /\ Below W.heap.size W w') :
    Calls P (ρ.f 230) #[.func (.func g) #[] lb, .string s] w λe w' => e = .returned (.string ⟨(s.data.toList.filter p).toArray⟩) /\ Below w.heap.size w w' := by
  have t0 := L.t0; have a0 := L.a0; have z0 := L.z0; have v0 := L.v0; have t3 := L.t3; have a3 := L.a3; have z3 := L.z3; have v3 := L.v3; have t4 := L.t4; have a4 := L.a4; have z4 := L.z4; have v4 := L.v4; have t5 := L.t5; have a5 := L.a5; have z5 := L.z5; have v5 := L.v5; have t9 := L.t9; have a9 := L.a9; have z9 := L.z9; have v9 := L.v9
  have t20 := L.t20; have a20 := L.a20; have z20 := L.z20; have v20 := L.v20; have t21 := L.t21; have a21 := L.a21; have z21 := L.z21; have v21 := L.v21; have t37 := L.t37; have a37 := L.a37; have z37 := L.z37; have v37 := L.v37; have t46 := L.t46; have a46 := L.a46; have z46 := L.z46; have v46 := L.v46; have t51 := L.t51; have a51 := L.a51; have z51 := L.z51; have v51 := L.v51
  have t70 := L.t70; have a70 := L.a70; have z70 := L.z70; have v70 := L.v70; have t72 := L.t72; have a72 := L.a72; have z72 := L.z72; have v72 := L.v72; have t75 := L.t75; have a75 := L.a75; have z75 := L.z75; have v75 := L.v75; have t76 := L.t76; have a76 := L.a76; have z76 := L.z76; have v76 := L.v76; have t105 := L.t105; have a105 := L.a105; have z105 := L.z105; have v105 := L.v105
  have t107 := L.t107; have a107 := L.a107; have z107 := L.z107; have v107 := L.v107; have t119 := L.t119; have a119 := L.a119; have z119 := L.z119; have t127 := L.t127; have a127 := L.a127; have z127 := L.z127; have v127 := L.v127; have t138 := L.t138; have a138 := L.a138; have z138 := L.z138; have v138 := L.v138; have t139 := L.t139; have a139 := L.a139; have z139 := L.z139; have v139 := L.v139
  have t164 := L.t164; have a164 := L.a164; have z164 := L.z164; have v164 := L.v164
  have mixed := L.mixed
  have e118 : ∀ args w, (callFunc (ρ.f 118) args).run P w = .ok (.enter (ρ.f 118) args) w := enters_of L.f118 (by kernel_rfl) rfl
  have e165 : ∀ args w, (callFunc (ρ.f 165) args).run P w = .ok (.enter (ρ.f 165) args) w := enters_of L.f165 (by kernel_rfl) rfl
  have e166 : ∀ args w, (callFunc (ρ.f 166) args).run P w = .ok (.enter (ρ.f 166) args) w := enters_of L.f166 (by kernel_rfl) rfl
  have e167 : ∀ args w, (callFunc (ρ.f 167) args).run P w = .ok (.enter (ρ.f 167) args) w := enters_of L.f167 (by kernel_rfl) rfl
  have e168 : ∀ args w, (callFunc (ρ.f 168) args).run P w = .ok (.enter (ρ.f 168) args) w := enters_of L.f168 (by kernel_rfl) rfl
  have e169 : ∀ args w, (callFunc (ρ.f 169) args).run P w = .ok (.enter (ρ.f 169) args) w := enters_of L.f169 (by kernel_rfl) rfl
  have e197 : ∀ args w, (callFunc (ρ.f 197) args).run P w = .ok (.enter (ρ.f 197) args) w := enters_of L.f197 (by kernel_rfl) rfl
  have e270 : ∀ args w, (callFunc (ρ.f 270) args).run P w = .ok (.enter (ρ.f 270) args) w := enters_of L.f270 (by kernel_rfl) rfl
  obtain ⟨ANS, hANS⟩ : ∃ ANS, s.data.toList.filter p = ANS := ⟨_, rfl⟩
  rw [hANS]
  have hlen : s.data.toList.length = s.size := (Lib.size_eq s).symm
  go_enter L.f230, Body.n230_ntmps ρ
  go_wp2
  go_loopg [1] s.size (λgk s1 wx => s1 = .string s /\ ∃ pos : Nat, wx.heap[w.heap.size]? = some (.cells #[.pointer none, .slice none 0 0] (ρ.t 72) (0, 0)) /\ wx.heap[w.heap.size + 1]? = some (.stringIter s pos) /\ Below w.heap.size w wx /\
    s.data.toList.take pos ++ (s.data.toList.drop pos).filter p = ANS /\ s.size <= pos + gk /\ pos <= s.size)
  case atStart =>
    refine ⟨rfl, 0, ?_, ?_, ((Below.refl _ w).alloc (le_refl _) _).alloc (by simp) _, by simpa using hANS, by omega, by omega⟩
    · have h1 := heap_alloc_new w (.cells #[.pointer none, .slice none 0 0] (ρ.t 72))
      exact (Below.heap_alloc _ _ _ (by simp)).trans h1
    · have := World.iter_heap (w.alloc (.cells #[.pointer none, .slice none 0 0] (ρ.t 72))) s 0
      simpa using this
  case round =>
    obtain ⟨rfl, pos, hfr, hit, hbw, hsp, hfu, hps⟩ := hrel
    by_cases hlt : pos < s.size
    · obtain ⟨g', rfl⟩ : ∃ g', gk = g' + 1 := ⟨gk - 1, by omega⟩
      have hpl : pos < s.data.toList.length := by omega
      obtain ⟨b, hb⟩ : ∃ b, s.data.toList[pos] = b := ⟨_, rfl⟩
      have hbm : b ∈ s.data.toList := hb ▸ getElem_mem hpl
      have hb128 := ha b hbm
      have hsb : s[pos]'hlt = b := hb
      have hnx : ∀ ty, (Instr.next (.pointer (some ⟨w.heap.size + 1, 0, none⟩)) true ty).run P wr = .ok (.tuple #[.bool true, .int .i64 pos, .int .i32 (b.toNat : Int)]) (wr.iterAt (w.heap.size + 1) s (pos + 1)) := λty => by
        have := Lib.run_next_ascii_at (P := P) wr (w.heap.size + 1) s pos ty hit hlt (by rw [hsb]; exact hb128)
        rw [hsb] at this
        exact this
      have hdr : s.data.toList.drop pos = b :: s.data.toList.drop (pos + 1) := by rw [List.drop_eq_getElem_cons hpl, hb]
      have htk : s.data.toList.take (pos + 1) = s.data.toList.take pos ++ [b] := by rw [take_succ_eq_append_getElem hpl, hb]
      have hit2 := Lib.iterAt_heap wr (w.heap.size + 1) s pos (pos + 1) hit
      have hbw2 := Lib.below_iterAt hbw (k := w.heap.size + 1) (by omega) s (pos + 1)
      have hfr2 : (wr.iterAt (w.heap.size + 1) s (pos + 1)).heap[w.heap.size]? = _ := (Lib.iterAt_other wr (w.heap.size + 1) w.heap.size s (pos + 1) (by omega)).trans hfr
      obtain ⟨W, hWd⟩ : ∃ W, wr.iterAt (w.heap.size + 1) s (pos + 1) = W := ⟨_, rfl⟩
      rw [hWd] at hnx hit2 hbw2 hfr2
      have cS : Calls P g (#[.int .i32 (b.toNat : Int)] ++ lb) W _ := hf W b hbm hbw2
      obtain ⟨R, hR⟩ : ∃ R : Nat, b.toNat = R := ⟨_, rfl⟩
      have hszW : w.heap.size + 1 < W.heap.size := (Array.getElem?_eq_some_iff.1 hit2).1
      rw [hdr] at hsp
      clear hit hbw hfr hWd
      have hR2 : ¬ ((R : Int) = 65533) := by omega
      by_cases hp : p b = true
      · have HS : Aside (s.data.toList.take (pos + 1) ++ (s.data.toList.drop (pos + 1)).filter p = ANS) := by
          show _ = _
          rw [<- hsp, htk, List.filter_cons_of_pos hp, List.append_assoc]
          rfl
        have hk : keepI p b = (R : Int) := by unfold keepI; rw [if_pos hp, hR]
        rw [hk, hR] at cS
        rw [hR] at hnx
        clear hsp hdr htk
        go_wp2_with (go_at_fn g; go_must (refine cS.mono ?_; rintro e W' ⟨rfl, hbc⟩))
        go_roundg g'
        case measure => omega
        case rel => exact ⟨rfl, pos + 1, (hbc.block _ (by omega)).trans hfr2, (hbc.block _ (by omega)).trans hit2, hbw2.trans (hbc.mono hbw2.size), HS.out, by omega, by omega⟩
      · have HS : Aside (s.data.toList.take pos ++ (s.data.toList.drop (pos + 1)).filter p = ANS) := by
          show _ = _
          rw [<- hsp, List.filter_cons_of_neg hp]
        have hk : keepI p b = -1 := by unfold keepI; rw [if_neg hp]
        rw [hk, hR] at cS
        rw [hR] at hnx
        clear hsp hdr htk
        have hM : ¬ ((-1 : Int) = (R : Int)) := by omega
        have hMb : ((-1 : Int) == (R : Int)) = false := by simp
        have hRb : ((R : Int) == 65533) = false := by simp; omega
        have hrl : Lib.runeLen (R : Int) = 1 := by
          unfold Lib.runeLen
          rw [if_neg (by omega), if_pos (by omega)]
        have cR := λW' => Any.utf8_RuneLen (P := P) (ρ := ρ) { L with } (R : Int) W'
        rw [hrl] at cR
        go_wp2_with (first
          | (go_at_fn g; go_must (refine cS.mono ?_; rintro e W' ⟨rfl, hbc⟩))
          | (go_at_fn (ρ.f 118); go_must (refine (cR _).mono ?_; rintro e W3 ⟨rfl, rfl⟩)))
        have hfrC := (hbc.block _ (by omega)).trans hfr2
        have hbC : Below w.heap.size w W3 := hbw2.trans (hbc.mono hbw2.size)
        clear cS cR hnx hit2 hfr2 hbw2 hszW hbc
        have hxs : (s.extract 0 pos).size = pos := by rw [Lib.size_eq, Lib.extract_data, length_take, List.length_drop, hlen]; omega
        have hxd : (s.extract 0 pos).data.toList = s.data.toList.take pos := by rw [Lib.extract_data]; simp
        have cG := Any.Builder_Grow_fresh_cap (P := P) (ρ := ρ) { L with } X w.heap.size w.heap.size (s.size + 4) W3 (le_refl _) hfrC hbC.size (by omega)
        go_wp2_with (go_at_fn (ρ.f 165); go_must (go_fit cG; rintro e W4 ⟨rfl, ⟨h4, b4⟩, p4, cap4, hc4, hcap4⟩))
        refine (Any.Builder_WriteString_kc { L with } X w.heap.size w.heap.size [] (s.extract 0 pos) W4 (Lib.IsBuilderF.of (Or.inr h4)) (by rw [hxs]; simp; omega) (Nat.le_trans hbC.size b4.size)).mono ?_
        rintro e W5 ⟨rfl, ⟨h5w, b5, -⟩, hk5⟩
        obtain ⟨v5, hv5, hcap5⟩ := hk5 _ hc4
        have hcap5' : 4 <= v5.capOf := by
          have : cap4 <= v5.capOf := hcap5
          omega
        have hb6 : Below w.heap.size w W5 := (hbC.trans b4).trans b5
        have hcells : [] ++ Lib.strCells (s.extract 0 pos) = Lib.byteCells (s.data.toList.take pos) := by
          rw [List.nil_append, Lib.strCells_eq, hxd]
        have h6w := h5w
        rw [hcells] at h6w
        obtain ⟨g6, cap6, hc6, hcap6⟩ : ∃ g6 cap6, W5.cell? ⟨w.heap.size, 1, none⟩ = some (.slice (some ⟨g6, 0, none⟩) (Lib.byteCells (s.data.toList.take pos)).length cap6) /\ 1 <= cap6 := by
          obtain ⟨_, v6, hv6, hown6, _⟩ := h6w
          have e6 : v6 = v5 := by
            have h1 : W5.cell? ⟨w.heap.size, 1, none⟩ = some v6 := by rw [Lib.cell_of_heap hv6]; rfl
            exact Option.some.inj (h1.symm.trans hv5)
          rcases hown6.2 with ⟨h0, _⟩ | ⟨g6, cap6, _, _, rfl, _, _, _, hnc, _⟩
          · rw [<- e6, h0] at hcap5'
            simp [Value.capOf] at hcap5'
          · refine ⟨g6, cap6, by rw [Lib.cell_of_heap hv6]; rfl, ?_⟩
            rw [<- e6] at hcap5'
            have : 4 <= cap6 := hcap5'
            omega
        clear hc4 hk5 hv5 hcap5 hcap5' h5w h4 hcap4
        have hcapz : ¬ ((cap6 : Int) = 0) := by omega
        have hcapb : ((cap6 : Int) == 0) = false := by simp; omega
        go_wp2
        refine (Any.Builder_Cap_cell { L with } w.heap.size _ _ cap6 W5 hc6).mono ?_
        rintro e W6' ⟨rfl, rfl⟩
        obtain ⟨s2, hs2⟩ : ∃ s2, s.extract (pos + 1) s.size = s2 := ⟨_, rfl⟩
        have hl2 : s2.data.toList = s.data.toList.drop (pos + 1) := by
          rw [<- hs2, Lib.extract_data, List.take_of_length_le (by rw [List.length_drop, hlen]; omega)]
        have hz2 : s2.size = s.size - (pos + 1) := by rw [Lib.size_eq, hl2, List.length_drop, hlen]
        have hpk : ((pos : Int) + 1).toNat = pos + 1 := by omega
        go_wp2
        go_loopg [] s2.size (λgk wx => ∃ (p2 : Nat) (acc : List UInt8), Lib.IsBuilderF (ρ.t 72) (ρ.t 5) w.heap.size w.heap.size (Lib.byteCells acc) wx /\ wx.heap[W6'.heap.size]? = some (.stringIter s2 p2) /\ Below w.heap.size w wx /\
          acc ++ (s2.data.toList.drop p2).filter p = ANS /\ s2.size <= p2 + gk /\ p2 <= s2.size /\ acc.length <= 4 * (pos + 1 + p2) + 4)
        case atStart =>
          refine ⟨0, s.data.toList.take pos, Lib.IsBuilderF.alloc (Or.inr h6w) _, World.iter_heap W6' s2 0, hb6.alloc hb6.size _, ?_, by omega, by omega, ?_⟩
          · rw [drop_zero, hl2]; exact HS.out
          · rw [length_take, hlen]; omega
        case round =>
          obtain ⟨p2, acc, hI, hit, hbw, hacc, hfu2, hp2, hal⟩ := hrel
          have hszI : W6'.heap.size < wr.heap.size := (Array.getElem?_eq_some_iff.1 hit).1
          have hBI : w.heap.size <= W6'.heap.size := hb6.size
          have hBlt : w.heap.size < W6'.heap.size := h6w.lt
          by_cases hlt2 : p2 < s2.size
          · obtain ⟨g2, rfl⟩ : ∃ g2, gk = g2 + 1 := ⟨gk - 1, by omega⟩
            have hpl2 : p2 < s2.data.toList.length := by rw [<- Lib.size_eq]; exact hlt2
            obtain ⟨b2, hb2⟩ : ∃ b2, s2.data.toList[p2] = b2 := ⟨_, rfl⟩
            have hbm2 : b2 ∈ s.data.toList := by
              have h1 : b2 ∈ s2.data.toList := hb2 ▸ getElem_mem hpl2
              rw [hl2] at h1
              exact List.mem_of_mem_drop h1
            have hb2l := ha b2 hbm2
            have hsb2 : s2[p2]'hlt2 = b2 := hb2
            have hnx : ∀ ty, (Instr.next (.pointer (some ⟨W6'.heap.size, 0, none⟩)) true ty).run P wr = .ok (.tuple #[.bool true, .int .i64 p2, .int .i32 (b2.toNat : Int)]) (wr.iterAt W6'.heap.size s2 (p2 + 1)) := λty => by
              have := Lib.run_next_ascii_at (P := P) wr W6'.heap.size s2 p2 ty hit hlt2 (by rw [hsb2]; exact hb2l)
              rw [hsb2] at this
              exact this
            have hdr2 : s2.data.toList.drop p2 = b2 :: s2.data.toList.drop (p2 + 1) := by rw [List.drop_eq_getElem_cons hpl2, hb2]
            have hI2 := hI.iterAt hit (p2 + 1)
            have hit2 := Lib.iterAt_heap wr W6'.heap.size s2 p2 (p2 + 1) hit
            have hbw2 := Lib.below_iterAt hbw (k := W6'.heap.size) hBI s2 (p2 + 1)
            have hsz2 : w.heap.size <= (wr.iterAt W6'.heap.size s2 (p2 + 1)).heap.size := by rw [Lib.iterAt_size]; omega
            obtain ⟨Wa, hWa⟩ : ∃ Wa, wr.iterAt W6'.heap.size s2 (p2 + 1) = Wa := ⟨_, rfl⟩
            rw [hWa] at hnx hI2 hit2 hbw2 hsz2
            have cS2 : Calls P g (#[.int .i32 (b2.toNat : Int)] ++ lb) Wa _ := hf Wa b2 hbm2 hbw2
            have hszA : W6'.heap.size < Wa.heap.size := (Array.getElem?_eq_some_iff.1 hit2).1
            rw [hdr2] at hacc
            obtain ⟨R2, hR2'⟩ : ∃ R2 : Nat, b2.toNat = R2 := ⟨_, rfl⟩
            clear hit hbw hI hWa HS hdr2
            by_cases hp2' : p b2 = true
            · have hk2 : keepI p b2 = (R2 : Int) := by unfold keepI; rw [if_pos hp2', hR2']
              have HS2 : Aside ((acc ++ [b2]) ++ (s2.data.toList.drop (p2 + 1)).filter p = ANS) := by
                show _ = _
                rw [<- hacc, List.filter_cons_of_pos hp2', List.append_assoc]
                rfl
              clear hacc
              rw [hk2, hR2'] at cS2
              rw [hR2'] at hnx
              have hn0 : ¬ ((R2 : Int) < 0) := by omega
              have hn1 : (0 : Int) <= (R2 : Int) := by omega
              have hn2 : (R2 : Int) < 128 := by omega
              go_wp2_with (go_at_fn g; go_must (refine cS2.mono ?_; rintro e W' ⟨rfl, hbc2⟩))
              refine (Any.Builder_WriteByte_k { L with } X w.heap.size w.heap.size _ (R2 : Int) W' (hI2.below hbc2) (by rw [Lib.byteCells_length]; omega) (Nat.le_trans hsz2 hbc2.size)).mono ?_
              rintro e W7 ⟨rfl, h7, b7, k7⟩
              go_wp2
              go_roundg g2
              case measure => omega
              case rel =>
                refine ⟨p2 + 1, acc ++ [b2], Or.inr ?_, k7.iter ((hbc2.block _ hszA).trans hit2) (by omega), (hbw2.trans (hbc2.mono hbw2.size)).trans b7, HS2.out, by omega, by omega, by rw [length_append]; simp; omega⟩
                rw [Lib.byteCells_append]
                have : Lib.byteCells [b2] = [Value.int .u8 (R2 : Int)] := by rw [<- hR2']; rfl
                rw [this]
                exact h7
            · have hk2 : keepI p b2 = -1 := by unfold keepI; rw [if_neg hp2']
              have HS2 : Aside (acc ++ (s2.data.toList.drop (p2 + 1)).filter p = ANS) := by
                show _ = _
                rw [<- hacc, List.filter_cons_of_neg hp2']
              clear hacc
              rw [hk2, hR2'] at cS2
              rw [hR2'] at hnx
              go_wp2_with (go_at_fn g; go_must (refine cS2.mono ?_; rintro e W' ⟨rfl, hbc2⟩))
              go_roundg g2
              case measure => omega
              case rel =>
                exact ⟨p2 + 1, acc, hI2.below hbc2, (hbc2.block _ hszA).trans hit2, hbw2.trans (hbc2.mono hbw2.size), HS2.out, by omega, by omega, by omega⟩
          · obtain rfl : p2 = s2.size := by omega
            have hnx : ∀ ty, (Instr.next (.pointer (some ⟨W6'.heap.size, 0, none⟩)) true ty).run P wr = _ := λty => Lib.run_next_end_at wr W6'.heap.size s2 s2.size ty hit hlt2
            go_wp2
            refine (Any.Builder_String_any_f { L with } X w.heap.size w.heap.size acc wr hI (by omega)).mono ?_
            rintro e W8 ⟨rfl, _, b8⟩
            go_wp2
            go_ret
            refine ⟨?_, hbw.trans b8⟩
            rw [Lib.size_eq, List.drop_length, List.filter_nil, List.append_nil] at hacc
            subst hacc
            rfl
    · obtain rfl : pos = s.size := by omega
      have hnx : ∀ ty, (Instr.next (.pointer (some ⟨w.heap.size + 1, 0, none⟩)) true ty).run P wr = _ := λty => Lib.run_next_end_at wr (w.heap.size + 1) s s.size ty hit hlt
      have cC := Any.Builder_Cap_cell (P := P) (ρ := ρ) { L with } w.heap.size none 0 0 wr (by rw [Lib.cell_of_heap hfr]; rfl)
      go_wp2_with (go_at_fn (ρ.f 270); go_must (refine cC.mono ?_; rintro e W' ⟨rfl, rfl⟩))
      go_ret
      refine ⟨?_, hbw⟩
      rw [<- hsp, <- hlen, List.drop_length, take_length, List.filter_nil, List.append_nil]
      rfl
end
end Go.MapWalk
namespace Go.Sim
section
open Go.RowKit Go.Proofs Go.MapWalk
variable {P : Program} {ρ : ai} {h : ad} {w : World}
theorem ar.under (H:ar P ρ h w) {w':World} (b:Below w.heap.size w w'):ar P ρ h w'/\Tr ρ h w ρ h w':=by
 refine ⟨⟨?_,H.inj,H.aL⟩,?_⟩
 ·intro i r hi
  obtain ⟨o,ho,hr⟩:=H.obj i r hi
  refine ⟨o,ho,?_⟩
  by_cases hd:o=.dead
  ·subst hd;trivial
  ·exact hr.mono (.refl _) (b.block _ (oM H hi ⟨o,ho,hd⟩))
 ·exact {
   ext:=.refl _
   len:=le_refl _
   cV:=λi r hi=>H.lt hi
   kinds:=λi _ hm=>hm
   fresh:=λi s h1 h2=>by rw [h1] at h2;cases h2
   cu:=b.size
   ck:=λk hk _=>b.block k hk
   os:=b.os
   tape:=b.tape
   output:=b.output }
def rI:aA->aA
 | .arr e xs=>.ro e xs
 | .ro e xs=>.ro e xs
 | _=>.dead
def fP (is:List Nat) (h:ad):ad:=(List.range h.length).map λi=>if i∈is then rI (h.getD i .dead) else .dead
theorem v7 (is:List Nat) (h:ad) {i:Nat} (hi:i<h.length):(fP is h)[i]?=some (if i∈is then rI h[i] else .dead):=by
 unfold fP
 rw [List.getElem?_map,List.getElem?_range hi]
 simp [List.getD_eq_getElem?_getD,hi]
theorem Cf {is:List Nat} {h:ad} {i:Nat} {e:TypeId} {xs:List Value} (hg:h[i]?=some (.arr e xs)) (hi:i∈is):(fP is h)[i]?=some (.ro e xs):=by
 obtain ⟨hl,he⟩:=bw hg
 rw [v7 is h hl,if_pos hi,he]
 rfl
theorem KU (o:aA):(∃e xs,rI o=.ro e xs)∨rI o=.dead:=by
 cases o
 all_goals first
  | exact .inl ⟨_,_,rfl⟩
  | exact .inr rfl
theorem Cg (is:List Nat) (h:ad):∀i,¬aI (fP is h) i:=by
 intro i hm
 unfold aI at hm
 by_cases hi:i<h.length
 ·have key:(fP is h)[i]?=some .dead∨∃e xs,(fP is h)[i]?=some (.ro e xs):=by
   rw [v7 is h hi]
   split
   ·rcases KU h[i] with ⟨e,xs,he⟩ | he
    ·exact .inr ⟨e,xs,by rw [he]⟩
    ·exact .inl (by rw [he])
   ·exact .inl rfl
  rcases key with hk | ⟨_,_,hk⟩ <;> rw [hk] at hm <;> rcases hm with ⟨_,_,h1⟩ | ⟨_,h1⟩ | ⟨_,_,_,h1⟩ | ⟨_,_,h1⟩ | ⟨_,_,_,h1⟩ | ⟨_,_,_,_,h1⟩ <;> cases h1
 ·have hl:(fP is h).length=h.length:=by unfold fP;simp
  rw [List.getElem?_eq_none (by omega)] at hm
  rcases hm with ⟨_,_,h1⟩ | ⟨_,h1⟩ | ⟨_,_,_,h1⟩ | ⟨_,_,h1⟩ | ⟨_,_,_,h1⟩ | ⟨_,_,_,_,h1⟩ <;> cases h1
theorem ar.fP (is:List Nat) (H:ar P ρ h w):ar P ρ (fP is h) w:=by
 refine ⟨λi r hi=>?_,λi j r s _ _ _ hm _=>absurd hm (Cg is h i),H.aL⟩
 obtain ⟨o,ho,hr⟩:=H.obj i r hi
 obtain ⟨hl,he⟩:=bw ho
 refine ⟨_,v7 is h hl,?_⟩
 split
 ·rw [he]
  cases o with
  | arr e xs=>
   obtain ⟨a1,a2,c,a3,a4,a5⟩:=hr
   refine ⟨a1,c,e,(0,0),a3,a4,?_⟩
   rw [a2]
   exact a5
  | ro e xs=>exact hr
  | _=>trivial
 ·trivial
theorem Jp {F g:FuncId} (hF:∀(lb:Array Value) (p:UInt8->Bool) (s:ByteArray) (w:World),s.size<1000->(∀b∈s.data.toList,b.toNat<128)->
   (∀(W:World) (b:UInt8),b∈s.data.toList->Below w.heap.size w W->Calls P g (#[.int .i32 (b.toNat:Int)]++lb) W λe w'=>e=.returned (.int .i32 (keepI p b))/\Below W.heap.size W w')->
   Calls P F #[.func (.func g) #[] lb,.string s] w λe w'=>e=.returned (.string ⟨(s.data.toList.filter p).toArray⟩)/\Below w.heap.size w w')
  {p:UInt8->Bool} {s:List UInt8} {ic:Nat} {is:List Nat} {h:ad} {K:Value->ad->Prop} (hl:s.length<1000) (ha:∀b∈s,b.toNat<128)
  (bL:∀b∈s,ay P g [.int .i32 (b.toNat:Int),pt ic 0] (fP is h) λv _=>v=.int .i32 (keepI p b)) (hk:K (S (s.filter p)) h):ay P F [.func (.func g) #[] #[pt ic 0],S s] h K:=by
 rw [iY]
 refine ⟨_,_,?_,hk⟩
 intro ρ args' w hv H
 obtain ⟨x',y',gf,hr,HU⟩:∃x' y',args'=#[x',y']/\af ρ (.func (.func g) #[] #[pt ic 0]) x'/\af ρ (S s) y':=by
  cases ha:args'.toList with
  | nil=>rw [ha] at hv;cases hv
  | cons x xs=>
   rw [ha] at hv
   cases hv with
   | cons h1 h2=>
    cases h2 with
    | cons h3 h4=>
     cases h4
     exact ⟨_,_,Array.ext' ha,h1,h3⟩
 subst gf
 rw [HU.iT]
 cases hr with
 | func _ hx hy hxs qR=>
  rename_i xs' iC
  have e0:xs'=#[]:=Array.eq_empty_of_size_eq_zero hx.symm
  subst e0
  obtain ⟨y0,e1⟩:∃y0,iC=#[y0]:=by
   have eY:iC.size=1:=hy.symm
   obtain ⟨l⟩:=iC
   match l,eY with
   | [y0],_=>exact ⟨y0,rfl⟩
  subst e1
  have Iu:af ρ (pt ic 0) y0:=qR 0 _ _ rfl rfl
  have hc:=hF #[y0] p ⟨s.toArray⟩ w (by show s.toArray.size<1000;simpa using hl) (by simpa using ha) (λW b hb hB=>by
   have eT:b∈s:=by simpa using hb
   have qG:=bL b eT
   rw [iY] at qG
   obtain ⟨v,h1,hi,rfl⟩:=qG
   obtain ⟨HW,_⟩:=H.under hB
   refine (zU ⟨_,h1,hi,rfl⟩ (args':=#[.int .i32 (b.toNat:Int),y0]) (.cons (.int _ _) (.cons Iu .nil)) (HW.fP is) (Cg is h)).mono ?_
   rintro e w' ⟨⟨v',ae,rfl,gl⟩,hb2⟩
   exact ⟨by rw [gl.dX],hb2⟩)
  refine hc.mono ?_
  rintro ex w' ⟨rfl,hb⟩
  obtain ⟨p1,p2⟩:=H.under hb
  refine ⟨_,ρ,rfl,?_,p1,p2⟩
  have:(⟨s.toArray⟩:ByteArray).data.toList=s:=by simp
  rw [this]
  exact .string _
end
end Go.Sim
namespace Go.Proofs
section
def wy:Go.Shelf.Ren:=⟨fun
 | 230=>23 | 197=>41 | 118=>42 | 165=>43 | 166=>44 | 168=>45 | 270=>46 | 167=>47 | 169=>48 | 260=>61 | 240=>62 | 241=>63 | 242=>64 | 276=>81 | 277=>82 | 278=>83 | n=>n,λ| 107=>57 | 9=>9 | 72=>87 | 0=>0 | 4=>4 | 3=>3 | 21=>21 | 105=>88 | 76=>94 | 5=>5 | 75=>93 | 70=>85 | 20=>20 | 37=>40 | 127=>121 | 119=>136 | 46=>126 | 139=>139 | 138=>138 | 164=>140 | 51=>130 | 80=>99 | n=>n,λ| 3=>1 | 4=>2 | n=>n⟩
theorem LU:Go.Proofs.Lays.n230 Tryd.prog wy where
 mixed:=by kernel_rfl
 f118:=Tryd.func42.trans (congrArg some (by kernel_rfl))
 f165:=Tryd.func43.trans (congrArg some (by kernel_rfl))
 f166:=Tryd.func44.trans (congrArg some (by kernel_rfl))
 f167:=Tryd.func47.trans (congrArg some (by kernel_rfl))
 f168:=Tryd.func45.trans (congrArg some (by kernel_rfl))
 f169:=Tryd.func48.trans (congrArg some (by kernel_rfl))
 f197:=Tryd.func41.trans (congrArg some (by kernel_rfl))
 f230:=Tryd.func23.trans (congrArg some (by kernel_rfl))
 f240:=Tryd.func62.trans (congrArg some (by kernel_rfl))
 f241:=Tryd.func63.trans (congrArg some (by kernel_rfl))
 f242:=Tryd.func64.trans (congrArg some (by kernel_rfl))
 f260:=Tryd.func61.trans (congrArg some (by kernel_rfl))
 f270:=Tryd.func46.trans (congrArg some (by kernel_rfl))
 f276:=Tryd.func81.trans (congrArg some (by kernel_rfl))
 f277:=Tryd.func82.trans (congrArg some (by kernel_rfl))
 f278:=Tryd.func83.trans (congrArg some (by kernel_rfl))
 t0:=Tryd.underlying0
 a0:=Tryd.isAgg0
 z0:=Tryd.sizeOf0
 v0:=Tryd.zeroValue0
 t3:=Tryd.underlying3
 a3:=Tryd.isAgg3
 z3:=Tryd.sizeOf3
 v3:=Tryd.zeroValue3
 t4:=Tryd.underlying4
 a4:=Tryd.isAgg4
 z4:=Tryd.sizeOf4
 v4:=Tryd.zeroValue4
 t5:=Tryd.underlying5
 a5:=Tryd.isAgg5
 z5:=Tryd.sizeOf5
 v5:=Tryd.zeroValue5
 t9:=Tryd.underlying9
 a9:=Tryd.isAgg9
 z9:=Tryd.sizeOf9
 v9:=Tryd.zeroValue9
 t20:=Tryd.underlying20
 a20:=Tryd.isAgg20
 z20:=Tryd.sizeOf20
 v20:=Tryd.zeroValue20
 t21:=Tryd.underlying21
 a21:=Tryd.isAgg21
 z21:=Tryd.sizeOf21
 v21:=Tryd.zeroValue21
 t37:=Tryd.underlying40
 a37:=Tryd.isAgg40
 z37:=Tryd.sizeOf40
 v37:=Tryd.zeroValue40
 t46:=Tryd.underlying126
 a46:=Tryd.isAgg126
 z46:=Tryd.sizeOf126
 v46:=Tryd.zeroValue126
 t51:=Tryd.underlying130
 a51:=Tryd.isAgg130
 z51:=Tryd.sizeOf130
 v51:=Tryd.zeroValue130
 t70:=Tryd.underlying85
 a70:=Tryd.isAgg85
 z70:=Tryd.sizeOf85
 v70:=Tryd.zeroValue85
 t72:=Tryd.underlying87
 a72:=Tryd.isAgg87
 z72:=Tryd.sizeOf87
 v72:=Tryd.zeroValue87
 t75:=Tryd.underlying93
 a75:=Tryd.isAgg93
 z75:=Tryd.sizeOf93
 v75:=Tryd.zeroValue93
 t76:=Tryd.underlying94
 a76:=Tryd.isAgg94
 z76:=Tryd.sizeOf94
 v76:=Tryd.zeroValue94
 t105:=Tryd.underlying88
 a105:=Tryd.isAgg88
 z105:=Tryd.sizeOf88
 v105:=Tryd.zeroValue88
 t107:=Tryd.underlying57
 a107:=Tryd.isAgg57
 z107:=Tryd.sizeOf57
 v107:=Tryd.zeroValue57
 t119:=Tryd.underlying136
 a119:=Tryd.isAgg136
 z119:=Tryd.sizeOf136
 t127:=Tryd.underlying121
 a127:=Tryd.isAgg121
 z127:=Tryd.sizeOf121
 v127:=Tryd.zeroValue121
 t138:=Tryd.underlying138
 a138:=Tryd.isAgg138
 z138:=Tryd.sizeOf138
 v138:=Tryd.zeroValue138
 t139:=Tryd.underlying139
 a139:=Tryd.isAgg139
 z139:=Tryd.sizeOf139
 v139:=Tryd.zeroValue139
 t164:=Tryd.underlying140
 a164:=Tryd.isAgg140
 z164:=Tryd.sizeOf140
 v164:=Tryd.zeroValue140
 g3:=by kernel_rfl
 g4:=by kernel_rfl
theorem LV:Builder.Extra Tryd.prog wy where
 sizeBuilder:=by kernel_rfl
 liesBuilder:=by kernel_rfl
 t5:=Tryd.underlying5
 a5:=Tryd.isAgg5
 z5:=Tryd.sizeOf5
 v5:=Tryd.zeroValue5
 infoByte:=by kernel_rfl
 cellsByte:=by kernel_rfl
 sizeByte:=by kernel_rfl
 neB5:=by decide
end
end Go.Proofs
namespace Go.Proofs.YtlpdhfdpnakgdaaDoor
section
open Go.Sim Go.MapWalk
theorem Gj:∀args w,(callFunc 24 args).run Tryd.prog w=.ok (.enter 24 args) w:=enters_of Tryd.func24 (by kernel_rfl) rfl
theorem CR {p:UInt8->Bool} {s:List UInt8} {ic:Nat} {is:List Nat} {h:ad} {K:Value->ad->Prop} (hl:s.length<1000) (ha:∀b∈s,b.toNat<128)
  (bL:∀b∈s,ay Tryd.prog 24 [.int .i32 (b.toNat:Int),pt ic 0] (fP is h) λv _=>v=.int .i32 (keepI p b)) (hk:K (S (s.filter p)) h):ay Tryd.prog 23 [.func (.func 24) #[] #[pt ic 0],S s] h K:=
 Jp (F:=23) (g:=24) (λlb p s w h1 h2 h3=>map_ascii (ρ:=wy) LU LV 24 lb Gj p s w h1 h2 h3) hl ha bL hk
end
section
open Go.Sim
@[simp] theorem mS (a b : Value) : (#[a, b] : Array Value)[0]? = some a := rfl
@[simp] theorem mT (a b : Value) : (#[a, b] : Array Value)[1]? = some b := rfl
theorem JG {ps:List (Int×Int)} {pv:Value} {k:Int} {h:ad} {K:Value->ad->Prop} (hp:kA h pv ps) (hk:∀h2 qv qs,PS h2 qv qs->qs.length<=31->K (.tuple #[I k,qv]) h2):
  OH (iO 24 h (.agg #[I k,pv])) λt3 h_1=>OP (ax true 2 h_1 t3) λbX=>ay Tryd.prog 5 [bX] h_1 K:=by
 have e1:iO 24 h (.agg #[I k,pv])=some (pt h.length 0,h++[.arr 24 [I k,pv]]):=rfl
 have e2:ax true 2 (h++[.arr 24 [I k,pv]]) (pt h.length 0)=some (.agg #[I k,pv]):=by simp [ax,bd,dv]
 simp only [e1,cw,e2,aq]
 refine C5 (hp.mono (EX.append _ _)) ?_
 generalize h++[aA.arr 24 [I k,pv]]=h1
 have hl:(ps.take 31).length<=31:=by rw [length_take];omega
 have hps:PS (h1++[.arr 62 (bt (ps.take 31))]) (sl 62 h1.length 0 (ps.take 31).length) (ps.take 31):=PS.sl (by simp [bd])
 exact hk _ _ _ hps hl
theorem kN {h:ad} {o:aA}:(h++[o])[h.length]?=some o:=by simp
theorem wj (xs:List Value) (o:Nat) (v:Value) (ho:o<xs.length):setAt xs o [v]=xs.set o v:=by
 unfold setAt
 rw [List.set_eq_take_append_cons_drop,if_pos ho]
 simp
theorem rT {h:ad} {i o:Nat} {e:TypeId} {xs:List Value} {v:Value} (hg:h[i]?=some (.arr e xs)) (ho:o<xs.length) (h1:dM v=true) (h2:aZ v=[v]):eO 1 h (pt i o) v=some (undef,h.set i (.arr e (xs.set o v))):=by
 simp only [eO,jy,hg,h1,h2,wj _ _ _ ho]
 rw [if_pos ⟨trivial,rfl,by omega⟩]
 rfl
section
variable {h : ad} {id : Nat}
abbrev hb (h:ad) (id:Nat) (xs:List UInt8):ad:=h.set id (.arr 5 (xs.map cv))
theorem pM {e:TypeId} {n j:Nat} (hj:j<n):bQ 1 (sl e id 0 n) (I j)=some (pt id j):=by
 have:(0:Int)<=(j:Int)/\(j:Int)<(n:Int):=by omega
 simp [Go.Sim.sl,bQ,this]
end
theorem xH {b:Nat} {hx:ad} {e:TypeId} {bytes:Nat} {v x z:Value} {xs:List Value} {K:Value->ad->Prop} (o:cb b hx e v xs) (hb:(xs.length+1)*bytes<=140737488355328) (hm:xs.length+1<=maxLen)
  (h1:dM x=true) (h2:aZ x=[x]) (hk:∀h1 b0,h1=hx++[.arr e [x]]->b0.length=hx.length+2->(∀d,d<hx.length->(∀n,v≠sl e d 0 n)->b0[d]?=hx[d]?)->b0[hx.length+1]?=some (.arr e (xs++[x]))->OH (some (sl e (hx.length+1) 0 (xs.length+1),b0)) K):
  OH (bI e 1 [z] hx [(0,1,x)]) λa h2=>OH (cg e 1 bytes h2 v a) K:=by
 have e1:bI e 1 [z] hx [(0,1,x)]=some (sl e hx.length 0 1,hx++[.arr e [x]]):=by
  simp [bI,gE,dQ,h1,h2,setAt]
 rw [e1]
 simp only [cw]
 have e2:dj (hx++[.arr e [x]]) 1 (sl e hx.length 0 1)=some [x]:=by simp [dj,sl,bd]
 have e3:fL (sl e hx.length 0 1)=some 1:=rfl
 rcases o with ⟨rfl,rfl⟩ | ⟨i,hi,rfl,az⟩
 ·have eT:1*bytes<=140737488355328:=by simpa using hb
  have ct:1<=maxLen:=by simpa using hm
  have e4:cg e 1 bytes (hx++[.arr e [x]]) (.slice none 0 0) (sl e hx.length 0 1)=some (sl e (hx.length+1) 0 1,hx++[.arr e [x]]++[.arr e [x]]):=by
   simp only [cg,e2,e3]
   rw [if_neg (by omega),if_pos ⟨eT,ct⟩]
   simp
  rw [e4]
  refine hk _ _ rfl (by simp) (λd hd _=>by rw [getElem?_append_left (by simp;omega),getElem?_append_left hd]) (by rw [getElem?_append_right (by simp)];simp)
 ·have hlt:=(bw az).1
  have hg:(hx++[.arr e [x]])[i]?=some (.arr e xs):=by rw [getElem?_append_left hlt];exact az
  have e4:cg e 1 bytes (hx++[.arr e [x]]) (sl e i 0 xs.length) (sl e hx.length 0 1)=some (sl e (hx.length+1) 0 (xs.length+1),(hx++[aA.arr e [x]]).set i aA.dead++[aA.arr e (xs++[x])]):=by
   simp only [cg,e2,e3]
   simp only [sl,hg]
   rw [if_pos ⟨trivial,trivial,by simp,hb,hm⟩,if_neg (by omega)]
   simp
  rw [e4]
  refine hk _ _ rfl (by simp) (λd hd bc=>?_) (by rw [getElem?_append_right (by simp)];simp)
  have tT:i≠d:=by rintro rfl;exact bc _ rfl
  rw [getElem?_append_left (by simp;omega),getElem?_set_ne tT,getElem?_append_left hd]
theorem oZ {e e':TypeId} {i i' o o' n n':Nat} (h:sl e i o n=sl e' i' o' n'):i=i'/\n=n':=by
 unfold sl at h
 injection h with h1 h2
 injection h1 with h1
 injection h1 with h1
 exact ⟨h1,h2⟩
theorem cb.jC {b:Nat} {g g':ad} {e:TypeId} {v:Value} {xs:List Value} (o:cb b g e v xs) (h:∀d n,v=sl e d 0 n->b<=d->g'[d]?=g[d]?):cb b g' e v xs:=by
 rcases o with ⟨h1,h2⟩ | ⟨i,h1,h2,h3⟩
 ·exact .inl ⟨h1,h2⟩
 ·exact .inr ⟨i,h1,h2,by rw [h i _ h2 h1];exact h3⟩
theorem cb.lt {b:Nat} {g:ad} {e:TypeId} {v:Value} {xs:List Value} {d n:Nat} (o:cb b g e v xs) (h:v=sl e d 0 n):b<=d/\d<g.length/\g[d]?=some (.arr e xs):=by
 rcases o with ⟨h1,_⟩ | ⟨i,h1,h2,h3⟩
 ·rw [h1] at h;cases h
 ·rw [h2] at h
  obtain ⟨rfl,_⟩:=oZ h
  exact ⟨h1,(bw h3).1,h3⟩
end
section
open Go.Sim Go.MapWalk
theorem cb.ss {b:Nat} {g:ad} {v:Value} {ls:List (List UInt8)} (o:cb b g 9 v (ls.map S)):SS g v ls:=by
 rcases o with ⟨rfl,h0⟩ | ⟨i,_,rfl,h0⟩
 ·have:ls=[]:=by simpa using h0
  subst this
  exact ⟨rfl,λk hk=>by simp at hk⟩
 ·rw [length_map]
  exact SS.sl (by simp [bd,h0])
theorem u7 {n:Nat} (h:n<=6) {s:List UInt8} (hs:letters n s):letters 6 s:=λc hc=>by obtain ⟨a,ha,e⟩:=hs c hc;exact ⟨a,by omega,e⟩
theorem Az (s:List UInt8) (h:ad):bI 9 1 [.string ⟨#[]⟩] h [(0,1,S s)]=some (sl 9 h.length 0 1,h++[.arr 9 [S s]]):=rfl
theorem Jn {a:Nat} (ha:a<6):(lt a).toNat<128:=by rw [km (by omega)];omega
theorem Ji {s:List UInt8} (hs:letters 6 s):∀b∈s,b.toNat<128:=λb hb=>by obtain ⟨a,ha,rfl⟩:=hs b hb;exact Jn ha
section
variable {K : Value -> ad -> Prop}
theorem CS {g:ad} {ic ip:Nat} {P:List UInt8} {b:UInt8} (hc:g[ic]?=some (.arr 40 [sl 5 ip 0 P.length])) (hp:g[ip]?=some (.arr 5 (P.map cv))) (hl:P.length<=1000) (hb:b.toNat<128)
  (hk:∀h',K (.int .i32 (keepI P.contains b)) h'):ay Tryd.prog 24 [.int .i32 (b.toNat:Int),pt ic 0] (fP [ic,ip] g) K:=by
 refine f24 ?_
 have c1:=Cf hc (is:=[ic,ip]) (by simp)
 have c2:=Cf hp (is:=[ic,ip]) (by simp)
 have l1:ax false 1 (fP [ic,ip] g) (pt ic 0)=some (sl 5 ip 0 P.length):=mO (by simp [bd,c1])
 have w:IntKind.wrap .u8 (b.toNat:Int)=(b.toNat:Int):=gT (by omega) (by omega)
 simp only [sB,l1,aq,nD,w]
 refine wT (xs:=P) rfl (λj hj=>⟨ip,j,pM hj,by simp [ax,bd,c2,dv,hj]⟩) hl ?_
 have e:keepI P.contains b=if P.contains b=true then (b.toNat:Int) else -1:=rfl
 cases hx:P.contains b with
 | true=>
  rw [e,hx,if_pos rfl] at hk
  simp only [fT]
  exact hk _
 | false=>
  rw [e,hx,if_neg (by decide)] at hk
  simp only [fm]
  exact hk _
def pK (gA:ad) (ic:Nat) (P:List UInt8) (ip:Nat) (g:ad):Prop:=EX gA g/\gA.length<=ic/\gA.length<=ip/\ic≠ip/\g[ic]?=some (.arr 40 [sl 5 ip 0 P.length])/\g[ip]?=some (.arr 5 (P.map cv))
theorem CZ {ps:List (Int×Int)} {n:Nat} {s:List UInt8} {t out:Value} {a:Nat} {gA g0:ad} {ic ip0:Nat} {L:List Value->ad->Prop} (kb:n<=6) (ls:letters n s) (hs:s.length<=40) (ht:TH gA t n (cy ps)) (hx:lt a∈s)
  (hm:pK gA ic [lt a] ip0 g0) (hk:∀g,EX gA g->OH (bI 9 1 [(.string ⟨#[]⟩)] g [(0,1,S (jG (aY ps) s (lt a)))]) λwL h_2=>OH (cg 9 1 16 h_2 out wL) λpe h_3=>ru Tryd.prog K (S s) t pe (I n) (I a) L h_3):
  cn [(.int .i64 (0))] g0 λL2 xs hx=>vK Tryd.prog K (S s) t out (pt ic 0) (I n) (I a) L L2 xs hx:=by
 have l6:letters 6 s:=u7 kb ls
 have meets:∀{g:ad} {x y:UInt8} {K2:Value->ad->Prop},EX gA g->x∈s->y∈s->K2 (B (!aY ps x y)) g->ay Tryd.prog 21 [t,cv x,cv y] g K2:=by
  intro g x y K2 xg hx hy hk2
  obtain ⟨c,hc,rfl⟩:=l6 x hx
  obtain ⟨d,hd,rfl⟩:=l6 y hy
  refine CQ (ht.mono xg) hc hd ?_
  rw [Gv ps (by omega) (by omega)]
  exact hk2
 refine ej (σ:=Nat×List UInt8×Nat×ad) (λq=>[I q.1]) (λq=>q.2.2.2) (λq=>q.1<=q.2.1.length/\dR (aY ps) s (lt a) q.2.1 q.1/\pK gA ic q.2.1 q.2.2.1 q.2.2.2) (λq=>7-q.1) (0,[lt a],ip0,g0) rfl rfl ⟨zero_le _,dR.start _ _ _,hm⟩ ?_
 rintro ⟨i,P,ip,g⟩ ⟨hi,hb,hm⟩ L2 hO
 simp only at hi hb hm hO⊢
 obtain ⟨lP,tP⟩:=hb.short hx l6
 obtain ⟨xg,m1,m2,m3,m4,m5⟩:=hm
 have lc:ax false 1 g (pt ic 0)=some (sl 5 ip 0 P.length):=mO (by simp [bd,m4])
 rw [KF]
 simp only [lc,aq,cK,sl,dH,cI]
 refine ⟨λhlt=>?_,λdc=>?_⟩
 rotate_left
 ·have nV:i=P.length:=by omega
  subst nV
  rw [KJ]
  have zo:=Ji l6
  refine CR (p:=P.contains) (is:=[ic,ip]) (by omega) zo (λb eT=>CS m4 m5 (by omega) (zo b eT) λ_=>rfl) ?_
  have ef:s.filter P.contains=jG (aY ps) s (lt a):=List.filter_congr λy _=>hb.full y
  rw [ef]
  exact hk g xg
 have fG:i<P.length:=by omega
 have GO:P[i]∈s:=uX hx (hb.kk _ (getElem_mem fG))
 have LM:eN (S s)=some (I s.length):=jE s
 simp only [LM,aq]
 refine ej (σ:=Nat×List UInt8×Nat×ad) (λq=>[I q.1]) (λq=>q.2.2.2) (λq=>q.1<=s.length/\dR (aY ps) s (lt a) q.2.1 i/\pK gA ic q.2.1 q.2.2.1 q.2.2.2/\i<q.2.1.length/\q.2.1[i]?=some P[i]/\∀y∈s.take q.1,aY ps P[i] y=false->y∈q.2.1)
  (λq=>s.length-q.1) (0,P,ip,g) rfl rfl ⟨zero_le _,hb,⟨xg,m1,m2,m3,m4,m5⟩,fG,by simp [fG],λy hy=>by simp at hy⟩ ?_
 rintro ⟨j,Q,iq,gq⟩ ⟨hj,bq,og,eW,heq,j6⟩ L3 nM
 simp only at hj bq og eW heq j6 nM⊢
 obtain ⟨lQ,GP⟩:=bq.short hx l6
 obtain ⟨xq,_,n2,n3,n4,n5⟩:=id og
 have u4:ax false 1 gq (pt ic 0)=some (sl 5 iq 0 Q.length):=mO (by simp [bd,n4])
 have nF:Q[i]=P[i]:=by rw [getElem?_eq_getElem eW] at heq;exact Option.some.inj heq
 rw [KG]
 simp only [dH,aq,cI]
 refine ⟨λhlt2=>?_,λzz=>?_⟩
 rotate_left
 ·have k9:j=s.length:=by omega
  subst k9
  rw [KI]
  rw [take_length] at j6
  simp only [dp,aq,dD i (by omega),true_and]
  exact hO (i+1,Q,iq,gq) ⟨eW,bq.next eW (by rw [nF];exact j6),og⟩ (by show 7-(i+1)<7-i;omega)
 have dL:j<s.length:=by omega
 have zN:s[j]∈s:=getElem_mem dL
 have kZ:du (S s) (I j)=some (cv s[j]):=ki _ dL .i64
 have Ed:bQ 1 (sl 5 iq 0 Q.length) (I i)=some (pt iq i):=pM eW
 have Ap:∀(k:Nat) (hk:k<Q.length),ax false 1 gq (pt iq k)=some (cv Q[k]):=λk hk=>by simp [ax,bd,n5,dv,hk]
 have htk:s.take (j+1)=s.take j++[s[j]]:=take_succ_eq_append_getElem dL
 have il:∀{R:List UInt8} {ir:Nat} {gr:ad},dR (aY ps) s (lt a) R i->pK gA ic R ir gr->i<R.length->R[i]?=some P[i]->(∀y∈Q,y∈R)->(aY ps P[i] s[j]=false->s[j]∈R)->lH Tryd.prog K (S s) t out (pt ic 0) (I i) (I n) (I a) (I s.length) (I j) L L2 L3 gr:=by
  intro R ir gr b1 b2 b3 b4 b5 b6
  rw [KH]
  simp only [dp,aq,dD j (by omega),true_and]
  refine nM (j+1,R,ir,gr) ⟨by show j+1<=_;omega,b1,b2,b3,b4,λy hy hf=>?_⟩ (by show s.length-(j+1)<s.length-j;omega)
  change y∈s.take (j+1) at hy
  rw [htk,mem_append,mem_singleton] at hy
  rcases hy with hy | rfl
  ·exact b5 y (j6 y hy hf)
  ·exact b6 hf
 simp only [u4,aq,true_and,Ed,Ap i eW,kZ,nF]
 refine meets xq GO zN ?_
 cases hf:aY ps P[i] s[j] with
 | true=>
  simp only [Bool.not_true,pj,iP,aq,fm]
  exact il bq og eW heq (λy hy=>hy) (λh0=>by rw [hf] at h0;cases h0)
 | false=>
  simp only [Bool.not_false,ky,u4,aq]
  refine wT (xs:=Q) rfl (λk hk=>⟨iq,k,pM hk,Ap k hk⟩) (by omega) ?_
  have en:eG .not (B (Q.contains s[j]))=some (B (!Q.contains s[j])):=rfl
  simp only [en,aq,jx]
  cases dB:Q.contains s[j] with
  | true=>
   simp only [Bool.not_true,fm]
   exact il bq og eW heq (λy hy=>hy) (λ_=>(contains_iff_mem).1 dB)
  | false=>
   have hY:s[j]∉Q:=λhc=>by rw [(contains_iff_mem).2 hc] at dB;cases dB
   simp only [Bool.not_false,fT,u4,aq]
   have own:cb gA.length gq 5 (sl 5 iq 0 Q.length) (Q.map cv):=.inr ⟨iq,n2,by rw [length_map],n5⟩
   have Je:(gq++[aA.arr 5 [cv s[j]]])[ic]?=some (.arr 40 [sl 5 iq 0 Q.length]):=(EX.append _ _).get n4
   have tn:bI 5 1 [(.int .u8 (0))] gq [(0,1,cv s[j])]=some (sl 5 gq.length 0 1,gq++[.arr 5 [cv s[j]]]):=rfl
   have key:=xH (bytes:=1) (x:=cv s[j]) (z:=.int .u8 0) (K:=λpd h_4=>OH (eO 1 h_4 (pt ic 0) pd) λ_ h_5=>lH Tryd.prog K (S s) t out (pt ic 0) (I i) (I n) (I a) (I s.length) (I j) L L2 L3 h_5) own (by rw [length_map];omega) (by rw [length_map];simp [maxLen];omega) rfl rfl ?_
   ·rw [tn] at key⊢
    simp only [cw] at key⊢
    refine ⟨⟨mO (by simp [bd,Je]),trivial⟩,?_⟩
    simpa only [true_and] using key
   ·intro h1 g' _ zG qM n0
    have qI:ic<gq.length:=(bw n4).1
    have AA:g'[ic]?=some (.arr 40 [sl 5 iq 0 Q.length]):=by
     rw [qM ic qI λk hv=>n3 (oZ hv).1.symm]
     exact n4
    have em:Q.map cv++[cv s[j]]=(Q++[s[j]]).map cv:=by simp
    rw [em] at n0
    simp only [cw,length_map]
    rw [rT AA (by simp) rfl rfl]
    simp only [cw]
    have HO:gA.length<=gq.length:=xq.1
    have Jh:Q.length+1=(Q++[s[j]]).length:=by simp
    have Md:EX gA g':=⟨by omega,λd hd=>by
     rw [qM d (by omega) λk hv=>by have:=(oZ hv).1;omega]
     exact xq.2 d hd⟩
    refine il (R:=Q++[s[j]]) (ir:=gq.length+1) (bq.push (by omega) hY (zX (hb.kk _ (getElem_mem fG)) zN hf)) ⟨Md.set m1 _,m1,by omega,by omega,?_,?_⟩ (by rw [length_append];omega) (by rw [getElem?_append_left eW];exact heq) (λy hy=>List.mem_append_left _ hy) (λ_=>by simp)
    ·rw [wk AA]
     show some (aA.arr 40 [sl 5 (gq.length+1) 0 (Q.length+1)])=_
     rw [Jh]
    ·rw [getElem?_set_ne (by omega)]
     exact n0
theorem C7 {ps:List (Int×Int)} {pv:Value} {s:List UInt8} {k:Int} {h:ad} (hp:PS h pv ps) (hl:ps.length<=100) (hs:s.length<=1000)
  (aH:eJ k ps [s] 40≠0->∀h',EX h h'->K (.tuple #[.slice none 0 0,I (eJ k ps [s] 40)]) h')
  (dC:eJ k ps [s] 40=0->∀v h',EX h h'->SS h' v (bS (aY ps) s 6)->K (.tuple #[v,I 0]) h'):ay Tryd.prog 7 [I k,pv,S s] h K:=by
 refine f7 ?_
 simp only [T7,Az,cw]
 have hx:EX h (h++[.arr 9 [S s]]):=EX.append _ _
 have lp:SS (h++[.arr 9 [S s]]) (sl 9 h.length 0 1) [s]:=SS.sl (ls:=[s]) (by simp [bd])
 refine CO (most:=40) (hp.mono hx) hl lp (by simp) (by simpa using hs) (λhw=>?_) (λhw=>?_)
 ·simp only [mi,mS,mT,aq,pR,eA hw,Bool.not_false,fT]
  exact aH hw _ hx
 obtain ⟨qO,uw⟩:=CF hw
 obtain ⟨n,rfl,hn1,kb⟩:=wv qO
 obtain ⟨ur,j3⟩:=Cu uw s (by simp)
 have ls:=Ar j3
 have l6:=u7 kb ls
 generalize zB:h++[aA.arr 9 [S s]]=h1 at*
 simp only [mi,mS,mT,aq,pR,decide_true,Bool.not_true,fm]
 have x2:EX h1 (h1++[.arr 78 (bu n (cy ps))]):=EX.append _ _
 have ht:TH (h1++[.arr 78 (bu n (cy ps))]) (pt h1.length 0) n (cy ps):=⟨h1.length,rfl,by simp [bd]⟩
 generalize pt h1.length 0=t at ht⊢
 generalize h1++[aA.arr 78 (bu n (cy ps))]=h2 at x2 ht⊢
 refine ej (σ:=Nat×Value×ad) (λq=>[q.2.1,I q.1]) (λq=>q.2.2) (λq=>q.1<=n/\EX h2 q.2.2/\cb h2.length q.2.2 9 q.2.1 ((bS (aY ps) s q.1).map S)) (λq=>n-q.1) (0,.slice none 0 0,h2) rfl rfl ⟨zero_le _,EX.refl _,.inl ⟨rfl,rfl⟩⟩ ?_
 rintro ⟨a,out,g⟩ ⟨ha,xg,ho⟩ L hL
 simp only at ha xg ho hL⊢
 rw [KD]
 simp only [dH,aq,cI]
 refine ⟨λhlt=>?_,λdc=>?_⟩
 rotate_left
 ·have tQ:a=n:=by omega
  subst tQ
  rw [KK]
  rw [<-JD ls (by omega) 6 kb (by omega)] at ho
  exact dC hw _ _ (hx.trans (x2.trans xg)) ho.ss
 have My:a<n:=by omega
 have mu:a<6:=by omega
 have w1:IntKind.wrap .u8 (a:Int)=(a:Int):=gT (by omega) (by omega)
 have w2:IntKind.wrap .u8 (97+(a:Int))=((97+a:Nat):Int):=by rw [gT (by omega) (by omega)];omega
 have Gc:(.int .u8 ((97+a:Nat):Int):Value)=cv (lt a):=by rw [qm (show a<100 by omega)]
 have Ga:∀g:ad,mJ 5 [(.int .u8 (0))] g=some (pt g.length 0,g++[.arr 5 [.int .u8 0]]):=λ_=>rfl
 simp only [nD,w1,aq,dp,w2,Ga,cw]
 rw [rT kN (by simp) rfl rfl,Gc]
 simp only [cw]
 have x3:EX g ((g++[aA.arr 5 [.int .u8 0]]).set g.length (.arr 5 ([Value.int .u8 0].set 0 (cv (lt a))))):=(EX.append _ _).set (le_refl _) _
 have k3:((g++[aA.arr 5 [.int .u8 0]]).set g.length (.arr 5 ([Value.int .u8 0].set 0 (cv (lt a)))))[g.length]?=some (.arr 5 [cv (lt a)]):=wk kN
 generalize MF:g.length=jc at k3 x3⊢
 generalize (g++[aA.arr 5 [.int .u8 0]]).set jc (.arr 5 ([Value.int .u8 0].set 0 (cv (lt a))))=g3 at x3 k3⊢
 have Am:ax false 1 g3 (pt jc 0)=some (cv (lt a)):=mO (by simp [bd,k3])
 simp only [Am,aq,Cd (show a<26 by omega)]
 refine wS ?_
 have en:eG .not (B (s.contains (lt a)))=some (B (!s.contains (lt a))):=rfl
 simp only [en,aq]
 rw [KE]
 have o3:cb h2.length g3 9 out ((bS (aY ps) s a).map S):=ho.jC λd m hv _=>x3.2 d (ho.lt hv).2.1
 have B1:=ry (aY ps) s a
 have stay:∀bN bB:Value,bJ bN (.bool true) bB=some (B true)->bS (aY ps) s (a+1)=bS (aY ps) s a->rr Tryd.prog K (S s) t out (pt jc 0) (I n) (I a) bN bB L g3:=by
  intro bN bB HI he
  rw [Cb,HI]
  simp only [aq,fT]
  rw [Cc]
  simp only [dp,aq,dD a (by omega),true_and]
  refine hL (a+1,out,g3) ⟨by show a+1<=n;omega,xg.trans x3,?_⟩ (by show n-(a+1)<n-a;omega)
  show cb h2.length g3 9 out ((bS (aY ps) s (a+1)).map S)
  rw [he]
  exact o3
 cases dB:s.contains (lt a) with
 | false=>
  have Hz:lt a∉s:=λhc=>by rw [(contains_iff_mem).2 hc] at dB;cases dB
  simp only [Bool.not_false,pk]
  refine stay _ _ rfl ?_
  simp only [bS]
  rw [if_neg λhc=>Hz hc.1]
 | true=>
  have dr:lt a∈s:=(contains_iff_mem).1 dB
  simp only [Bool.not_true,gW]
  refine CP o3.ss (by omega) (show a<26 by omega) (by simp [bd,k3]) ?_
  cases fV:(bS (aY ps) s a).any λp=>p.contains (lt a) with
  | true=>
   refine stay _ _ rfl ?_
   simp only [bS]
   rw [if_neg λhc=>by rw [fV] at hc;cases hc.2]
  | false=>
   have he:bS (aY ps) s (a+1)=bS (aY ps) s a++[jG (aY ps) s (lt a)]:=by
    simp only [bS]
    rw [if_pos ⟨dr,fV⟩]
   rw [Cb,(show bJ (B false) (.bool true) (B false)=some (B false) from rfl)]
   have tn:bI 5 1 [(.int .u8 (0))] g3 [(0,1,cv (lt a))]=some (sl 5 g3.length 0 1,g3++[.arr 5 [cv (lt a)]]):=rfl
   have Gb:∀g:ad,mJ 40 [(.slice none 0 0)] g=some (pt g.length 0,g++[.arr 40 [.slice none 0 0]]):=λ_=>rfl
   simp only [aq,fm,Am,tn,cw,Gb]
   rw [rT kN (by simp) rfl rfl]
   simp only [cw]
   have zG:(g3++[aA.arr 5 [cv (lt a)]]).length=g3.length+1:=by simp
   have k4:(g3++[aA.arr 5 [cv (lt a)]])[g3.length]?=some (.arr 5 [cv (lt a)]):=kN
   have x4:EX g3 (g3++[.arr 5 [cv (lt a)]]):=EX.append _ _
   generalize g3++[aA.arr 5 [cv (lt a)]]=g4 at zG k4 x4⊢
   have x5:EX g3 ((g4++[aA.arr 40 [.slice none 0 0]]).set g4.length (.arr 40 ([Value.slice none 0 0].set 0 (sl 5 g3.length 0 1)))):=(x4.trans (EX.append _ _)).set (by omega) _
   have k5:((g4++[aA.arr 40 [.slice none 0 0]]).set g4.length (.arr 40 ([Value.slice none 0 0].set 0 (sl 5 g3.length 0 1))))[g4.length]?=some (.arr 40 [sl 5 g3.length 0 1]):=wk kN
   have k6:((g4++[aA.arr 40 [.slice none 0 0]]).set g4.length (.arr 40 ([Value.slice none 0 0].set 0 (sl 5 g3.length 0 1))))[g3.length]?=some (.arr 5 [cv (lt a)]):=by
    rw [getElem?_set_ne (by omega)]
    exact (EX.append _ _).get k4
   refine CZ (ip0:=g3.length) kb ls ur (ht.mono (xg.trans x3)) dr ⟨x5,by omega,by omega,by omega,k5,k6⟩ ?_
   intro g6 x6
   have o6:cb h2.length g6 9 out ((bS (aY ps) s a).map S):=o3.jC λd m hv _=>x6.2 d (o3.lt hv).2.1
   refine sO (bytes:=16) o6 ((xg.trans x3).trans x6) (by rw [length_map];omega) (by rw [length_map];simp [maxLen];omega) rfl rfl ?_
   intro v' g7 x7 o7
   rw [Cc]
   simp only [dp,aq,dD a (by omega),true_and]
   refine hL (a+1,v',g7) ⟨by show a+1<=n;omega,x7,?_⟩ (by show n-(a+1)<n-a;omega)
   show cb h2.length g7 9 v' ((bS (aY ps) s (a+1)).map S)
   rw [he,List.map_append]
   exact o7
end
end
section
open Go.Sim
section
variable {K : Value -> ad -> Prop} {h : ad}
theorem ng {s:List UInt8} {x:UInt8} (hs:s.length<=1000) (hk:K (B (s.contains x)) h):ay Tryd.prog 31 [S s,cv x] h K:=by
 refine f31 ?_
 unfold sD
 refine ej (σ:=Nat) (λj=>[I j]) (λ_=>h) (λj=>j<=s.length/\(s.take j).contains x=false) (λj=>s.length-j) 0 rfl rfl ⟨zero_le _,rfl⟩ ?_
 rintro j ⟨hj,aH⟩ L hL
 rw [Kb]
 simp only [jE,aq,dH,cI]
 refine ⟨λhlt=>?_,λdc=>?_⟩
 ·have dL:j<s.length:=by omega
  have kZ:du (S s) (I j)=some (cv s[j]):=ki _ dL .i64
  simp only [kZ,aq,gC,cI]
  have htk:(s.take (j+1)).contains x=decide (x=s[j]):=by
   rw [take_succ_eq_append_getElem dL,List.contains_append,aH,Bool.false_or]
   simp
  refine ⟨λhe=>?_,λbc=>?_⟩
  ·have eC:s[j]=x:=(ql _ _).1 he
   rw [(contains_iff_mem).2 (eC ▸ getElem_mem dL:x∈s)] at hk
   exact hk
  ·have eC:x≠s[j]:=λe=>bc ((ql _ _).2 e.symm)
   simp only [dp,aq,dD j (by omega),true_and]
   exact hL (j+1) ⟨by omega,by rw [htk];exact eA eC⟩ (by omega)
 ·have k9:j=s.length:=by omega
  subst k9
  rw [take_length] at aH
  rw [aH] at hk
  exact hk
theorem xI (c:UInt8) (g:ad):bI 5 1 [(.int .u8 (0))] g [(0,1,cv c)]=some (sl 5 g.length 0 1,g++[.arr 5 [cv c]])/\fI (g++[.arr 5 [cv c]]) (sl 5 g.length 0 1)=some (S [c]):=
 ⟨rfl,by simp [fI,dj,sl,bd,List.mapM_cons,jR]⟩
theorem Au {a:Nat} (ha:a<100):(.int .u8 (97+(a:Int)):Value)=cv (lt a):=by
 rw [qm ha]
 rfl
theorem CM {ps:List (Int×Int)} {pv:Value} {s:List UInt8} {v x d:Value} {a:Nat} {g0:ad} {L:List Value->ad->Prop} (hp:PS h pv ps) (hg:qB ps) (hl:ps.length<=100) (ls:letters 6 s) (hs:s.length<=40) (hx:lt a∈s) (x0:EX h g0)
  (hk:∀P g,dR (aY ps) s (lt a) P P.length->EX g0 g->vo Tryd.prog K pv (S s) v d x (S P) L g):
  cn [S [lt a],(.int .i64 (0))] g0 λL2 xs hx=>vm Tryd.prog K pv (S s) v d x L L2 xs hx:=by
 refine ej (σ:=Nat×List UInt8×ad) (λq=>[S q.2.1,I q.1]) (λq=>q.2.2) (λq=>q.1<=q.2.1.length/\dR (aY ps) s (lt a) q.2.1 q.1/\EX g0 q.2.2) (λq=>7-q.1) (0,[lt a],g0) rfl rfl ⟨zero_le _,dR.start _ _ _,EX.refl _⟩ ?_
 rintro ⟨i,P,g⟩ ⟨hi,hb,xg⟩ L2 hO
 simp only at hi hb xg hO⊢
 obtain ⟨lP,tP⟩:=hb.short hx ls
 rw [JM]
 simp only [jE,aq,dH,cI]
 refine ⟨λhlt=>?_,λdc=>?_⟩
 rotate_left
 ·have nV:i=P.length:=by omega
  subst nV
  exact hk P g hb xg
 have fG:i<P.length:=by omega
 refine ej (σ:=Nat×List UInt8×ad) (λq=>[S q.2.1,.int .u8 (97+(q.1:Int))]) (λq=>q.2.2) (λq=>q.1<=6/\dR (aY ps) s (lt a) q.2.1 i/\EX g0 q.2.2/\i<q.2.1.length/\q.2.1[i]?=some P[i]/\∀c,c<q.1->lt c∈s->aY ps P[i] (lt c)=false->lt c∈q.2.1)
  (λq=>6-q.1) (0,P,g) rfl rfl ⟨zero_le _,hb,xg,fG,by simp [fG],λc hc=>absurd hc (Nat.not_lt_zero _)⟩ ?_
 rintro ⟨c,Q,gq⟩ ⟨hc,bq,xq,eW,heq,j6⟩ L3 nM
 simp only at hc bq xq eW heq j6 nM⊢
 obtain ⟨lQ,GP⟩:=bq.short hx ls
 have nF:Q[i]=P[i]:=by rw [getElem?_eq_getElem eW] at heq;exact Option.some.inj heq
 rw [JN]
 simp only [xJ,aq,cI]
 refine ⟨λhle=>?_,λkY=>?_⟩
 rotate_left
 ·have eC:c=6:=by omega
  subst eC
  rw [JQ]
  simp only [dp,aq,dD i (by omega),true_and]
  refine hO (i+1,Q,gq) ⟨eW,bq.next eW λy hy hf=>?_,xq⟩ (by show 7-(i+1)<7-i;omega)
  obtain ⟨c,hc6,rfl⟩:=ls y hy
  rw [nF] at hf
  exact j6 c hc6 hy hf
 have hc6:c<6:=by omega
 have wc:IntKind.wrap .u8 (97+(c:Int)+1)=97+((c+1:Nat):Int):=by rw [gT (by omega) (by omega)];omega
 have il:∀{R:List UInt8} {gr:ad},dR (aY ps) s (lt a) R i->EX g0 gr->i<R.length->R[i]?=some P[i]->(∀y∈Q,y∈R)->(lt c∈s->aY ps P[i] (lt c)=false->lt c∈R)->rn Tryd.prog K pv (S s) v d x (S R) (I i) (.int .u8 (97+(c:Int))) L L2 L3 gr:=by
  intro R gr b1 b2 b3 b4 b5 b6
  rw [JP]
  simp only [dp,aq,wc,true_and]
  refine nM (c+1,R,gr) ⟨by show c+1<=6;omega,b1,b2,b3,b4,λe he hm hf=>?_⟩ (by show 6-(c+1)<6-c;omega)
  by_cases G6:e=c
  ·rw [G6] at hm hf⊢;exact b6 hm hf
  ·exact b5 _ (j6 e (by change e<c+1 at he;omega) hm hf)
 have skip:∀(cX gz:Value),bJ cX gz (.bool false)=some (B false)->(lt c∈s->aY ps P[i] (lt c)=false->lt c∈Q)->rl Tryd.prog K pv (S s) v d x (S Q) (I i) (.int .u8 (97+(c:Int))) cX gz L L2 L3 gq:=by
  intro cX gz ht hh
  rw [B8,ht]
  simp only [aq,fm]
  exact il bq xq eW heq (λy hy=>hy) hh
 rw [Au (show c<100 by omega)] at il skip⊢
 refine ng (by omega) ?_
 rw [JO]
 cases eY:s.contains (lt c) with
 | false=>
  have aH:lt c∉s:=λhh=>by rw [(contains_iff_mem).2 hh] at eY;cases eY
  simp only [pj]
  rw [B6]
  simp only [iP,aq]
  rw [B7]
  simp only [pj]
  exact skip _ _ rfl λhm _=>absurd hm aH
 | true=>
  have Hw:lt c∈s:=(contains_iff_mem).1 eY
  simp only [ky]
  refine ng (by omega) ?_
  have en:eG .not (B (Q.contains (lt c)))=some (B (!Q.contains (lt c))):=rfl
  simp only [en,aq]
  rw [B6]
  simp only [jx,aq]
  rw [B7]
  cases um:Q.contains (lt c) with
  | true=>
   simp only [Bool.not_true,pj]
   exact skip _ _ rfl λ_ _=>(contains_iff_mem).1 um
  | false=>
   have HA:lt c∉Q:=λhh=>by rw [(contains_iff_mem).2 hh] at um;cases um
   have kZ:du (S Q) (I i)=some (cv Q[i]):=ki _ eW .i64
   simp only [Bool.not_false,ky,kZ,aq,nF]
   refine CV (hp.mono (x0.trans xq)) hg hl ?_
   cases hf:aY ps P[i] (lt c) with
   | true=>
    simp only [lO,Bool.not_true,aq]
    exact skip _ _ rfl λ_ h0=>by rw [hf] at h0;cases h0
   | false=>
    simp only [lO,Bool.not_false,aq]
    rw [B8]
    obtain ⟨m1,m2⟩:=xI (lt c) gq
    have nP:Q.length+[lt c].length<=maxLen:=by simp [maxLen];omega
    simp only [jx,aq,fT,m1,cw,m2,sP _ _ nP]
    have dB:jA (aY ps) s (lt a) (lt c):=zX (hb.kk _ (getElem_mem fG)) Hw hf
    exact il (bq.push (by omega) HA dB) (xq.trans (EX.append _ _)) (by rw [length_append];omega) (by rw [getElem?_append_left eW];exact heq) (λy hy=>List.mem_append_left _ hy) λ_ _=>by simp
theorem CN {pv:Value} {s P:List UInt8} {v x d:Value} {g0:ad} {L:List Value->ad->Prop} (hs:s.length<=40) (hP:P.length<=6) (hk:vq Tryd.prog K pv (S s) v d x (S (s.filter P.contains)) L g0):
  cn [(.string ⟨#[]⟩),(.int .i64 (0))] g0 λL2 xs hx=>vp Tryd.prog K pv (S s) v d x (S P) L L2 xs hx:=by
 refine ej (σ:=Nat) (λi=>[S ((s.take i).filter P.contains),I i]) (λ_=>g0) (λi=>i<=s.length) (λi=>s.length-i) 0 rfl rfl (zero_le _) ?_
 intro i hi L2 hO
 rw [JS]
 simp only [jE,aq,dH,cI]
 refine ⟨λhlt=>?_,λdc=>?_⟩
 ·have fG:i<s.length:=by omega
  have kZ:du (S s) (I i)=some (cv s[i]):=ki _ fG .i64
  have htk:s.take (i+1)=s.take i++[s[i]]:=take_succ_eq_append_getElem fG
  simp only [kZ,aq]
  refine ng (by omega) ?_
  have go:rp Tryd.prog K pv (S s) v d x (S P) (S ((s.take (i+1)).filter P.contains)) (I i) L L2 g0:=by
   rw [JT]
   simp only [dp,aq,dD i (by omega),true_and]
   exact hO (i+1) (by show i+1<=_;omega) (by show s.length-(i+1)<s.length-i;omega)
  rw [htk,List.filter_append] at go
  cases hc:P.contains s[i] with
  | true=>
   have e1:[s[i]].filter P.contains=[s[i]]:=by rw [List.filter_cons_of_pos hc];rfl
   rw [e1] at go
   have Gk:iQ (S s) (some (I i)) (some (I ((i+1:Nat):Int)))=some (S [s[i]]):=by
    have h1:((s.take (i+1)).drop i)=[s[i]]:=by
     rw [htk,List.drop_append_of_le_length (by rw [length_take];omega),List.drop_of_length_le (by rw [length_take];omega)]
     rfl
    have h2:=LL s (show i<=i+1 by omega) (show i+1<=s.length by omega) .i64 .i64
    rw [h1] at h2
    exact h2
   have gH:((s.take i).filter P.contains).length<=s.length:=Nat.le_trans (List.length_filter_le _ _) (by rw [length_take];omega)
   have nP:((s.take i).filter P.contains).length+[s[i]].length<=maxLen:=by simp only [length_cons,List.length_nil];simp [maxLen];omega
   simp only [fT,dp,aq,dD i (by omega),Gk,sP _ _ nP]
   exact go
  | false=>
   have e1:[s[i]].filter P.contains=[]:=by rw [List.filter_cons_of_neg (by rw [hc];decide)];rfl
   rw [e1,List.append_nil] at go
   simp only [fm]
   exact go
 ·have nV:i=s.length:=by omega
  subst nV
  rw [take_length]
  exact hk
theorem CL {ps:List (Int×Int)} {pv:Value} {s:List UInt8} (hp:PS h pv ps) (hg:qB ps) (hl:ps.length<=100) (ls:letters 6 s) (hs:s.length<=40) (hk:∀v h',EX h h'->SS h' v (bS (aY ps) s 6)->K v h'):ay Tryd.prog 11 [pv,S s] h K:=by
 refine f11 ?_
 have e0:bI 9 0 [(.string ⟨#[]⟩)] h []=some (sl 9 h.length 0 0,h++[.arr 9 []]):=rfl
 simp only [su,e0,cw]
 have x1:EX h (h++[.arr 9 []]):=EX.append _ _
 have o1:cb h.length (h++[aA.arr 9 []]) 9 (sl 9 h.length 0 0) []:=.inr ⟨h.length,le_refl _,rfl,kN⟩
 generalize sl 9 h.length 0 0=v0 at o1⊢
 generalize h++[aA.arr 9 []]=h1 at x1 o1⊢
 refine ej (σ:=Nat×Value×List UInt8×ad) (λq=>[q.2.1,S q.2.2.1,.int .u8 (97+(q.1:Int))]) (λq=>q.2.2.2)
  (λq=>q.1<=6/\EX h q.2.2.2/\cb h.length q.2.2.2 9 q.2.1 ((bS (aY ps) s q.1).map S)/\q.2.2.1.length<=6*q.1/\∀y,q.2.2.1.contains y=(bS (aY ps) s q.1).any λp=>p.contains y) (λq=>6-q.1) (0,v0,[],h1) rfl rfl
  ⟨zero_le _,x1,o1,le_refl _,λ_=>rfl⟩ ?_
 rintro ⟨a,out,d,g⟩ ⟨ha,xg,ho,tU,hd⟩ L hL
 simp only at ha xg ho tU hd hL⊢
 rw [JX]
 simp only [xJ,aq,cI]
 refine ⟨λhle=>?_,λkY=>?_⟩
 rotate_left
 ·have tQ:a=6:=by omega
  subst tQ
  rw [JW]
  exact hk _ _ xg ho.ss
 have mu:a<6:=by omega
 have wc:IntKind.wrap .u8 (97+(a:Int)+1)=97+((a+1:Nat):Int):=by rw [gT (by omega) (by omega)];omega
 have il:∀{v':Value} {d':List UInt8} {g':ad},EX h g'->cb h.length g' 9 v' ((bS (aY ps) s (a+1)).map S)->d'.length<=6*(a+1)->(∀y,d'.contains y=(bS (aY ps) s (a+1)).any λp=>p.contains y)->rq Tryd.prog K pv (S s) v' (S d') (.int .u8 (97+(a:Int))) L g':=by
  intro v' d' g' a1 a2 a3 a4
  rw [JV]
  simp only [dp,aq,wc,true_and]
  exact hL (a+1,v',d',g') ⟨by show a+1<=6;omega,a1,a2,a3,a4⟩ (by show 6-(a+1)<6-a;omega)
 rw [Au (show a<100 by omega)] at il⊢
 have stay:∀bA bf:Value,bJ bA (.bool true) bf=some (B true)->bS (aY ps) s (a+1)=bS (aY ps) s a->rk Tryd.prog K pv (S s) out (S d) (cv (lt a)) bA bf L g:=by
  intro bA bf ht he
  rw [B5,ht]
  simp only [aq,fT]
  exact il xg (by rw [he];exact ho) (by omega) (by rw [he];exact hd)
 refine ng (by omega) ?_
 have en:eG .not (B (s.contains (lt a)))=some (B (!s.contains (lt a))):=rfl
 simp only [en,aq]
 rw [JL]
 cases dB:s.contains (lt a) with
 | false=>
  have aH:lt a∉s:=λhh=>by rw [(contains_iff_mem).2 hh] at dB;cases dB
  simp only [Bool.not_false,pk]
  refine stay _ _ rfl ?_
  simp only [bS]
  rw [if_neg λhc=>aH hc.1]
 | true=>
  have dr:lt a∈s:=(contains_iff_mem).1 dB
  simp only [Bool.not_true,gW]
  refine ng (by omega) ?_
  rw [hd]
  cases fV:(bS (aY ps) s a).any λp=>p.contains (lt a) with
  | true=>
   refine stay _ _ rfl ?_
   simp only [bS]
   rw [if_neg λhc=>by rw [fV] at hc;cases hc.2]
  | false=>
   have he:bS (aY ps) s (a+1)=bS (aY ps) s a++[jG (aY ps) s (lt a)]:=by
    simp only [bS]
    rw [if_pos ⟨dr,fV⟩]
   have B1:=ry (aY ps) s a
   rw [B5,(show bJ (B false) (.bool true) (B false)=some (B false) from rfl)]
   obtain ⟨m1,m2⟩:=xI (lt a) g
   simp only [aq,fm,m1,cw,m2]
   have x2:EX g (g++[.arr 5 [cv (lt a)]]):=EX.append _ _
   refine CM hp hg hl ls hs dr (xg.trans x2) ?_
   intro P g3 hb x3
   obtain ⟨lP,tP⟩:=hb.short dr ls
   rw [JR]
   have nP:d.length+P.length<=maxLen:=by simp [maxLen];omega
   simp only [sP _ _ nP,aq]
   refine CN hs tP ?_
   rw [JU]
   have ef:s.filter P.contains=jG (aY ps) s (lt a):=List.filter_congr λy _=>hb.full y
   rw [ef]
   have bm:=x2.trans x3
   have o3:cb h.length g3 9 out ((bS (aY ps) s a).map S):=ho.jC λe m hv _=>bm.2 e (ho.lt hv).2.1
   refine sO (bytes:=16) o3 (xg.trans bm) (by rw [length_map];omega) (by rw [length_map];simp [maxLen];omega) rfl rfl ?_
   intro v' g4 x4 o4
   refine il x4 ?_ (by rw [length_append];omega) λy=>?_
   ·rw [he,List.map_append]
    exact o4
   ·rw [he,List.contains_append,any_append,hd]
    congr 1
    have e1:[jG (aY ps) s (lt a)].any (λp=>p.contains y)=(jG (aY ps) s (lt a)).contains y:=by simp
    rw [e1,Bool.eq_iff_iff,contains_iff_mem,contains_iff_mem]
    unfold jG
    rw [List.mem_filter,<-hb.full y,contains_iff_mem]
    exact ⟨λhy=>⟨uX dr (hb.kk y hy),hy⟩,λhy=>hy.2⟩
end
end
end Go.Proofs.YtlpdhfdpnakgdaaDoor
