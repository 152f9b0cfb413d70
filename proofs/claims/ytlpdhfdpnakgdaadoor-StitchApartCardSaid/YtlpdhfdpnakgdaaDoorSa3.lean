/-
  Part 3 of the texts behind a statement of this seat: SdA, DCt1, DCt2, DCt3, DCt4, DCt5, DCt6, SdK, SdK2, SdB, Pt1, Sim30, Pt2, Mpa, Mpb, SdL, DCtU, Pt3, Sp2, Sp3, Pt6, DCt9, Pt7, DCt17.
-/
import Derived.Test.YtlpdhfdpnakgdaaDoorProg
import Derived.KernelRfl
import Derived.Test.YtlpdhfdpnakgdaaDoorCards
import Derived.Test.YtlpdhfdpnakgdaaDoorTie
import Derived.LaidMore
import Derived.Lay
import Derived.SevenTiedAt
import Derived.Stop.Joined
import Derived.Shelf.Strings.MapGrows
import Derived.Test.YtlpdhfdpnakgdaaDoorSa2
open List (any_append any_cons any_eq_false any_eq_true contains_iff_mem filter_cons_of_neg filter_cons_of_pos foldlM getElem?_append_left getElem?_append_right getElem?_eq_getElem getElem?_set_ne getElem_mem length_append length_cons length_eq_zero_iff length_map length_take mem_append mem_filter mem_singleton take_length take_succ_eq_append_getElem)
open Nat (add_zero le_refl zero_add zero_le)
open Option (bind_some)
namespace Go.Proofs.YtlpdhfdpnakgdaaDoor
open Go.Sim
section
variable (P : Program) (K : VK)
noncomputable section
variable (c0 c1 k4 p5 x6 i7 j8 : Value) (L1 L2 : LQ) (xs : List Value) (h : ad)
def Cg:=cH Tryd.prog 12 [[],[],[],[1,4],[5,6,7],[],[],[],[1,4,7],[5,6,8],[],[],[],[1,4,5,6,7,8],[1,4,5,6,7,8],[1,4,5,6,7],[4,5],[]]
@[irreducible] def qI:=dy Cg
@[irreducible] def uc:=qI.r.r.l.r.l.l
@[irreducible] def zq:=qI.r.r.r
@[irreducible] def ub:=uc.r.l.l.r.l.l
@[irreducible] def zr:=uc.r.r
@[irreducible] def Gf:=zq.l
@[irreducible] def Gc:=ub.r.l.l.r.l
@[irreducible] def zp:=ub.r.r
@[irreducible] def Ge:=zr.l
@[irreducible] def Gd:=zp.l
theorem KE:Cg=some (43,qI,[.tmp 2,.tmp 3]):=by kernel_rfl
def tn (_P:Program) (K:VK):ax:=bD [.tmp 2,.tmp 3] K
def EV:ax:=aJ (ar P zq (tn P K)) (tn P K)
def EW:ax:=bO 0 (EV P K)
def qn:ax:=aJ (λf' aS=>(([1,4]:List Nat).map f':List Value)=[c1,k4]/\L1 (([5,6,7]:List Nat).map f') aS) (EW P K)
def EY:ax:=aJ (ar P zr (qn P K c1 k4 L1)) (qn P K c1 k4 L1)
def ER:ax:=bO 1 (EY P K c1 k4 L1)
def ES:ax:=bO 2 (ER P K c1 k4 L1)
def qm:ax:=aJ (λf' aS=>(([1,4,7]:List Nat).map f':List Value)=[c1,k4,i7]/\L2 (([5,6,8]:List Nat).map f') aS) (ES P K c1 k4 L1)
def ET:ax:=aJ (ar P zp (qm P K c1 k4 i7 L1 L2)) (qm P K c1 k4 i7 L1 L2)
def EU:ax:=bO 3 (ET P K c1 k4 i7 L1 L2)
def CL:Prop:=aF (ar P uc (qn P K c1 k4 L1)) ([1,4]++[5,6,7]) ([c1,k4]++xs) h
def CH:Prop:=aF (ar P ub (qm P K c1 k4 i7 L1 L2)) ([1,4,7]++[5,6,8]) ([c1,k4,i7]++xs) h
def so:Prop:=aF (ar P Gc (EU P K c1 k4 i7 L1 L2)) [1,4,5,6,7,8] [c1,k4,p5,x6,i7,j8] h
def CI:Prop:=aF (ar P Gd (qm P K c1 k4 i7 L1 L2)) [1,4,5,6,7,8] [c1,k4,p5,x6,i7,j8] h
def CJ:Prop:=aF (ar P Ge (qn P K c1 k4 L1)) [1,4,5,6,7] [c1,k4,p5,x6,i7] h
def CK:Prop:=aF (ar P Gf (tn P K)) [4,5] [k4,p5] h
theorem LO:so P K c1 k4 p5 x6 i7 j8 L1 L2 h=
 (OP (au .add x6 (.int .i64 (1))) λku=>
 CI P K c1 k4 p5 ku i7 j8 L1 L2 h):=aI (by kernel_rfl)
theorem LP:CI P K c1 k4 p5 x6 i7 j8 L1 L2 h=
 (OP (au .add j8 (.int .i64 (1))) λdj=>
 ([c1,k4,i7]:List Value)=[c1,k4,i7]/\L2 [p5,x6,dj] h):=aI (by kernel_rfl)
theorem LN (c1 k4 i7:Value) (L1 L2:LQ) (p5 x6 j8:Value) (h:ad):CH P K c1 k4 i7 L1 L2 [p5,x6,j8] h=
 (OP (au .lss j8 k4) λbg=>
 bd bg
 (OP (dR 1 c1) λaE=>
 OP (aw false 1 h aE) λaZ=>
 OP (au .shr aZ x6) λfz=>
 OP (au .and fz (.int .u16 (1))) λlk=>
 OP (au .eql lk (.int .u16 (1))) λil=>
 bd il
 (OP (jx [(.int .i64 (0)),(.int .i64 (0))] [(0,1,j8),(1,1,i7)]) λaR=>
 OH (bR 62 1 [(.int .i64 (0)),(.int .i64 (0))] h [(0,2,aR)]) λbk z1=>
 OH (cO 62 2 16 z1 p5 bk) λbS z2=>
 so P K c1 k4 bS x6 i7 j8 L1 L2 z2)
 (so P K c1 k4 p5 x6 i7 j8 L1 L2 h))
 (CJ P K c1 k4 p5 x6 i7 L1 h)):=aI (by kernel_rfl)
theorem LR:CJ P K c1 k4 p5 x6 i7 L1 h=
 (OP (au .add i7 (.int .i64 (1))) λdC=>
 ([c1,k4]:List Value)=[c1,k4]/\L1 [p5,x6,dC] h):=aI (by kernel_rfl)
theorem LU (c1 k4:Value) (L1:LQ) (p5 x6 i7:Value) (h:ad):CL P K c1 k4 L1 [p5,x6,i7] h=
 (OP (au .lss i7 k4) λgv=>
 bd gv
 (OP (au .add i7 (.int .i64 (1))) λgw=>
 cE [p5,x6,gw] h λL2 xs hx=>
 CH P K c1 k4 i7 L1 L2 xs hx)
 (CK P K k4 p5 h)):=aI (by kernel_rfl)
theorem LS:CK P K k4 p5 h=
 (K (.tuple #[k4,p5]) h):=aI (by kernel_rfl)
def tF:Prop:=
 OH (kc 39 h c0) λc1 z1=>
 OP (dR 0 c1) λx9=>
 OP (aw false 1 z1 x9) λaB=>
 OP (iO .i64 aB) λdi=>
 OP (au .rem di (.int .i64 (6))) λcZ=>
 OP (au .add cZ (.int .i64 (1))) λaN=>
 OH (bR 62 0 [(.int .i64 (0)),(.int .i64 (0))] z1 []) λaY z2=>
 cE [aY,(.int .i64 (0)),(.int .i64 (0))] z2 λL1 xs hx=>
 CL P K c1 aN L1 xs hx
theorem Hq:ar P qI (bD [.tmp 2,.tmp 3] K) (cj [c0]) h=tF P K c0 h:=by kernel_rfl
theorem f12 {K:VK} {c0:Value} {h:ad} (H:tF Tryd.prog K c0 h):az Tryd.prog 12 [c0] h K:=
 dn KE (dB rfl) ((Hq Tryd.prog K c0 h).mpr H)
end
noncomputable section
variable (k0 l1 x2 s7 i8 aN eQ : Value) (L1 : LQ) (xs : List Value) (h : ad)
def Ch:=cH Tryd.prog 13 [[],[],[],[0,1,2],[7,8],[0,1,2,7,8,13],[0,1,2,7,8,13,16],[],[],[],[7],[]]
@[irreducible] def qJ:=dy Ch
@[irreducible] def qK:=qJ.r.r.l.r.l.l
@[irreducible] def zu:=qJ.r.r.r
@[irreducible] def zt:=qK.l.l.r.l
@[irreducible] def Gj:=qK.l.r
@[irreducible] def Gi:=qK.r
@[irreducible] def Gh:=zu.l
@[irreducible] def Gg:=zt.r.l
theorem KF:Ch=some (39,qJ,[.tmp 6]):=by kernel_rfl
def tp (_P:Program) (K:VK):ax:=bD [.tmp 6] K
def EZ:ax:=aJ (ar P zu (tp P K)) (tp P K)
def E0:ax:=bO 0 (EZ P K)
def tq:ax:=aJ (λf' aS=>(([0,1,2]:List Nat).map f':List Value)=[k0,l1,x2]/\L1 (([7,8]:List Nat).map f') aS) (E0 P K)
def yJ:ax:=aJ (ar P Gi (tq P K k0 l1 x2 L1)) (tq P K k0 l1 x2 L1)
def yK:ax:=aJ (ar P Gj (yJ P K k0 l1 x2 L1)) (yJ P K k0 l1 x2 L1)
def CN:Prop:=aF (ar P qK (tq P K k0 l1 x2 L1)) ([0,1,2]++[7,8]) ([k0,l1,x2]++xs) h
def CM:Prop:=aF (ar P zt (yK P K k0 l1 x2 L1)) [0,1,2,7,8,13] [k0,l1,x2,s7,i8,aN] h
def wV:Prop:=aF (ar P Gg (yK P K k0 l1 x2 L1)) [0,1,2,7,8,13,16] [k0,l1,x2,s7,i8,aN,eQ] h
def wX:Prop:=aF (ar P Gh (tp P K)) [7] [s7] h
theorem DM:wV P K k0 l1 x2 s7 i8 aN eQ L1 h=
 (OP (dH aN eQ (.bool false)) λgv=>
 bd gv
 (OP (cd 1 l1 i8) λaX=>
 OP (aw false 1 h aX) λbg=>
 (True)/\
 OP (iO .i64 bg) λbZ=>
 OP (au .rem bZ k0) λaE=>
 OP (cd 1 l1 i8) λfz=>
 OP (aw false 1 h fz) λlk=>
 (True)/\
 OP (iO .i64 lk) λil=>
 OP (au .rem il k0) λje=>
 OP (au .add je (.int .i64 (1))) λeC=>
 OP (gj (.string ⟨#[97,98,99,100,101,102]⟩) (some aE) (some eC)) λaR=>
 OP (au .add s7 aR) λbk=>
 OP (au .add i8 (.int .i64 (1))) λdC=>
 ([k0,l1,x2]:List Value)=[k0,l1,x2]/\L1 [bk,dC] h)
 (wX P K s7 h)):=aI (by kernel_rfl)
theorem LV:CM P K k0 l1 x2 s7 i8 aN L1 h=
 (c8 aN true
 (OP (au .lss i8 x2) λeQ=>
 wV P K k0 l1 x2 s7 i8 aN eQ L1 h)
 (wV P K k0 l1 x2 s7 i8 aN undef L1 h)):=aI (by kernel_rfl)
theorem LX (k0 l1 x2:Value) (L1:LQ) (s7 i8:Value) (h:ad):CN P K k0 l1 x2 L1 [s7,i8] h=
 (OP (eK l1) λdi=>
 OP (au .lss i8 di) λcZ=>
 CM P K k0 l1 x2 s7 i8 cZ L1 h):=aI (by kernel_rfl)
theorem LW:wX P K s7 h=
 (K s7 h):=aI (by kernel_rfl)
def y8:Prop:=
 cE [(.string ⟨#[]⟩),(.int .i64 (0))] h λL1 xs hx=>
 CN P K k0 l1 x2 L1 xs hx
theorem Hr:ar P qJ (bD [.tmp 6] K) (cj [k0,l1,x2]) h=y8 P K k0 l1 x2 h:=by kernel_rfl
theorem f13 {K:VK} {k0 l1 x2:Value} {h:ad} (H:y8 Tryd.prog K k0 l1 x2 h):az Tryd.prog 13 [k0,l1,x2] h K:=
 dn KF (dB rfl) ((Hr Tryd.prog K k0 l1 x2 h).mpr H)
end
noncomputable section
variable (k0 x1 s2 u3 : Value) (h : ad)
def Ci:=cH Tryd.prog 14 [[],[],[],[],[],[]]
@[irreducible] def zv:=dy Ci
theorem KG:Ci=some (31,zv,[.tmp 8,.tmp 9]):=by kernel_rfl
def tG:Prop:=
 OH (bR 9 2 [(.string ⟨#[]⟩)] h [(0,1,s2),(1,1,u3)]) λgv z1=>
 az P 17 [k0,x1,(.int .i64 (40)),gv] z1 λfH z2=>
 OP (dx 0 fH) λdC=>
 OP (dx 1 fH) λik=>
 OP (au .neq ik (.int .i64 (0))) λbY=>
 bd bY
 (K (.tuple #[(.bool false),ik]) z2)
 (az P 33 [dC,s2] z2 λdj z3=>
 az P 33 [dC,u3] z3 λfY z4=>
 OP (au .eql dj fY) λfz=>
 K (.tuple #[fz,(.int .i64 (0))]) z4)
theorem Hs:ar P zv (bD [.tmp 8,.tmp 9] K) (cj [k0,x1,s2,u3]) h=tG P K k0 x1 s2 u3 h:=by kernel_rfl
theorem f14 {K:VK} {k0 x1 s2 u3:Value} {h:ad} (H:tG Tryd.prog K k0 x1 s2 u3 h):az Tryd.prog 14 [k0,x1,s2,u3] h K:=
 dn KG (dB rfl) ((Hs Tryd.prog K k0 x1 s2 u3 h).mpr H)
end
noncomputable section
variable (l0 s3 i4 : Value) (L1 : LQ) (xs : List Value) (h : ad)
def Cj:=cH Tryd.prog 15 [[],[],[],[0],[3,4],[],[],[],[3],[]]
@[irreducible] def qL:=dy Cj
@[irreducible] def Gl:=qL.r.r.l.r.l.l
@[irreducible] def zw:=qL.r.r.r
@[irreducible] def Gk:=zw.l
theorem KH:Cj=some (18,qL,[.tmp 2]):=by kernel_rfl
def tu (_P:Program) (K:VK):ax:=bD [.tmp 2] K
def E1:ax:=aJ (ar P zw (tu P K)) (tu P K)
def E2:ax:=bO 0 (E1 P K)
def E3:ax:=aJ (λf' aS=>(([0]:List Nat).map f':List Value)=[l0]/\L1 (([3,4]:List Nat).map f') aS) (E2 P K)
def CP:Prop:=aF (ar P Gl (E3 P K l0 L1)) ([0]++[3,4]) ([l0]++xs) h
def CO:Prop:=aF (ar P Gk (tu P K)) [3] [s3] h
theorem LZ (l0:Value) (L1:LQ) (s3 i4:Value) (h:ad):CP P K l0 L1 [s3,i4] h=
 (OP (eK l0) λx7=>
 OP (au .lss i4 x7) λx8=>
 bd x8
 (OP (cd 1 l0 i4) λaY=>
 OP (aw false 1 h aY) λaM=>
 OP (au .add s3 aM) λeQ=>
 OP (au .add i4 (.int .i64 (1))) λaB=>
 ([l0]:List Value)=[l0]/\L1 [eQ,aB] h)
 (CO P K s3 h)):=aI (by kernel_rfl)
theorem LY:CO P K s3 h=
 (K s3 h):=aI (by kernel_rfl)
def y9:Prop:=
 cE [(.string ⟨#[]⟩),(.int .i64 (0))] h λL1 xs hx=>
 CP P K l0 L1 xs hx
theorem Ht:ar P qL (bD [.tmp 2] K) (cj [l0]) h=y9 P K l0 h:=by kernel_rfl
theorem f15 {K:VK} {l0:Value} {h:ad} (H:y9 Tryd.prog K l0 h):az Tryd.prog 15 [l0] h K:=
 dn KH (dB rfl) ((Ht Tryd.prog K l0 h).mpr H)
end
noncomputable section
variable (k0 x1 s2 : Value) (h : ad)
def Ck:=cH Tryd.prog 16 [[],[],[],[],[],[],[],[],[]]
@[irreducible] def zx:=dy Ck
theorem KI:Ck=some (31,zx,[.tmp 6,.tmp 7]):=by kernel_rfl
def tH:Prop:=
 OH (bR 9 1 [(.string ⟨#[]⟩)] h [(0,1,s2)]) λeQ z1=>
 az P 17 [k0,x1,(.int .i64 (16)),eQ] z1 λgv z2=>
 OP (dx 0 gv) λfH=>
 OP (dx 1 gv) λdC=>
 OH (jw 48 [(.pointer none)] z2) λt8 z3=>
 OH (dJ 1 z3 t8 fH) λ_ z4=>
 OP (au .neq dC (.int .i64 (0))) λgw=>
 bd gw
 (K (.tuple #[(.int .i64 (0)),dC]) z4)
 (OH (By z4) λaX z5=>
 OH (nQ z5 aX (.string ⟨#[]⟩) (.int .i64 (1))) λ_ z6=>
 OH (jw 72 [(.map none)] z6) λaB z7=>
 OH (dJ 1 z7 aB aX) λ_ z8=>
 OH (jw 73 [.nilFunc] z8) λdi z9=>
 OH (dJ 1 z9 di (.func (.func 34) #[] #[aB,t8,di])) λ_ yn=>
 OP (aw false 1 yn di) λdj=>
 (True)/\
 OP (aw false 1 yn t8) λaE=>
 (True)/\
 az P 33 [aE,s2] yn λfY Eu=>
 (aw false 1 Eu di=some dj/\True)/\
 jK P dj [fY] Eu λfz z12=>
 (True)/\
 K (.tuple #[fz,(.int .i64 (0))]) z12)
theorem Hu:ar P zx (bD [.tmp 6,.tmp 7] K) (cj [k0,x1,s2]) h=tH P K k0 x1 s2 h:=by kernel_rfl
theorem f16 {K:VK} {k0 x1 s2:Value} {h:ad} (H:tH Tryd.prog K k0 x1 s2 h):az Tryd.prog 16 [k0,x1,s2] h K:=
 dn KI (dB rfl) ((Hu Tryd.prog K k0 x1 s2 h).mpr H)
end
noncomputable section
variable (k0 x1 x2 l3 t10 dK i16 bZ dj aE aR bk bS cf c6 im jH : Value) (L1 L2 : LQ) (xs : List Value) (h : ad)
def Cl:=cH Tryd.prog 17 [[],[],[],[],[],[],[0,2,3,10,25,26],[27],[],[],[],[],[],[],[0,3,10],[],[0,10,36,37],[38],[],[],[],[],[0,10,15,36,37,38,43],[44],[],[],[],[0,10,15,16,36,37,38,43,44,51],[0,10,15,36,37,38,43,44,51,58],[],[],[],[0,10,36,37,38],[10],[]]
@[irreducible] def jh:=dy Cl
@[irreducible] def Gs:=jh.r.r.r.l.r.l.l
@[irreducible] def zB:=jh.r.r.r.r
@[irreducible] def ud:=zB.l
@[irreducible] def ue:=ud.l.r.l.l
@[irreducible] def zy:=ud.r
@[irreducible] def qM:=ue.r.r.l.l.r.r.l.l
@[irreducible] def zz:=ue.r.r.r
@[irreducible] def Gr:=zy.l
@[irreducible] def zA:=qM.r.r.l.l.r.l.r.l
@[irreducible] def Gn:=qM.r.r.l.l.r.r
@[irreducible] def Gm:=qM.r.r.r
@[irreducible] def Gq:=zz.l
@[irreducible] def Gp:=zA.r.l
theorem KJ:Cl=some (63,jh,[.tmp 8,.tmp 9]):=by kernel_rfl
def mR (_P:Program) (K:VK):ax:=bD [.tmp 8,.tmp 9] K
def Fa:ax:=aJ (ar P zB (mR P K)) (mR P K)
def Fb:ax:=bO 0 (Fa P K)
def Fc:ax:=aJ (λf' aS=>(([0,2,3,10,25,26]:List Nat).map f':List Value)=[k0,x2,l3,t10,bZ,dj]/\L1 (([27]:List Nat).map f') aS) (Fb P K)
def E4:ax:=aJ (ar P zy (mR P K)) (mR P K)
def E5:ax:=bO 2 (E4 P K)
def qo:ax:=aJ (λf' aS=>(([0,10,36,37]:List Nat).map f':List Value)=[k0,t10,aR,bk]/\L1 (([38]:List Nat).map f') aS) (E5 P K)
def E6:ax:=aJ (ar P zz (qo P K k0 t10 aR bk L1)) (qo P K k0 t10 aR bk L1)
def E7:ax:=bO 3 (E6 P K k0 t10 aR bk L1)
def E8:ax:=bO 4 (E7 P K k0 t10 aR bk L1)
def tw:ax:=aJ (λf' aS=>(([0,10,15,36,37,38,43]:List Nat).map f':List Value)=[k0,t10,dK,aR,bk,bS,cf]/\L2 (([44]:List Nat).map f') aS) (E8 P K k0 t10 aR bk L1)
def E9:ax:=aJ (ar P Gm (tw P K k0 t10 dK aR bk bS cf L1 L2)) (tw P K k0 t10 dK aR bk bS cf L1 L2)
def yL:ax:=bO 5 (E9 P K k0 t10 dK aR bk bS cf L1 L2)
def yM:ax:=aJ (ar P Gn (yL P K k0 t10 dK aR bk bS cf L1 L2)) (yL P K k0 t10 dK aR bk bS cf L1 L2)
def CW:Prop:=aF (ar P Gs (Fc P K k0 x2 l3 t10 bZ dj L1)) ([0,2,3,10,25,26]++[27]) ([k0,x2,l3,t10,bZ,dj]++xs) h
def CQ:Prop:=aF (ar P ud (mR P K)) [0,3,10] [k0,l3,t10] h
def CR:Prop:=aF (ar P ue (qo P K k0 t10 aR bk L1)) ([0,10,36,37]++[38]) ([k0,t10,aR,bk]++xs) h
def CS:Prop:=aF (ar P qM (tw P K k0 t10 dK aR bk bS cf L1 L2)) ([0,10,15,36,37,38,43]++[44]) ([k0,t10,dK,aR,bk,bS,cf]++xs) h
def CT:Prop:=aF (ar P zA (yM P K k0 t10 dK aR bk bS cf L1 L2)) [0,10,15,16,36,37,38,43,44,51] [k0,t10,dK,i16,aR,bk,bS,cf,c6,im] h
def wY:Prop:=aF (ar P Gp (yM P K k0 t10 dK aR bk bS cf L1 L2)) [0,10,15,36,37,38,43,44,51,58] [k0,t10,dK,aR,bk,bS,cf,c6,im,jH] h
def CU:Prop:=aF (ar P Gq (qo P K k0 t10 aR bk L1)) [0,10,36,37,38] [k0,t10,aR,bk,bS] h
def CV:Prop:=aF (ar P Gr (mR P K)) [10] [t10] h
theorem L9 (k0 x2 l3 t10 bZ dj:Value) (L1:LQ) (aE:Value) (h:ad):CW P K k0 x2 l3 t10 bZ dj L1 [aE] h=
 (OP (au .lss aE dj) λaZ=>
 bd aZ
 (OP (cd 1 bZ aE) λfY=>
 OP (aw false 1 h fY) λfz=>
 OP (ft fz) λil=>
 OP (au .gtr il x2) λje=>
 bd je
 (K (.tuple #[(.pointer none),(.int .i64 (3))]) h)
 (OP (au .add aE (.int .i64 (1))) λeC=>
 ([k0,x2,l3,t10,bZ,dj]:List Value)=[k0,x2,l3,t10,bZ,dj]/\L1 [eC] h))
 (CQ P K k0 l3 t10 h)):=aI (by kernel_rfl)
theorem DN:wY P K k0 t10 dK aR bk bS cf c6 im jH L1 L2 h=
 (OP (dH im (.bool true) jH) λjI=>
 bd jI
 (K (.tuple #[(.pointer none),(.int .i64 (2))]) h)
 (OP (au .add c6 (.int .i64 (1))) λln=>
 ([k0,t10,dK,aR,bk,bS,cf]:List Value)=[k0,t10,dK,aR,bk,bS,cf]/\L2 [ln] h)):=aI (by kernel_rfl)
theorem L6:CT P K k0 t10 dK i16 aR bk bS cf c6 im L1 L2 h=
 (c8 im false
 (OP (eX dK i16) λeZ=>
 OP (iO .u8 k0) λqb=>
 OP (au .add (.int .u8 (97)) qb) λhG=>
 OP (au .geq eZ hG) λjH=>
 wY P K k0 t10 dK aR bk bS cf c6 im jH L1 L2 h)
 (wY P K k0 t10 dK aR bk bS cf c6 im undef L1 L2 h)):=aI (by kernel_rfl)
theorem L5 (k0 t10 dK aR bk bS cf:Value) (L1 L2:LQ) (c6:Value) (h:ad):CS P K k0 t10 dK aR bk bS cf L1 L2 [c6] h=
 (OP (au .lss c6 cf) λp9=>
 bd p9
 (OP (eX dK c6) λhC=>
 OP (au .lss hC (.int .u8 (97))) λqa=>
 CT P K k0 t10 dK c6 aR bk bS cf c6 qa L1 L2 h)
 (CU P K k0 t10 aR bk bS L1 h)):=aI (by kernel_rfl)
theorem L7:CU P K k0 t10 aR bk bS L1 h=
 (OP (au .add bS (.int .i64 (1))) λgy=>
 ([k0,t10,aR,bk]:List Value)=[k0,t10,aR,bk]/\L1 [gy] h):=aI (by kernel_rfl)
theorem L4 (k0 t10 aR bk:Value) (L1:LQ) (bS:Value) (h:ad):CR P K k0 t10 aR bk L1 [bS] h=
 (OP (au .lss bS bk) λeY=>
 bd eY
 (OP (cd 1 aR bS) λku=>
 OP (aw false 1 h ku) λmK=>
 OP (ft mK) λcf=>
 cE [(.int .i64 (0))] h λL2 xs hx=>
 CS P K k0 t10 mK aR bk bS cf L1 L2 xs hx)
 (CV P K t10 h)):=aI (by kernel_rfl)
theorem L8:CV P K t10 h=
 (K (.tuple #[t10,(.int .i64 (0))]) h):=aI (by kernel_rfl)
theorem L0:CQ P K k0 l3 t10 h=
 (OP (eK l3) λbk=>
 cE [(.int .i64 (0))] h λL1 xs hx=>
 CR P K k0 t10 l3 bk L1 xs hx):=aI (by kernel_rfl)
def za:Prop:=
 az P 37 [k0,x1] h λik z1=>
 OP (dx 0 ik) λgw=>
 OP (dx 1 ik) λbY=>
 OP (gS .not bY) λbg=>
 bd bg
 (K (.tuple #[(.pointer none),(.int .i64 (1))]) z1)
 (OP (eK l3) λdj=>
 cE [(.int .i64 (0))] z1 λL1 xs hx=>
 CW P K k0 x2 l3 gw l3 dj L1 xs hx)
theorem Hv:ar P jh (bD [.tmp 8,.tmp 9] K) (cj [k0,x1,x2,l3]) h=za P K k0 x1 x2 l3 h:=by kernel_rfl
theorem f17 {K:VK} {k0 x1 x2 l3:Value} {h:ad} (H:za Tryd.prog K k0 x1 x2 l3 h):az Tryd.prog 17 [k0,x1,x2,l3] h K:=
 dn KJ (dB rfl) ((Hv Tryd.prog K k0 x1 x2 l3 h).mpr H)
end
noncomputable section
variable (t0 a1 b2 : Value) (h : ad)
def Cp:=cH Tryd.prog 21 [[],[]]
@[irreducible] def zF:=dy Cp
theorem KN:Cp=some (18,zF,[.tmp 6]):=by kernel_rfl
def tL (_P:Program) (K:VK) (t0 a1 b2:Value) (h:ad):Prop:=
 OP (au .sub a1 (.int .u8 (97))) λx9=>
 OP (au .sub b2 (.int .u8 (97))) λdi=>
 OP (jy t0) λcZ=>
 OP (dR 1 cZ) λaN=>
 OP (fq 6 6 aN x9) λaY=>
 OP (fq 6 1 aY di) λaM=>
 OP (aw false 1 h aM) λeQ=>
 OP (gS .not eQ) λgv=>
 K gv h
theorem Hz:ar P zF (bD [.tmp 6] K) (cj [t0,a1,b2]) h=tL P K t0 a1 b2 h:=by kernel_rfl
theorem f21 {K:VK} {t0 a1 b2:Value} {h:ad} (H:tL Tryd.prog K t0 a1 b2 h):az Tryd.prog 21 [t0,a1,b2] h K:=
 dn KN (dB rfl) ((Hz Tryd.prog K t0 a1 b2 h).mpr H)
end
noncomputable section
variable (t0 s1 x5 aY aM : Value) (L1 L2 : LQ) (xs : List Value) (h : ad)
def Cs:=cH Tryd.prog 33 [[],[],[0],[1,5],[],[],[],[0,14],[1,5,15],[],[],[],[],[],[],[],[],[5],[]]
@[irreducible] def qN:=dy Cs
@[irreducible] def zJ:=qN.r.r.l.l.l
@[irreducible] def zI:=qN.r.r.r
@[irreducible] def Gt:=zJ.r.l.r.l.l
@[irreducible] def Gu:=zI.l
theorem KQ:Cs=some (37,qN,[.tmp 4]):=by kernel_rfl
def tx (_P:Program) (K:VK):ax:=bD [.tmp 4] K
def Fg:ax:=aJ (ar P zI (tx P K)) (tx P K)
def Fh:ax:=bO 0 (Fg P K)
def yN:ax:=aJ (λf' aS=>(([0]:List Nat).map f':List Value)=[t0]/\L1 (([1,5]:List Nat).map f') aS) (Fh P K)
def Fi:ax:=bO 1 (yN P K t0 L1)
def Fe:ax:=bO 2 (Fi P K t0 L1)
def Ff:ax:=aJ (λf' aS=>(([0,14]:List Nat).map f':List Value)=[t0,aY]/\L2 (([1,5,15]:List Nat).map f') aS) (Fe P K t0 L1)
def CZ:Prop:=aF (ar P zJ (yN P K t0 L1)) ([0]++[1,5]) ([t0]++xs) h
def CX:Prop:=aF (ar P Gt (Ff P K t0 aY L1 L2)) ([0,14]++[1,5,15]) ([t0,aY]++xs) h
def CY:Prop:=aF (ar P Gu (tx P K)) [5] [x5] h
theorem Ma (t0 aY:Value) (L1 L2:LQ) (s1 x5 aM:Value) (h:ad):CX P K t0 aY L1 L2 [s1,x5,aM] h=
 (OP (au .lss aM aY) λeQ=>
 bd eQ
 (OP (iO .u8 aM) λdC=>
 OP (au .add (.int .u8 (97)) dC) λik=>
 az P 35 [t0,s1,ik] h λbg z1=>
 OP (au .geq bg (.int .i64 (0))) λdj=>
 bd dj
 (OH (bR 5 1 [(.int .u8 (0))] z1 [(0,1,ik)]) λfY z2=>
 OH (cO 5 1 1 z2 x5 fY) λfz z3=>
 az P 36 [s1,bg] z3 λjG z4=>
 ([t0]:List Value)=[t0]/\L1 [jG,fz] z4)
 (OP (au .add aM (.int .i64 (1))) λje=>
 ([t0,aY]:List Value)=[t0,aY]/\L2 [s1,x5,je] z1))
 (([t0]:List Value)=[t0]/\L1 [s1,x5] h)):=aI (by kernel_rfl)
theorem Mc (t0:Value) (L1:LQ) (s1 x5:Value) (h:ad):CZ P K t0 L1 [s1,x5] h=
 (OP (au .neq s1 (.string ⟨#[]⟩)) λaB=>
 bd aB
 (OP (jy t0) λcZ=>
 OP (dR 0 cZ) λaN=>
 OP (aw false 1 h aN) λaY=>
 cE [s1,x5,(.int .i64 (0))] h λL2 xs hx=>
 CX P K t0 aY L1 L2 xs hx)
 (CY P K x5 h)):=aI (by kernel_rfl)
theorem Mb:CY P K x5 h=
 (OP (hZ h x5) λaR=>
 K aR h):=aI (by kernel_rfl)
def zb:Prop:=
 cE [s1,(.slice none 0 0)] h λL1 xs hx=>
 CZ P K t0 L1 xs hx
theorem HE:ar P qN (bD [.tmp 4] K) (cj [t0,s1]) h=zb P K t0 s1 h:=by kernel_rfl
theorem f33 {K:VK} {t0 s1:Value} {h:ad} (H:zb Tryd.prog K t0 s1 h):az Tryd.prog 33 [t0,s1] h K:=
 dn KQ (dB rfl) ((HE Tryd.prog K t0 s1 h).mpr H)
end
noncomputable section
variable (s0 x1 x2 x3 n8 bY aX : Value) (L1 : LQ) (xs : List Value) (h : ad)
def Ct:=cH Tryd.prog 34 [[],[],[],[],[],[],[],[0,1,2,3,22],[8,23],[],[],[],[],[],[0,1,2,3,8,22,23],[0,1,8],[],[]]
@[irreducible] def qO:=dy Ct
@[irreducible] def zK:=qO.r.r.r.l.r.l.l
@[irreducible] def zL:=qO.r.r.r.r
@[irreducible] def Gv:=zK.r.r.r.l
@[irreducible] def Gw:=zL.l
theorem KR:Ct=some (48,qO,[.tmp 5]):=by kernel_rfl
def tz (_P:Program) (K:VK):ax:=bD [.tmp 5] K
def Fj:ax:=aJ (ar P zL (tz P K)) (tz P K)
def Fk:ax:=bO 0 (Fj P K)
def yO:ax:=aJ (λf' aS=>(([0,1,2,3,22]:List Nat).map f':List Value)=[s0,x1,x2,x3,bY]/\L1 (([8,23]:List Nat).map f') aS) (Fk P K)
def C0:Prop:=aF (ar P zK (yO P K s0 x1 x2 x3 bY L1)) ([0,1,2,3,22]++[8,23]) ([s0,x1,x2,x3,bY]++xs) h
def sq:Prop:=aF (ar P Gv (yO P K s0 x1 x2 x3 bY L1)) [0,1,2,3,8,22,23] [s0,x1,x2,x3,n8,bY,aX] h
def C1:Prop:=aF (ar P Gw (tz P K)) [0,1,8] [s0,x1,n8] h
theorem Me:sq P K s0 x1 x2 x3 n8 bY aX L1 h=
 (OP (au .add aX (.int .i64 (1))) λcf=>
 ([s0,x1,x2,x3,bY]:List Value)=[s0,x1,x2,x3,bY]/\L1 [n8,cf] h):=aI (by kernel_rfl)
theorem Md (s0 x1 x2 x3 bY:Value) (L1:LQ) (n8 aX:Value) (h:ad):C0 P K s0 x1 x2 x3 bY L1 [n8,aX] h=
 (OP (au .lss aX bY) λbg=>
 bd bg
 (OP (aw false 1 h x2) λdj=>
 OP (iO .u8 aX) λfY=>
 OP (au .add (.int .u8 (97)) fY) λfz=>
 az P 35 [dj,s0,fz] h λlk z1=>
 OP (au .geq lk (.int .i64 (0))) λjG=>
 bd jG
 (OP (aw false 1 z1 x3) λeC=>
 (True)/\
 OP (aw false 1 z1 x2) λaR=>
 (True)/\
 az P 36 [s0,lk] z1 λeY z2=>
 (aw false 1 z2 x3=some eC/\aw false 1 z2 x2=some aR/\True)/\
 az P 33 [aR,eY] z2 λku z3=>
 (aw false 1 z3 x3=some eC/\True)/\
 jK P eC [ku] z3 λmK z4=>
 (True)/\
 OP (au .add n8 mK) λeR=>
 sq P K s0 x1 x2 x3 eR bY aX L1 z4)
 (sq P K s0 x1 x2 x3 n8 bY aX L1 z1))
 (C1 P K s0 x1 n8 h)):=aI (by kernel_rfl)
theorem Mf:C1 P K s0 x1 n8 h=
 (OP (aw false 1 h x1) λc6=>
 OH (nQ h c6 s0 n8) λ_ z1=>
 K n8 z1):=aI (by kernel_rfl)
def tO:Prop:=
 OP (aw false 1 h x1) λcZ=>
 OP (mj true (.int .i64 (0)) h cZ s0) λaY=>
 OP (dx 0 aY) λaM=>
 OP (dx 1 aY) λeQ=>
 bd eQ
 (K aM h)
 (OP (aw false 1 h x2) λdC=>
 OP (jy dC) λik=>
 OP (dR 0 ik) λgw=>
 OP (aw false 1 h gw) λbY=>
 cE [(.int .i64 (0)),(.int .i64 (0))] h λL1 xs hx=>
 C0 P K s0 x1 x2 x3 bY L1 xs hx)
theorem HF:ar P qO (bD [.tmp 5] K) (cj [s0,x1,x2,x3]) h=tO P K s0 x1 x2 x3 h:=by kernel_rfl
theorem f34 {K:VK} {s0 x1 x2 x3:Value} {h:ad} (H:tO Tryd.prog K s0 x1 x2 x3 h):az Tryd.prog 34 [s0,x1,x2,x3] h K:=
 dn KR (dB rfl) ((HF Tryd.prog K s0 x1 x2 x3 h).mpr H)
end
noncomputable section
variable (t0 s1 c2 x9 aB : Value) (L1 : LQ) (xs : List Value) (h : ad)
def Cu:=cH Tryd.prog 35 [[],[],[0,1,2,9],[10],[],[],[],[],[],[],[],[],[],[],[]]
@[irreducible] def qP:=dy Cu
@[irreducible] def Gy:=qP.r.l.r.l.l
@[irreducible] def Gx:=qP.r.r
theorem KS:Cu=some (26,qP,[.tmp 6]):=by kernel_rfl
def yP (_P:Program) (K:VK):ax:=bD [.tmp 6] K
def Fl:ax:=aJ (ar P Gx (yP P K)) (yP P K)
def Fm:ax:=bO 0 (Fl P K)
def Fo:ax:=aJ (λf' aS=>(([0,1,2,9]:List Nat).map f':List Value)=[t0,s1,c2,x9]/\L1 (([10]:List Nat).map f') aS) (Fm P K)
def C2:Prop:=aF (ar P Gy (Fo P K t0 s1 c2 x9 L1)) ([0,1,2,9]++[10]) ([t0,s1,c2,x9]++xs) h
theorem Mg (t0 s1 c2 x9:Value) (L1:LQ) (aB:Value) (h:ad):C2 P K t0 s1 c2 x9 L1 [aB] h=
 (OP (au .lss aB x9) λdi=>
 bd di
 (OP (eX s1 aB) λaM=>
 OP (au .eql aM c2) λgv=>
 bd gv
 (K aB h)
 (OP (eX s1 aB) λbY=>
 az P 21 [t0,bY,c2] h λbg z1=>
 bd bg
 (K (.int .i64 (-1)) z1)
 (OP (au .add aB (.int .i64 (1))) λbZ=>
 ([t0,s1,c2,x9]:List Value)=[t0,s1,c2,x9]/\L1 [bZ] z1)))
 (K (.int .i64 (-1)) h)):=aI (by kernel_rfl)
def tP:Prop:=
 OP (ft s1) λx9=>
 cE [(.int .i64 (0))] h λL1 xs hx=>
 C2 P K t0 s1 c2 x9 L1 xs hx
theorem HG:ar P qP (bD [.tmp 6] K) (cj [t0,s1,c2]) h=tP P K t0 s1 c2 h:=by kernel_rfl
theorem f35 {K:VK} {t0 s1 c2:Value} {h:ad} (H:tP Tryd.prog K t0 s1 c2 h):az Tryd.prog 35 [t0,s1,c2] h K:=
 dn KS (dB rfl) ((HG Tryd.prog K t0 s1 c2 h).mpr H)
end
noncomputable section
variable (s0 i1 : Value) (h : ad)
def Cv:=cH Tryd.prog 36 [[],[]]
@[irreducible] def zM:=dy Cv
theorem KT:Cv=some (13,zM,[.tmp 4]):=by kernel_rfl
def zc (_P:Program) (K:VK) (s0 i1:Value) (h:ad):Prop:=
 OP (gj s0 none (some i1)) λx7=>
 OP (au .add i1 (.int .i64 (1))) λaB=>
 OP (gj s0 (some aB) none) λdi=>
 OP (au .add x7 di) λcZ=>
 K cZ h
theorem HI:ar P zM (bD [.tmp 4] K) (cj [s0,i1]) h=zc P K s0 i1 h:=by kernel_rfl
theorem f36 {K:VK} {s0 i1:Value} {h:ad} (H:zc Tryd.prog K s0 i1 h):az Tryd.prog 36 [s0,i1] h K:=
 dn KT (dB rfl) ((HI Tryd.prog K s0 i1 h).mpr H)
end
noncomputable section
variable (k0 x1 t6 p8 di aN aM fH aX bg bZ eC eR c6 hC : Value) (L1 : LQ) (xs : List Value) (h : ad)
def Cw:=cH Tryd.prog 37 [[],[0,1,11],[0,1,11,13],[0,1,15],[0,1,15,18],[],[],[],[],[],[0,6,23,24],[25],[],[],[],[0,6,8,23,24,25,35],[0,6,8,23,24,25,35,42],[0,6,8,23,24,25,44],[0,6,8,23,24,25,44,49],[],[],[],[],[6],[]]
@[irreducible] def ow:=dy Cw
@[irreducible] def zR:=ow.r.l.l.r.l
@[irreducible] def GD:=ow.r.l.r
@[irreducible] def uf:=ow.r.r
@[irreducible] def zS:=zR.r.l
@[irreducible] def oz:=uf.r.l.r.l.l
@[irreducible] def zN:=uf.r.r
@[irreducible] def zT:=zS.r.l
@[irreducible] def zO:=oz.r.r.l.l.r.l.l.r.l
@[irreducible] def GC:=oz.r.r.l.l.r.l.r
@[irreducible] def GB:=oz.r.r.l.l.r.r
@[irreducible] def GA:=oz.r.r.r
@[irreducible] def GG:=zN.l
@[irreducible] def Gz:=zT.r.l
@[irreducible] def zP:=zO.r.l
@[irreducible] def zQ:=zP.r.l
@[irreducible] def GF:=zQ.r.l
theorem KU:Cw=some (71,ow,[.tmp 4,.tmp 5]):=by kernel_rfl
def n9 (_P:Program) (K:VK):ax:=bD [.tmp 4,.tmp 5] K
def yQ:ax:=aJ (ar P uf (n9 P K)) (n9 P K)
def qq:ax:=aJ (ar P GD (yQ P K)) (yQ P K)
def Fp:ax:=aJ (ar P zN (n9 P K)) (n9 P K)
def Fq:ax:=bO 0 (Fp P K)
def tA:ax:=aJ (λf' aS=>(([0,6,23,24]:List Nat).map f':List Value)=[k0,t6,aX,bg]/\L1 (([25]:List Nat).map f') aS) (Fq P K)
def Fs:ax:=aJ (ar P GA (tA P K k0 t6 aX bg L1)) (tA P K k0 t6 aX bg L1)
def yR:ax:=bO 1 (Fs P K k0 t6 aX bg L1)
def yS:ax:=aJ (ar P GB (yR P K k0 t6 aX bg L1)) (yR P K k0 t6 aX bg L1)
def qp:ax:=aJ (ar P GC (yS P K k0 t6 aX bg L1)) (yS P K k0 t6 aX bg L1)
def Da:Prop:=aF (ar P zR (qq P K)) [0,1,11] [k0,x1,di] h
def w7:Prop:=aF (ar P zS (qq P K)) [0,1,11,13] [k0,x1,di,aN] h
def Db:Prop:=aF (ar P zT (qq P K)) [0,1,15] [k0,x1,aM] h
def wZ:Prop:=aF (ar P Gz (qq P K)) [0,1,15,18] [k0,x1,aM,fH] h
def C3:Prop:=aF (ar P oz (tA P K k0 t6 aX bg L1)) ([0,6,23,24]++[25]) ([k0,t6,aX,bg]++xs) h
def C5:Prop:=aF (ar P zO (qp P K k0 t6 aX bg L1)) [0,6,8,23,24,25,35] [k0,t6,p8,aX,bg,bZ,eC] h
def w0:Prop:=aF (ar P zP (qp P K k0 t6 aX bg L1)) [0,6,8,23,24,25,35,42] [k0,t6,p8,aX,bg,bZ,eC,eR] h
def C6:Prop:=aF (ar P zQ (qp P K k0 t6 aX bg L1)) [0,6,8,23,24,25,44] [k0,t6,p8,aX,bg,bZ,c6] h
def w5:Prop:=aF (ar P GF (qp P K k0 t6 aX bg L1)) [0,6,8,23,24,25,44,49] [k0,t6,p8,aX,bg,bZ,c6,hC] h
def C8:Prop:=aF (ar P GG (n9 P K)) [6] [t6] h
theorem sD:wZ P K k0 x1 aM fH h=
 (OP (dH aM (.bool true) fH) λdC=>
 bd dC
 (K (.tuple #[(.pointer none),(.bool false)]) h)
 (OP (jx [(.int .i64 (0)),(.bool false),(.bool false),(.bool false),(.bool false),(.bool false),(.bool false),(.bool false),(.bool false),(.bool false),(.bool false),(.bool false),(.bool false),(.bool false),(.bool false),(.bool false),(.bool false),(.bool false),(.bool false),(.bool false),(.bool false),(.bool false),(.bool false),(.bool false),(.bool false),(.bool false),(.bool false),(.bool false),(.bool false),(.bool false),(.bool false),(.bool false),(.bool false),(.bool false),(.bool false),(.bool false),(.bool false)] [(0,1,k0)]) λgw=>
 OH (kc 78 h gw) λbY z1=>
 OP (eK x1) λbg=>
 cE [(.int .i64 (0))] z1 λL1 xs hx=>
 C3 P K k0 bY x1 bg L1 xs hx)):=aI (by kernel_rfl)
theorem Mo:Db P K k0 x1 aM h=
 (c8 aM false
 (OP (eK x1) λgv=>
 OP (au .gtr gv (.int .i64 (30))) λfH=>
 wZ P K k0 x1 aM fH h)
 (wZ P K k0 x1 aM undef h)):=aI (by kernel_rfl)
theorem Mn:w7 P K k0 x1 di aN h=
 (OP (dH di (.bool true) aN) λaY=>
 Db P K k0 x1 aY h):=aI (by kernel_rfl)
theorem Mm:Da P K k0 x1 di h=
 (c8 di false
 (OP (au .gtr k0 (.int .i64 (6))) λaN=>
 w7 P K k0 x1 di aN h)
 (w7 P K k0 x1 di undef h)):=aI (by kernel_rfl)
theorem sE:w5 P K k0 t6 p8 aX bg bZ c6 hC L1 h=
 (OP (dH c6 (.bool true) hC) λqa=>
 bd qa
 (K (.tuple #[(.pointer none),(.bool false)]) h)
 (OP (dR 0 p8) λya=>
 OP (aw false 1 h ya) λcw=>
 (True)/\
 OP (dR 1 p8) λeZ=>
 OP (aw false 1 h eZ) λjf=>
 (True)/\
 OP (dR 1 p8) λhG=>
 OP (aw false 1 h hG) λjH=>
 (True)/\
 OP (dR 0 p8) λjI=>
 OP (aw false 1 h jI) λln=>
 (True)/\
 OP (jy t6) λgy=>
 OP (dR 1 gy) λOF=>
 OP (fq 6 6 OF cw) λmL=>
 OP (fq 6 1 mL jf) λqc=>
 OH (dJ 1 h qc (.bool true)) λ_ z1=>
 (aw false 1 z1 hG=some jH/\aw false 1 z1 jI=some ln/\True)/\
 OP (jy t6) λgz=>
 OP (dR 1 gz) λyb=>
 OP (fq 6 6 yb jH) λkv=>
 OP (fq 6 1 kv ln) λyc=>
 OH (dJ 1 z1 yc (.bool true)) λ_ z2=>
 (True)/\
 OP (au .add bZ (.int .i64 (1))) λOG=>
 ([k0,t6,aX,bg]:List Value)=[k0,t6,aX,bg]/\L1 [OG] z2)):=aI (by kernel_rfl)
theorem Mk:C6 P K k0 t6 p8 aX bg bZ c6 L1 h=
 (c8 c6 false
 (OP (dR 0 p8) λp9=>
 OP (aw false 1 h p9) λOE=>
 OP (dR 1 p8) λx0=>
 OP (aw false 1 h x0) λnY=>
 OP (au .eql OE nY) λhC=>
 w5 P K k0 t6 p8 aX bg bZ c6 hC L1 h)
 (w5 P K k0 t6 p8 aX bg bZ c6 undef L1 h)):=aI (by kernel_rfl)
theorem Mj:w0 P K k0 t6 p8 aX bg bZ eC eR L1 h=
 (OP (dH eC (.bool true) eR) λcf=>
 C6 P K k0 t6 p8 aX bg bZ cf L1 h):=aI (by kernel_rfl)
theorem Mi:C5 P K k0 t6 p8 aX bg bZ eC L1 h=
 (c8 eC false
 (OP (dR 0 p8) λaR=>
 OP (aw false 1 h aR) λbk=>
 OP (dR 1 p8) λbS=>
 OP (aw false 1 h bS) λeY=>
 OP (gR true [bk,eY]) λku=>
 OP (au .geq ku k0) λeR=>
 w0 P K k0 t6 p8 aX bg bZ eC eR L1 h)
 (w0 P K k0 t6 p8 aX bg bZ eC undef L1 h)):=aI (by kernel_rfl)
theorem Mh (k0 t6 aX bg:Value) (L1:LQ) (bZ:Value) (h:ad):C3 P K k0 t6 aX bg L1 [bZ] h=
 (OP (au .lss bZ bg) λdj=>
 bd dj
 (OP (cd 2 aX bZ) λaE=>
 OP (aw true 2 h aE) λaZ=>
 OH (jw 62 [(.int .i64 (0)),(.int .i64 (0))] h) λp8 z1=>
 OH (dJ 2 z1 p8 aZ) λ_ z2=>
 OP (dR 0 p8) λfY=>
 OP (aw false 1 z2 fY) λfz=>
 OP (dR 1 p8) λlk=>
 OP (aw false 1 z2 lk) λil=>
 OP (gR false [fz,il]) λjG=>
 OP (au .lss jG (.int .i64 (0))) λje=>
 C5 P K k0 t6 p8 aX bg bZ je L1 z2)
 (C8 P K t6 h)):=aI (by kernel_rfl)
theorem Ml:C8 P K t6 h=
 (K (.tuple #[t6,(.bool true)]) h):=aI (by kernel_rfl)
def tQ:Prop:=
 OP (au .lss k0 (.int .i64 (1))) λaB=>
 Da P K k0 x1 aB h
theorem HJ:ar P ow (bD [.tmp 4,.tmp 5] K) (cj [k0,x1]) h=tQ P K k0 x1 h:=by kernel_rfl
theorem f37 {K:VK} {k0 x1:Value} {h:ad} (H:tQ Tryd.prog K k0 x1 h):az Tryd.prog 37 [k0,x1] h K:=
 dn KU (dB rfl) ((HJ Tryd.prog K k0 x1 h).mpr H)
end
end
section
theorem EX.load {h h':ad} (k:EX h h') {agg:Bool} {n:Nat} {a v:Value} (hl:aw agg n h a=some v):aw agg n h' a=some v:=by
 unfold aw at hl⊢
 split at hl
 ·rename_i i o
  cases hc:aU h i with
  | none=>rw [hc] at hl;cases hl
  | some xs=>rw [hc] at hl;rw [k.cells hc];exact hl
 ·cases hl
theorem dA (i:Nat) (h:i<4611686018427387904):IntKind.wrap .i64 ((i:Int)+1)=((i+1:Nat):Int):=by
 rw [wrap64 (by omega) (by omega)];omega
@[simp] theorem jm (o i k : Nat) : dR o (pt i k) = some (pt i (k + o)) := rfl
@[simp] theorem pL (i k : Nat) : jy (pt i k) = some (pt i k) := rfl
def bN (ps:List (Int×Int)):List Value:=ps.flatMap λp=>[I p.1,I p.2]
theorem kl:∀{ps:List (Int×Int)} {k:Nat} {p:Int×Int},ps[k]?=some p->(bN ps)[2*k]?=some (I p.1)/\(bN ps)[2*k+1]?=some (I p.2)
 | [],k,p,h=>by simp at h
 | q::ps,0,p,h=>by simp at h;subst h;simp [bN]
 | q::ps,k+1,p,h=>by
  have:=kl (ps:=ps) (k:=k) (p:=p) (by simpa using h)
  rw [show 2*(k+1)=2*k+1+1 by omega]
  simpa [bN] using this
theorem sx (ps:List (Int×Int)):(bN ps).length=2*ps.length:=by
 induction ps with
 | nil=>rfl
 | cons p ps ih=>simp only [bN,List.flatMap_cons,length_append,length_cons,List.length_nil] at ih⊢;omega
structure PS (h:ad) (v:Value) (ps:List (Int×Int)):Prop where
 len:eK v=some (I ps.length)
 get:∀k (hk:k<ps.length),∃i o,cd 2 v (I k)=some (pt i o)/\aw false 1 h (pt i o)=some (I ps[k].1)/\aw false 1 h (pt i (o+1))=some (I ps[k].2)/\
  aw true 2 h (pt i o)=some (.agg #[I ps[k].1,I ps[k].2])
theorem PS.mono {h h':ad} {v:Value} {ps:List (Int×Int)} (k:EX h h') (p:PS h v ps):PS h' v ps:=
 ⟨p.len,λj hj=>let ⟨i,o,a,b,c,d⟩:=p.get j hj;⟨i,o,a,EX.load k b,EX.load k c,EX.load k d⟩⟩
theorem PS.sl {h:ad} {e:TypeId} {i:Nat} {ps:List (Int×Int)} (hc:aU h i=some (bN ps)):PS h (sl e i 0 ps.length) ps:=by
 refine ⟨rfl,λk hk=>⟨i,2*k,?_,?_,?_,?_⟩⟩
 ·have:(0:Int)<=(k:Int)/\(k:Int)<(ps.length:Int):=by omega
  simp [Go.Sim.sl,cd,this,Nat.mul_comm]
 ·obtain ⟨g1,g2⟩:=kl (getElem?_eq_getElem hk)
  simp [aw,hc,cY,g1]
 ·obtain ⟨g1,g2⟩:=kl (getElem?_eq_getElem hk)
  simp [aw,hc,cY,g2]
 ·obtain ⟨g1,g2⟩:=kl (getElem?_eq_getElem hk)
  have hl:=sx ps
  have:((bN ps).drop (2*k)).take 2=[I ps[k].1,I ps[k].2]:=by
   apply List.ext_getElem?
   intro j
   rw [List.getElem?_take]
   match j with
   | 0=>simpa using g1
   | 1=>simpa using g2
   | j+2=>simp;omega
  have h2:2*k+2<=(bN ps).length:=by omega
  simp [aw,hc,cY,this,h2]
def IA (ps:List (Int×Int)):Prop:=∀p∈ps,0<=p.1/\p.1<6/\0<=p.2/\p.2<6
def hit (x y:UInt8) (p:Int×Int):Bool:=(decide (97+p.1=(x.toNat:Int))&&decide (97+p.2=(y.toNat:Int)))||(decide (97+p.1=(y.toNat:Int))&&decide (97+p.2=(x.toNat:Int)))
def aG (ps:List (Int×Int)) (x y:UInt8):Bool:=ps.any (hit x y)
end
section
def cF (b:Nat) (hx:ad) (e:TypeId) (v:Value) (xs:List Value):Prop:=
 (v=.slice none 0 0/\xs=[])∨(∃i,b<=i/\v=sl e i 0 xs.length/\hx[i]?=some (.arr e xs))
theorem tZ {h0 hx:ad} {e:TypeId} {bytes:Nat} {v x z:Value} {xs:List Value} {K:Value->ad->Prop} (o:cF h0.length hx e v xs) (hex:EX h0 hx) (hb:(xs.length+1)*bytes<=140737488355328) (hm:xs.length+1<=maxLen)
  (h1:dI x=true) (h2:bc x=[x]) (hk:∀v' bL,EX h0 bL->cF h0.length bL e v' (xs++[x])->K v' bL):
  OH (bR e 1 [z] hx [(0,1,x)]) λa h2=>OH (cO e 1 bytes h2 v a) K:=by
 have e1:bR e 1 [z] hx [(0,1,x)]=some (sl e hx.length 0 1,hx++[.arr e [x]]):=by
  simp [bR,hP,dS,h1,h2,setAt]
 rw [e1]
 simp only [ca]
 have e2:dL (hx++[.arr e [x]]) 1 (sl e hx.length 0 1)=some [x]:=by simp [dL,sl,aU]
 have e3:gl (sl e hx.length 0 1)=some 1:=rfl
 rcases o with ⟨rfl,rfl⟩ | ⟨i,hi,rfl,aA⟩
 ·refine og (v:=sl e (hx.length+1) 0 1) (h:=hx++[.arr e [x]]++[.arr e [x]]) ?_ (hk _ _ ((hex.push _).push _) (.inr ⟨hx.length+1,by have:=hex.1;omega,rfl,by simp⟩))
  have fh:1*bytes<=140737488355328:=by simpa using hb
  have bV:1<=maxLen:=by simpa using hm
  simp only [cO,e2,e3]
  rw [if_neg (by omega),if_pos ⟨fh,bV⟩]
  simp
 ·have hlt:=(bu aA).1
  have hg:(hx++[.arr e [x]])[i]?=some (.arr e xs):=by rw [getElem?_append_left hlt];exact aA
  refine og (v:=sl e (hx.length+1) 0 (xs.length+1)) (h:=(hx++[ay.arr e [x]]).set i ay.dead++[ay.arr e (xs++[x])]) ?_
   (hk _ _ (((hex.push _).set hi _).push _) (.inr ⟨hx.length+1,by have:=hex.1;omega,by simp,?_⟩))
  ·simp only [cO,e2,e3]
   simp only [sl,hg]
   rw [if_pos ⟨trivial,trivial,by simp,hb,hm⟩,if_neg (by omega)]
   simp
  ·rw [getElem?_append_right (by simp)]
   simp
theorem lz {b:Nat} {hx:ad} {e:TypeId} {v:Value} {l:List UInt8} (o:cF b hx e v (l.map cv)):hZ hx v=some (S l):=by
 have hm:∀l:List UInt8,(l.map cv).mapM lB=some l:=by
  intro l
  induction l with
  | nil=>rfl
  | cons c l ih=>simp [List.mapM_cons,lB,ih]
 rcases o with ⟨rfl,hx⟩ | ⟨i,hi,rfl,aA⟩
 ·have:l=[]:=by simpa using hx
  subst this
  rfl
 ·by_cases hl:l=[]
  ·subst hl
   simp [hZ,dL,sl]
  ·have hn:l.length≠0:=by simpa using hl
   have rI:¬(l.map cv).length=0:=by simpa using hl
   have ht:((l.map cv).drop 0).take ((l.map cv).length*1)=l.map cv:=by rw [List.drop_zero,Nat.mul_one,take_length]
   simp only [hZ,dL,sl,if_neg rI,aU,aA,bind_some]
   rw [if_pos (by omega),ht,bind_some,hm]
   rfl
theorem oH {a:Nat} (h:a<100):cv (lt a)=.int .u8 ((97+a:Nat):Int):=by rw [cv,iS h]
theorem EJ {s:List UInt8} {i:Nat} {h:ad} {K:Value->ad->Prop} (hi:i<s.length) (hl:s.length<=1000) (hk:K (S (bf s i)) h):
  OP (gj (S s) none (some (I i))) λx7=>OP (au .add (I i) (.int .i64 1)) λaB=>OP (gj (S s) (some aB) none) λdi=>OP (au .add x7 di) λcZ=>K cZ h:=by
 rw [NV s (by omega)]
 simp only [aq,cM,dA i (by omega)]
 rw [NX s (by omega)]
 simp only [aq]
 rw [ua _ _ (by simp only [length_take,List.length_drop,maxLen];omega)]
 exact aq.2 hk
theorem yA {s:List UInt8} {i:Nat} {h:ad} {K:Value->ad->Prop} (hi:i<s.length) (hl:s.length<=1000) (hk:K (S (bf s i)) h):az Tryd.prog 36 [S s,I i] h K:=f36 (EJ hi hl hk)
def bo (k:Int) (cm:Nat->Nat->Bool):List Value:=I k::(List.range 36).map λj=>B (cm (j / 6) (j%6))
def TH (h:ad) (t:Value) (k:Int) (cm:Nat->Nat->Bool):Prop:=∃i,t=pt i 0/\aU h i=some (bo k cm)
theorem TH.mono {h h':ad} {t:Value} {k:Int} {cm:Nat->Nat->Bool} (hx:EX h h') (p:TH h t k cm):TH h' t k cm:=let ⟨i,a,b⟩:=p;⟨i,a,hx.cells b⟩
def fe (cm:Nat->Nat->Bool) (x y:UInt8):Bool:=cm (x.toNat-97) (y.toNat-97)
theorem yw {t:Value} {k:Int} {cm:Nat->Nat->Bool} {a b:Nat} {h:ad} {K:Value->ad->Prop} (ht:TH h t k cm) (ha:a<6) (hb:b<6) (hk:K (B (!fe cm (lt a) (lt b))) h):az Tryd.prog 21 [t,cv (lt a),cv (lt b)] h K:=by
 obtain ⟨i,rfl,hc⟩:=ht
 refine f21 ?_
 simp only [tL,oH (show a<100 by omega),oH (show b<100 by omega),F8,aq]
 rw [iZ (by omega) (by omega),iZ (by omega) (by omega)]
 have ea:((97+a:Nat):Int)-97=(a:Int):=by omega
 have eb:((97+b:Nat):Int)-97=(b:Int):=by omega
 rw [ea,eb]
 simp only [pL,aq,jm,zero_add]
 have e1:fq 6 6 (pt i 1) (.int .u8 (a:Int))=some (pt i (1+a*6)):=by simp [fq];omega
 have e2:fq 6 1 (pt i (1+a*6)) (.int .u8 (b:Int))=some (pt i (1+a*6+b)):=by simp [fq];omega
 simp only [e1,aq,e2]
 have e3:aw false 1 h (pt i (1+a*6+b))=some (B (cm a b)):=by
  have hlt:a*6+b<36:=by omega
  have hd:(a*6+b) / 6=a:=by omega
  have hm:(a*6+b)%6=b:=by omega
  simp only [aw,hc,bind_some,cY]
  rw [show 1+a*6+b=(a*6+b)+1 by omega]
  simp [bo,hlt,hd,hm]
 simp only [e3,aq,s8]
 simpa [fe,iS (show a<100 by omega),iS (show b<100 by omega)] using hk
theorem yz {t:Value} {k:Int} {cm:Nat->Nat->Bool} {b:Nat} {s:List UInt8} {h:ad} {K:Value->ad->Prop} (ht:TH h t k cm) (hb:b<6) (vw:letters 6 s) (hs:s.length<=1000)
  (hk:K (I (kY (aO (fe cm) (lt b) s 0))) h):az Tryd.prog 35 [t,S s,cv (lt b)] h K:=by
 refine f35 ?_
 simp only [tP,kW,aq]
 refine eM (σ:=Nat) (λi=>[I i]) (λ_=>h) (λi=>i<=s.length/\aO (fe cm) (lt b) s 0=aO (fe cm) (lt b) (s.drop i) i) (λi=>s.length-i) 0 rfl rfl ⟨by omega,rfl⟩ ?_
 rintro i ⟨hi,hf⟩ L hL
 rw [Mg]
 simp only [aq,dT,c9]
 refine ⟨λhlt=>?_,λeI=>?_⟩
 ·have du:i<s.length:=by omega
  rw [rX s du]
  simp only [aq,mV,c9,uA]
  rw [List.drop_eq_getElem_cons du] at hf
  simp only [aO] at hf
  refine ⟨λhe=>?_,λhe=>?_⟩
  ·rw [if_pos he] at hf
   rw [hf] at hk
   exact hk
  ·rw [if_neg he] at hf
   obtain ⟨a,ha,JW⟩:=vw s[i] (getElem_mem du)
   rw [JW] at hf⊢
   refine yw ht ha hb ?_
   cases hfr:fe cm (lt a) (lt b) with
   | false=>rw [hfr] at hf;simp at hf;simp;rw [hf] at hk;exact hk
   | true=>
    rw [hfr] at hf
    simp only [Bool.not_true,fa,cM,aq,dA i (by omega),true_and]
    exact hL (i+1) ⟨by omega,by simpa using hf⟩ (by omega)
 ·have:i=s.length:=by omega
  subst this
  simp [aO] at hf
  rw [hf] at hk
  exact hk
end
section
theorem AT {fr:UInt8->UInt8->Bool} {x:UInt8} {s:List UInt8} {i:Nat} (h:aO fr x s 0=some i):i<s.length/\s[i]?=some x:=by
 obtain ⟨_,h2,h3⟩:=lK h
 exact ⟨by omega,by simpa using h3⟩
theorem K4 {fr:UInt8->UInt8->Bool} {n:Nat} {s:List UInt8} (hs:s≠[]) (hl:letters n s):∃a i,cK fr s n 0=some (a,i)/\a<n/\i<s.length/\aO fr (lt a) s 0=some i/\
  bX fr n s.length s=lt a::bX fr n (bf s i).length (bf s i):=by
 obtain ⟨a,i,h1,h2,h3,h4⟩:=mC (fr:=fr) hs hl
 refine ⟨a,i,h1,h2,h3,h4,?_⟩
 have hw:=gu h3
 rw [<-hw]
 simp only [bX,h1]
theorem qi {t:Value} {k:Nat} {cm:Nat->Nat->Bool} {s:List UInt8} {h:ad} {K:Value->ad->Prop} (fo:TH h t k cm) (Pm:k<=6) (hs:s.length<=1000) (vw:letters k s)
  (hk:K (S (bX (fe cm) k s.length s)) h):az Tryd.prog 33 [t,S s] h K:=by
 refine oD (v:=S (bX (fe cm) k s.length s)) (Ren.bn rfl) ?_ hk
 refine f33 ?_
 have K8:∀{u:List UInt8},letters k u->letters 6 u:=λhu c hc=>let ⟨a,h1,h2⟩:=hu c hc;⟨a,by omega,h2⟩
 refine eM (σ:=List UInt8×List UInt8×Value×ad) (λp=>[S p.1,p.2.2.1]) (λp=>p.2.2.2)
  (λp=>letters k p.1/\p.1.length+p.2.1.length<=1000/\EX h p.2.2.2/\cF h.length p.2.2.2 5 p.2.2.1 (p.2.1.map cv)/\bX (fe cm) k s.length s=p.2.1++bX (fe cm) k p.1.length p.1) (λp=>p.1.length)
  (s,[],.slice none 0 0,h) rfl rfl ⟨vw,by simpa using hs,EX.refl h,.inl ⟨rfl,rfl⟩,rfl⟩ ?_
 rintro ⟨u,out,v,hx⟩ ⟨hu,hlen,hex,vD,hf⟩ L hL
 simp only at hu hlen hex vD hf hL⊢
 rw [Mc,FW]
 simp only [F7,aq,EP]
 have J5:=fo.mono hex
 refine ⟨λaV=>?_,λhe=>?_⟩
 ·obtain ⟨a,i,h1,h2,h3,h4,h5⟩:=K4 (fr:=fe cm) aV hu
  obtain ⟨ti,rfl,hc⟩:=J5
  have o9:aw false 1 hx (pt ti 0)=some (I k):=by simp [aw,hc,cY,bo]
  simp only [pL,aq,jm,zero_add,o9]
  refine eM (σ:=Nat) (λb=>[S u,v,I b]) (λ_=>hx) (λb=>b<k/\cK (fe cm) u (k-b) b=some (a,i)) (λb=>k-b) 0 rfl rfl ⟨by omega,h1⟩ ?_
  rintro b ⟨hb,hpk⟩ L2 iC
  rw [Ma]
  simp only [dT,aq,c9]
  refine ⟨λ_=>?_,λl5=>absurd (by omega) l5⟩
  simp only [lE,aq,cM]
  rw [iZ (n:=(b:Int)) (by omega) (by omega),iZ (by omega) (by omega)]
  have oJ:(.int .u8 (97+(b:Int)):Value)=cv (lt b):=by rw [oH (by omega)];congr 1
  rw [oJ]
  refine yz ⟨ti,rfl,hc⟩ (by omega) (K8 hu) (by omega) ?_
  rw [show k-b=(k-b-1)+1 by omega] at hpk
  simp only [cK] at hpk
  simp only [jN,aq,c9]
  cases nw:aO (fe cm) (lt b) u 0 with
  | some j=>
   rw [nw] at hpk
   simp only [Option.some.injEq,Prod.mk.injEq] at hpk
   obtain ⟨rfl,rfl⟩:=hpk
   obtain ⟨hj,Pl⟩:=AT nw
   refine ⟨λ_=>?_,λhc=>absurd (by simp [kY]) hc⟩
   refine tZ vD hex (by simp;omega) (by simp [maxLen];omega) rfl rfl ?_
   intro v' bL I4 Jy
   have hw:=gu hj
   refine yA hj (by omega) ?_
   simp only [true_and]
   exact hL (bf u j,out++[lt b],v',bL) ⟨gU hu j,by simp;omega,I4,by simpa using Jy,by rw [hf,h5];simp⟩ (by simp;omega)
  | none=>
   rw [nw] at hpk
   simp only at hpk
   refine ⟨λhc=>absurd hc (by simp [kY]),λ_=>?_⟩
   simp only [dA b (by omega),true_and]
   have vf:b+1<k:=by
    apply Classical.byContradiction
    intro h
    rw [show k-b-1=0 by omega] at hpk
    simp [cK] at hpk
   exact iC (b+1) ⟨by omega,by rw [show k-(b+1)=k-b-1 by omega];exact hpk⟩ (by omega)
 ·subst he
  rw [Mb]
  simp [bX] at hf
  rw [lz vD]
  simp only [aq]
  exact ⟨by rw [hf],hex⟩
end
section
structure SS (h:ad) (v:Value) (ls:List (List UInt8)):Prop where
 len:eK v=some (I ls.length)
 get:∀k (hk:k<ls.length),∃i o,cd 1 v (I k)=some (pt i o)/\aw false 1 h (pt i o)=some (S ls[k])
theorem SS.mono {h h':ad} {v:Value} {ls:List (List UInt8)} (k:EX h h') (p:SS h v ls):SS h' v ls:=
 ⟨p.len,λj hj=>let ⟨i,o,a,b⟩:=p.get j hj;⟨i,o,a,EX.load k b⟩⟩
theorem SS.sl {h:ad} {e:TypeId} {i:Nat} {ls:List (List UInt8)} (hc:aU h i=some (ls.map S)):SS h (sl e i 0 ls.length) ls:=by
 refine ⟨rfl,λk hk=>⟨i,k,?_,?_⟩⟩
 ·have:(0:Int)<=(k:Int)/\(k:Int)<(ls.length:Int):=by omega
  simp [Go.Sim.sl,cd,this]
 ·simp [aw,hc,cY,hk]
def sy (k:Int) (p:Int×Int):Bool:=(decide (0<=p.1)&&decide (p.1<=k))&&((decide (0<=p.2)&&decide (p.2<=k))&& !decide (p.1=p.2))
def sY (k:Int) (n:Nat):Bool:=(decide (1<=k)&&decide (k<=6))&&decide (n<=30)
def eO (k:Int) (ps:List (Int×Int)):Bool:=ps.all (sy (k-1))&&sY k ps.length
def gb (k:Int) (c:UInt8):Bool:=decide ((c.toNat:Int)<97)||decide (k<=(c.toNat:Int)-97)
def jC (k:Int) (ls:List (List UInt8)) (most:Nat):Int:=if ls.any (λs=>decide (most<s.length)) then 3 else if ls.any (λs=>s.any (gb k)) then 2 else 0
def cT (k:Int) (ps:List (Int×Int)) (ls:List (List UInt8)) (most:Nat):Int:=if eO k ps then jC k ls most else 1
theorem qF {α:Type} {p:α->Bool} {l:List α} (h:l.any p=false) {x:α} (hx:x∈l):p x=false:=by
 rw [any_eq_false] at h
 simpa using h x hx
end
section
def bE (ps:List (Int×Int)) (a b:Nat):Bool:=ps.any λp=>(decide (p.1=a)&&decide (p.2=b))||(decide (p.1=b)&&decide (p.2=a))
theorem ot {α:Type} {p q:α->Bool}:∀{l:List α},(∀x∈l,p x=q x)->l.any p=l.any q
 | [],_=>rfl
 | x::l,h=>by rw [any_cons,any_cons,h x (by simp),ot λy hy=>h y (by simp [hy])]
theorem uY (ps:List (Int×Int)) {a b:Nat} (ha:a<100) (hb:b<100):fe (bE ps) (lt a) (lt b)=aG ps (lt a) (lt b):=by
 unfold fe bE aG
 refine ot λp _=>?_
 unfold hit
 rw [iS ha,iS hb]
 have e1:∀(x:Int) (c:Nat),decide (x=((97+c-97:Nat):Int))=decide (97+x=((97+c:Nat):Int)):=by
  intro x c
  by_cases h:97+x=((97+c:Nat):Int)
  ·rw [gG h,gG (by omega)]
  ·rw [dp h,dp (by omega)]
 rw [e1,e1,e1,e1]
theorem xO (k:Int) (cm:Nat->Nat->Bool):(bo k cm).length=37:=by simp [bo]
theorem Ed {k:Int} {cm cm':Nat->Nat->Bool} {a b:Nat} (ha:a<6) (hb:b<6) (h:∀x y,x<6->y<6->cm' x y=if x=a/\y=b then true else cm x y):
  setAt (bo k cm) (1+a*6+b) [B true]=bo k cm':=by
 apply List.ext_getElem?
 intro j
 have hl:=xO k cm
 unfold setAt
 by_cases h0:j=1+a*6+b
 ·subst h0
  rw [getElem?_append_left (by simp [hl];omega),getElem?_append_right (by simp;omega)]
  have:((List.take (1+a*6+b) (bo k cm)).length)=1+a*6+b:=by simp [hl];omega
  rw [this]
  have e:1+a*6+b=(a*6+b)+1:=by omega
  have hd:(a*6+b) / 6=a:=by omega
  have hm:(a*6+b)%6=b:=by omega
  have hlt:a*6+b<36:=by omega
  rw [e]
  simp [bo,hlt,hd,hm,h a b ha hb]
 ·have e2:(List.take (1+a*6+b) (bo k cm)++[B true]++List.drop (1+a*6+b+[B true].length) (bo k cm))[j]?=(bo k cm)[j]?:=by
   by_cases hj:j<1+a*6+b
   ·rw [getElem?_append_left (by simp [hl];omega),getElem?_append_left (by simp [hl];omega),List.getElem?_take,if_pos hj]
   ·rw [getElem?_append_right (by simp [hl];omega),List.getElem?_drop]
    congr 1
    simp [hl]
    omega
  rw [e2]
  cases j with
  | zero=>simp [bo]
  | succ j=>
   by_cases hj:j<36
   ·simp only [bo,List.getElem?_cons_succ,List.getElem?_map,List.getElem?_range hj,Option.map_some]
    rw [h (j / 6) (j%6) (by omega) (by omega)]
    rw [if_neg (by omega)]
   ·simp [bo,hj]
def xt (k:Int) (ps:List (Int×Int)):Bool:=(decide (1<=k)&&decide (k<=6)&&decide (ps.length<=30))&&ps.all λp=>decide (0<=min p.1 p.2)&&decide (max p.1 p.2<k)&& !decide (p.1=p.2)
theorem MY (k:Int) (ps:List (Int×Int)):xt k ps=eO k ps:=by
 unfold xt eO sY
 rw [Bool.and_comm]
 congr 1
 induction ps with
 | nil=>rfl
 | cons p ps ih=>
  rw [List.all_cons,List.all_cons,ih]
  congr 1
  unfold sy
  rw [Bool.eq_iff_iff]
  simp
  omega
theorem Ee {k:Int} {ps:List (Int×Int)} (h:eO k ps=true):IA ps/\1<=k/\k<=6/\ps.length<=30/\∀p∈ps,0<=p.1/\p.1<k/\0<=p.2/\p.2<k/\p.1≠p.2:=by
 simp only [eO,sY,Bool.and_eq_true,decide_eq_true_eq,List.all_eq_true] at h
 obtain ⟨h1,⟨h2,h3⟩,h4⟩:=h
 have key:∀p∈ps,0<=p.1/\p.1<k/\0<=p.2/\p.2<k/\p.1≠p.2:=by
  intro p hp
  have:=h1 p hp
  simp only [sy,Bool.and_eq_true,decide_eq_true_eq,Bool.not_eq_true',decide_eq_false_iff_not] at this
  omega
 refine ⟨λp hp=>?_,h2,h3,h4,key⟩
 have:=key p hp
 omega
theorem min2 (a b:Int):gR false [I a,I b]=some (I (min a b)):=by
 simp only [gR,foldlM,max2,Bool.false_eq_true,if_false]
 have:(if b<a then b else a)=min a b:=by split <;> omega
 rw [this]
 rfl
theorem B8 (a b:Int):gR true [I a,I b]=some (I (max a b)):=by
 simp only [gR,foldlM,max2,if_true]
 have:(if b>a then b else a)=max a b:=by split <;> omega
 rw [this]
 rfl
theorem kX {h:ad} {e:TypeId} {xs:List Value} {j:Nat} {v:Value} (hj:xs[j]?=some v):aw false 1 (h++[.arr e xs]) (pt h.length j)=some v:=by
 simp [aw,aU,cY,hj]
theorem He (ps:List (Int×Int)) (p:Int×Int) {a b:Nat} (ha:p.1=a) (hb:p.2=b) (x y:Nat):
  bE (ps++[p]) x y=if x=b/\y=a then true else if x=a/\y=b then true else bE ps x y:=by
 unfold bE
 rw [any_append]
 simp only [any_cons,List.any_nil,Bool.or_false,ha,hb]
 have e:∀c d:Nat,decide ((c:Int)=(d:Int))=decide (c=d):=by
  intro c d
  by_cases h:c=d
  ·subst h;simp
  ·rw [dp h,dp (by omega)]
 rw [e,e,e,e]
 by_cases h1:x=b/\y=a
 ·obtain ⟨rfl,rfl⟩:=h1;simp
 ·rw [if_neg h1]
  by_cases h2:x=a/\y=b
  ·obtain ⟨rfl,rfl⟩:=h2;simp
  ·rw [if_neg h2]
   have:(decide (a=x)&&decide (b=y)||decide (a=y)&&decide (b=x))=false:=by
    simp;omega
   rw [this,Bool.or_false]
theorem EG {ps:List (Int×Int)} {pv:Value} {k:Int} {h:ad} {K:Value->ad->Prop} (hp:PS h pv ps) (hl:ps.length<=100)
  (aP:eO k ps=false->K (.tuple #[.pointer none,B false]) h) (dG:eO k ps=true->K (.tuple #[pt h.length 0,B true]) (h++[ay.arr 78 (bo k (bE ps))])):
  az Tryd.prog 37 [I k,pv] h K:=by
 have key:∀{K':Value->ad->Prop},(eO k ps=false->∀hx,EX h hx->K' (.tuple #[.pointer none,B false]) hx)->
   (eO k ps=true->∀hx,EX h hx->hx[h.length]?=some (ay.arr 78 (bo k (bE ps)))->K' (.tuple #[pt h.length 0,B true]) hx)->az Tryd.prog 37 [I k,pv] h K':=by
  intro K' aP dG
  refine f37 ?_
  simp only [tQ,dT,aq,Mm,Mn,Mo]
  rw [<-MY] at aP dG
  unfold xt at aP dG
  have AF:decide ((30:Int)<(ps.length:Int))= !decide (ps.length<=30):=by
   by_cases A8:ps.length<=30
   ·simp [A8];omega
   ·simp [A8];omega
  by_cases c1:k<1
  ·have:=aP (by simp;omega)
   simp [c1,sD]
   exact this h (EX.refl h)
  ·by_cases c2:6<k
   ·have:=aP (by simp;omega)
    simp [c1,c2,sD]
    exact this h (EX.refl h)
   ·by_cases c3:ps.length<=30
    ·have g1:decide (1<=k)=true:=by simp;omega
     have g2:decide (k<=6)=true:=by simp;omega
     have g3:decide (ps.length<=30)=true:=by simp [c3]
     rw [g1,g2,g3] at aP dG
     simp only [Bool.true_and] at aP dG
     have e1:decide (k<1)=false:=by simp [c1]
     have e2:decide (6<k)=false:=by simp [c2]
     simp only [e1,gB,qH,aq,e2,gi,hp.len,AF,g3,Bool.not_true,sD,fa]
     have eb:jx [(.int .i64 (0)),(.bool false),(.bool false),(.bool false),(.bool false),(.bool false),(.bool false),(.bool false),(.bool false),(.bool false),(.bool false),(.bool false),(.bool false),(.bool false),(.bool false),(.bool false),(.bool false),(.bool false),(.bool false),(.bool false),(.bool false),(.bool false),(.bool false),(.bool false),(.bool false),(.bool false),(.bool false),(.bool false),(.bool false),(.bool false),(.bool false),(.bool false),(.bool false),(.bool false),(.bool false),(.bool false),(.bool false)] [(0,1,I k)]
       =some (.agg (bo k (bE [])).toArray):=rfl
     simp only [I] at eb
     simp only [I,eb,aq]
     have ex:kc 78 h (.agg (bo k (bE [])).toArray)=some (pt h.length 0,h++[ay.arr 78 (bo k (bE []))]):=rfl
     simp only [ex,ca]
     refine eM (σ:=Nat×ad) (λp=>[I p.1]) (λp=>p.2)
      (λp=>p.1<=ps.length/\EX h p.2/\p.2[h.length]?=some (ay.arr 78 (bo k (bE (ps.take p.1))))/\(ps.take p.1).all (λp=>decide (0<=min p.1 p.2)&&decide (max p.1 p.2<k)&& !decide (p.1=p.2))=true) (λp=>ps.length-p.1)
      (0,h++[ay.arr 78 (bo k (bE []))]) rfl rfl ⟨by simp,EX.append _ _,by simp,rfl⟩ ?_
     rintro ⟨i,hx⟩ ⟨hi,hex,aA,dt⟩ L hL
     simp only at hi hex aA dt hL⊢
     rw [Mh]
     have JE:=hp.mono hex
     simp only [dT,aq,c9]
     refine ⟨λhlt=>?_,λeI=>?_⟩
     ·have du:i<ps.length:=by omega
      obtain ⟨b,o,s1,s2,s3,s4⟩:=JE.get i du
      have htk:ps.take (i+1)=ps.take i++[ps[i]]:=by rw [take_succ_eq_append_getElem du]
      simp only [s1,aq,s4]
      have ea:jw 62 [I 0,I 0] hx=some (pt hx.length 0,hx++[ay.arr 62 [I 0,I 0]]):=rfl
      simp only [I] at ea
      simp only [ea,ca]
      have es:dJ 2 (hx++[ay.arr 62 [.int .i64 0,.int .i64 0]]) (pt hx.length 0) (.agg #[I ps[i].1,I ps[i].2])=some (undef,hx++[ay.arr 62 [I ps[i].1,I ps[i].2]]):=by
       simp [dJ,jz,dI,bc,Value.cells,setAt]
      simp only [I] at es
      simp only [I,es,ca]
      have l1:aw false 1 (hx++[ay.arr 62 [I ps[i].1,I ps[i].2]]) (pt hx.length 0)=some (I ps[i].1):=kX rfl
      have l2:aw false 1 (hx++[ay.arr 62 [I ps[i].1,I ps[i].2]]) (pt hx.length 1)=some (I ps[i].2):=kX rfl
      simp only [I] at l1 l2
      simp only [jm,aq,add_zero,zero_add,l1,l2]
      have m1:=min2 ps[i].1 ps[i].2
      have m2:=B8 ps[i].1 ps[i].2
      simp only [I] at m1 m2
      simp only [m1,aq,dT,Mi,jm,add_zero,zero_add,l1,l2,m2,jN,Mj,Mk,mV]
      have bad:(decide (0<=min ps[i].1 ps[i].2)&&decide (max ps[i].1 ps[i].2<k)&& !decide (ps[i].1=ps[i].2))=false->K' (.tuple #[.pointer none,.bool false]) (hx++[ay.arr 62 [I ps[i].1,I ps[i].2]]):=by
       intro hb
       refine aP ?_ _ (hex.push _)
       rw [List.all_eq_false]
       exact ⟨ps[i],getElem_mem du,by rw [hb];simp⟩
      simp only [I] at bad
      by_cases d1:min ps[i].1 ps[i].2<0
      ·have:=bad (by rw [dp (by omega)];rfl)
       simp [d1,sE]
       exact this
      ·by_cases d2:k<=max ps[i].1 ps[i].2
       ·have:=bad (by rw [dp (p:=max ps[i].1 ps[i].2<k) (by omega)];simp)
        simp [d1,d2,sE]
        exact this
       ·by_cases d3:ps[i].1=ps[i].2
        ·have:=bad (by rw [gG d3];simp)
         simp only [dp d1,gB,jm,aq,add_zero,zero_add,l1,l2,dp d2,gi,gG d3,sE,gC]
         exact this
        ·simp only [dp d1,gB,jm,aq,add_zero,zero_add,l1,l2,dp d2,gi,dp d3,sE,fa,true_and,pL]
         obtain ⟨a,Ba⟩:∃a:Nat,ps[i].1=a:=⟨ps[i].1.toNat,by omega⟩
         obtain ⟨c,jo⟩:∃c:Nat,ps[i].2=c:=⟨ps[i].2.toNat,by omega⟩
         have jZ:a<6:=by omega
         have hc6:c<6:=by omega
         have ze:∀x:Nat,x<6->fq 6 6 (pt h.length 1) (I x)=some (pt h.length (1+x*6)):=by intro x Kf;simp [fq];omega
         have zf:∀q x:Nat,x<6->fq 6 1 (pt h.length q) (I x)=some (pt h.length (q+x)):=by intro q x Kf;simp [fq];omega
         have b1:=ze a jZ
         have b2:=zf (1+a*6) c hc6
         have b3:=ze c hc6
         have b4:=zf (1+c*6) a jZ
         rw [<-Ba] at b1 b4
         rw [<-jo] at b2 b3
         simp only [I] at b1 b2 b3 b4
         have Jn:h.length<hx.length:=(bu aA).1
         have xK:dJ 1 (hx++[ay.arr 62 [I ps[i].1,I ps[i].2]]) (pt h.length (1+a*6+c)) (.bool true)=
           some (undef,(hx++[ay.arr 62 [I ps[i].1,I ps[i].2]]).set h.length (ay.arr 78 (setAt (bo k (bE (ps.take i))) (1+a*6+c) [B true]))):=by
          have hg:(hx++[ay.arr 62 [I ps[i].1,I ps[i].2]])[h.length]?=some (ay.arr 78 (bo k (bE (ps.take i)))):=by rw [getElem?_append_left Jn];exact aA
          have Jk:=xO k (bE (ps.take i))
          have:1+a*6+c+1<=(bo k (bE (ps.take i))).length:=by omega
          simp [dJ,jz,hg,dI,bc,Value.cells,this]
         let hO:Nat->Nat->Bool:=λx y=>if x=a/\y=c then true else bE (ps.take i) x y
         have gO:=Ed (k:=k) (cm:=bE (ps.take i)) (cm':=hO) jZ hc6 (λx y _ _=>rfl)
         rw [gO] at xK
         simp only [I] at xK
         simp only [b1,aq,b2,xK,ca]
         have ld:∀(j:Nat) (v:Value),[I ps[i].1,I ps[i].2][j]?=some v->aw false 1 ((hx++[ay.arr 62 [I ps[i].1,I ps[i].2]]).set h.length (ay.arr 78 (bo k hO))) (pt hx.length j)=some v:=by
          intro j v hv
          have:((hx++[ay.arr 62 [I ps[i].1,I ps[i].2]]).set h.length (ay.arr 78 (bo k hO)))[hx.length]?=some (ay.arr 62 [I ps[i].1,I ps[i].2]):=by
           rw [getElem?_set_ne (by omega)]
           simp
          have h2:aU ((hx++[ay.arr 62 [I ps[i].1,I ps[i].2]]).set h.length (ay.arr 78 (bo k hO))) hx.length=some [I ps[i].1,I ps[i].2]:=by
           unfold aU
           rw [this]
          simp only [aw,h2,bind_some,cY]
          simpa using hv
         have BX:=ld 1 _ rfl
         have BW:=ld 0 _ rfl
         simp only [I] at BX BW
         refine ⟨⟨BX,BW,trivial⟩,?_⟩
         have xL:dJ 1 ((hx++[ay.arr 62 [I ps[i].1,I ps[i].2]]).set h.length (ay.arr 78 (bo k hO))) (pt h.length (1+c*6+a)) (.bool true)=
           some (undef,((hx++[ay.arr 62 [I ps[i].1,I ps[i].2]]).set h.length (ay.arr 78 (bo k hO))).set h.length (ay.arr 78 (setAt (bo k hO) (1+c*6+a) [B true]))):=by
          have hg:((hx++[ay.arr 62 [I ps[i].1,I ps[i].2]]).set h.length (ay.arr 78 (bo k hO)))[h.length]?=some (ay.arr 78 (bo k hO)):=by
           rw [List.getElem?_set_self (by simp;omega)]
          have Jk:=xO k hO
          have:1+c*6+a+1<=(bo k hO).length:=by omega
          simp [dJ,jz,hg,dI,bc,Value.cells,this]
         have hs2:=Ed (k:=k) (cm:=hO) (cm':=bE (ps.take (i+1))) hc6 jZ (λx y _ _=>by rw [htk,He _ _ Ba jo])
         rw [hs2] at xL
         simp only [I] at xL
         simp only [b3,aq,b4,xL,ca,cM,dA i (by omega)]
         refine hL (i+1,_) ⟨by omega,((hex.push _).set (le_refl _) _).set (le_refl _) _,?_,?_⟩ (by simp;omega)
         ·rw [List.getElem?_set_self (by simp;omega)]
         ·simp only [htk,List.all_append,dt,Bool.true_and,List.all_cons,List.all_nil,Bool.and_true]
          rw [gG (by omega),gG (by omega),dp d3]
          rfl
     ·have:i=ps.length:=by omega
      subst this
      rw [take_length] at aA dt
      rw [Ml]
      exact dG dt hx hex aA
    ·have:=aP (by simp;omega)
     have e1:decide (k<1)=false:=by simp [c1]
     have e2:decide (6<k)=false:=by simp [c2]
     have g3:decide (ps.length<=30)=false:=by simp;omega
     simp only [e1,gB,qH,aq,e2,gi,hp.len,AF,g3,Bool.not_false,sD,gC]
     exact this h (EX.refl h)
 cases ht:eO k ps with
 | false=>
  refine oD (v:=.tuple #[.pointer none,B false]) (Ren.tuple (l:=[λ_=>.pointer none,λ_=>B false]) (.cons (Ren.bn rfl) (.cons (Ren.bn rfl) .nil))) ?_ (aP ht)
  exact key (λ_ hx hex=>⟨rfl,hex⟩) (λh1=>by rw [ht] at h1;cases h1)
 | true=>
  refine As (V:=λi=>.tuple #[pt i 0,B true]) (o:=ay.arr 78 (bo k (bE ps))) (Ren.tuple (l:=[λi=>pt i 0,λ_=>B true]) (.cons (Ren.pt 0) (.cons (Ren.bn rfl) .nil))) ?_ ?_ (dG ht)
  ·simp [iW,bo,bn]
  ·exact key (λh1=>by rw [ht] at h1;cases h1) (λ_ hx hex hg=>⟨hex,h.length,le_refl _,hg,rfl⟩)
end
section
theorem sX {k:Int} {ps:List (Int×Int)} (h:eO k ps=true):∃n:Nat,k=n/\1<=n/\n<=6:=by
 obtain ⟨_,h1,h2,_⟩:=Ee h
 exact ⟨k.toNat,by omega,by omega,by omega⟩
theorem r7 {n:Nat} {s:List UInt8} (h:s.any (gb n)=false):letters n s:=by
 intro c hc
 have:=qF h hc
 simp only [gb,Bool.or_eq_false_iff,decide_eq_false_iff_not] at this
 refine ⟨c.toNat-97,by omega,?_⟩
 apply UInt8.toNat_inj.1
 rw [lt,UInt8.toNat_ofNat']
 have:=UInt8.toNat_lt c
 omega
theorem xD {k:Int} {ls:List (List UInt8)} {most:Nat} (h:jC k ls most=0):∀s∈ls,s.length<=most/\s.any (gb k)=false:=by
 unfold jC at h
 cases h1:ls.any (λs=>decide (most<s.length)) with
 | true=>rw [h1] at h;simp at h
 | false=>
  cases h2:ls.any (λs=>s.any (gb k)) with
  | true=>rw [h1,h2] at h;simp at h
  | false=>
   intro s hs
   have a:=qF h1 hs
   have b:=qF h2 hs
   simp only [decide_eq_false_iff_not] at a
   exact ⟨by omega,b⟩
theorem th {ps:List (Int×Int)} {pv lv:Value} {ls:List (List UInt8)} {k:Int} {most:Nat} {h:ad} {K:Value->ad->Prop} (hp:PS h pv ps) (hl:ps.length<=100) (mg:SS h lv ls) (rG:ls.length<=1000)
  (hs:∀s∈ls,s.length<=1000) (aP:cT k ps ls most≠0->K (.tuple #[.pointer none,I (cT k ps ls most)]) h)
  (dG:cT k ps ls most=0->K (.tuple #[pt h.length 0,I 0]) (h++[.arr 78 (bo k (bE ps))])):az Tryd.prog 17 [I k,pv,I most,lv] h K:=by
 have key:∀{K':Value->ad->Prop},(cT k ps ls most≠0->∀hx,EX h hx->K' (.tuple #[.pointer none,I (cT k ps ls most)]) hx)->
   (cT k ps ls most=0->K' (.tuple #[pt h.length 0,I 0]) (h++[.arr 78 (bo k (bE ps))]))->az Tryd.prog 17 [I k,pv,I most,lv] h K':=by
  intro K' aP dG
  unfold cT at aP dG
  refine f17 (EG hp hl (λht=>?_) (λht=>?_))
  ·rw [ht] at aP
   have:=aP (by simp) h (EX.refl h)
   simpa using this
  ·rw [ht] at aP dG
   simp only [if_true] at aP dG
   obtain ⟨n,rfl,hn1,bK⟩:=sX ht
   have hex:EX h (h++[.arr 78 (bo n (bE ps))]):=EX.append _ _
   have pq:=mg.mono hex
   generalize h++[.arr 78 (bo n (bE ps))]=hx at hex pq dG⊢
   have e0:(#[pt h.length 0,B true]:Array Value)[0]?=some (pt h.length 0):=rfl
   have e1:(#[pt h.length 0,B true]:Array Value)[1]?=some (B true):=rfl
   simp only [gI,e0,e1,aq,s8,Bool.not_true,fa,pq.len]
   refine eM (σ:=Nat) (λi=>[I i]) (λ_=>hx) (λi=>i<=ls.length/\(ls.take i).any (λs=>decide (most<s.length))=false) (λi=>ls.length-i) 0 rfl rfl ⟨by omega,rfl⟩ ?_
   rintro i ⟨hi,hf⟩ L hL
   rw [L9]
   simp only [dT,aq,c9]
   refine ⟨λhlt=>?_,λeI=>?_⟩
   ·have l7:i<ls.length:=by omega
    obtain ⟨b,o,s1,s2⟩:=pq.get i l7
    have htk:ls.take (i+1)=ls.take i++[ls[i]]:=by rw [take_succ_eq_append_getElem l7]
    simp only [s1,aq,s2,kW,qH,c9,cM,dA i (by omega),true_and]
    refine ⟨λl5=>?_,λhle=>?_⟩
    ·have nq:ls.any (λs=>decide (most<s.length))=true:=any_eq_true.2 ⟨ls[i],getElem_mem l7,by simp;omega⟩
     have he:jC n ls most=3:=by unfold jC;rw [nq];simp
     rw [he] at aP
     exact aP (by omega) hx hex
    ·refine hL (i+1) ⟨by omega,?_⟩ (by omega)
     rw [htk,any_append,hf]
     simp
     omega
   ·have:i=ls.length:=by omega
    subst this
    rw [take_length] at hf
    rw [L0]
    simp only [pq.len,aq]
    refine eM (σ:=Nat) (λi=>[I i]) (λ_=>hx) (λi=>i<=ls.length/\(ls.take i).any (λs=>s.any (gb n))=false) (λi=>ls.length-i) 0 rfl rfl ⟨by omega,rfl⟩ ?_
    rintro i ⟨hi,hg⟩ L1 IG
    rw [L4]
    simp only [dT,aq,c9]
    refine ⟨λhlt=>?_,λeI=>?_⟩
    ·have l7:i<ls.length:=by omega
     obtain ⟨b,o,s1,s2⟩:=pq.get i l7
     have htk:ls.take (i+1)=ls.take i++[ls[i]]:=by rw [take_succ_eq_append_getElem l7]
     have eu:ls[i]∈ls:=getElem_mem l7
     have hlen:=hs ls[i] eu
     simp only [s1,aq,s2,kW]
     refine eM (σ:=Nat) (λj=>[I j]) (λ_=>hx) (λj=>j<=ls[i].length/\(ls[i].take j).any (gb n)=false) (λj=>ls[i].length-j) 0 rfl rfl ⟨by omega,rfl⟩ ?_
     rintro j ⟨hj,hh⟩ L2 iC
     rw [L5]
     simp only [dT,aq,c9]
     refine ⟨λhlt2=>?_,λBe=>?_⟩
     ·have rC:j<ls[i].length:=by omega
      have J6:ls[i].take (j+1)=ls[i].take j++[ls[i][j]]:=by rw [take_succ_eq_append_getElem rC]
      rw [rX _ rC]
      simp only [aq,dT,L6]
      have bad:gb n ls[i][j]=true->K' (.tuple #[.pointer none,.int .i64 2]) hx:=by
       intro hb
       have nq:ls.any (λs=>s.any (gb n))=true:=any_eq_true.2 ⟨ls[i],eu,any_eq_true.2 ⟨ls[i][j],getElem_mem rC,hb⟩⟩
       have he:jC n ls most=2:=by unfold jC;rw [hf,nq];simp
       rw [he] at aP
       exact aP (by omega) hx hex
      have AS:gb n ls[i][j]=false->L2 [I ((j+1:Nat):Int)] hx:=by
       intro hb
       refine iC (j+1) ⟨by omega,?_⟩ (by omega)
       rw [J6,any_append,hh]
       simp [hb]
      simp only [gb] at bad AS
      have hb:=UInt8.toNat_lt ls[i][j]
      by_cases bJ:(ls[i][j].toNat:Int)<97
      ·simp only [gG bJ,yH,DN,rW,aq,gC]
       exact bad (by simp [bJ])
      ·simp only [dp bJ,gB,rX _ rC,aq,lE,cM,jN]
       rw [iZ (n:=(n:Int)) (by omega) (by omega),iZ (by omega) (by omega)]
       simp only [DN,gi,aq,c9,cM,dA j (by omega),true_and]
       refine ⟨λeI=>bad ?_,λeI=>AS ?_⟩
       ·rw [gG (p:=(n:Int)<=(ls[i][j].toNat:Int)-97) (by omega)];simp
       ·rw [dp bJ,dp (by omega)];rfl
     ·have:j=ls[i].length:=by omega
      subst this
      rw [take_length] at hh
      rw [L7]
      simp only [cM,aq,dA i (by omega),true_and]
      refine IG (i+1) ⟨by omega,?_⟩ (by omega)
      rw [htk,any_append,hg]
      simp [hh]
    ·have:i=ls.length:=by omega
     subst this
     rw [take_length] at hg
     rw [L8]
     exact dG (by unfold jC;rw [hf,hg];simp)
 by_cases hw:cT k ps ls most=0
 ·exact key (λh1=>absurd hw h1) dG
 ·refine oD (v:=.tuple #[.pointer none,I (cT k ps ls most)]) (Ren.tuple (l:=[λ_=>.pointer none,λ_=>I (cT k ps ls most)]) (.cons (Ren.bn rfl) (.cons (Ren.bn rfl) .nil))) ?_ (aP hw)
  exact key (λ_ hx hex=>⟨rfl,hex⟩) (λh1=>absurd h1 hw)
def eT (ps:List (Int×Int)) (s:List UInt8):List UInt8:=bX (aG ps) 6 s.length s
theorem qz {ps:List (Int×Int)} {n:Nat} (hn:n<=6) {s:List UInt8} (hs:letters n s):bX (fe (bE ps)) n s.length s=eT ps s:=
 BZ hn hs λa b ha hb=>uY ps (by omega) (by omega)
theorem xW {k:Int} {ps:List (Int×Int)} {ls:List (List UInt8)} {most:Nat} (h:cT k ps ls most=0):eO k ps=true/\jC k ls most=0:=by
 unfold cT at h
 cases ht:eO k ps with
 | false=>rw [ht] at h;simp at h
 | true=>rw [ht] at h;exact ⟨rfl,by simpa using h⟩
theorem Lp (s u:List UInt8) (h:ad):bR 9 2 [.string ⟨#[]⟩] h [(0,1,S s),(1,1,S u)]=some (sl 9 h.length 0 2,h++[.arr 9 [S s,S u]]):=by
 simp [bR,hP,dS,dI,bc,Value.cells,setAt,S]
def nf (k:Int) (ps:List (Int×Int)) (s u:List UInt8):Value:=
 .tuple #[B (decide (cT k ps [s,u] 40=0)&&decide (eT ps s=eT ps u)),I (cT k ps [s,u] 40)]
theorem EB {ps:List (Int×Int)} {pv:Value} {s u:List UInt8} {k:Int} {h:ad} {K:Value->ad->Prop} (hp:PS h pv ps) (hl:ps.length<=100) (hs:s.length<=1000) (hu:u.length<=1000)
  (hk:K (nf k ps s u) h):az Tryd.prog 14 [I k,pv,S s,S u] h K:=by
 refine oD (v:=nf k ps s u) (Ren.tuple (l:=[λ_=>B _,λ_=>I _]) (.cons (Ren.bn rfl) (.cons (Ren.bn rfl) .nil))) ?_ hk
 refine f14 ?_
 simp only [tG,Lp,ca]
 have hx:EX h (h++[.arr 9 [S s,S u]]):=EX.append _ _
 have mg:SS (h++[.arr 9 [S s,S u]]) (sl 9 h.length 0 2) [s,u]:=SS.sl (ls:=[s,u]) (by simp [aU])
 refine th (most:=40) (hp.mono hx) hl mg (by simp) (by simp;exact ⟨hs,hu⟩) (λhw=>?_) (λhw=>?_)
 ·have e0:(#[.pointer none,I (cT k ps [s,u] 40)]:Array Value)[0]?=some (.pointer none):=rfl
  have e1:(#[.pointer none,I (cT k ps [s,u] 40)]:Array Value)[1]?=some (I (cT k ps [s,u] 40)):=rfl
  simp only [gI,e0,e1,aq,mW,dp hw,Bool.not_false,gC]
  exact ⟨by unfold nf;rw [dp hw];rfl,hx⟩
 ·obtain ⟨ht,pk⟩:=xW hw
  obtain ⟨n,rfl,hn1,bK⟩:=sX ht
  have aj:=xD pk
  have ls:=r7 (aj s (by simp)).2
  have lu:=r7 (aj u (by simp)).2
  generalize vp:h++[.arr 9 [S s,S u]]=h1 at*
  have e0:(#[pt h1.length 0,I 0]:Array Value)[0]?=some (pt h1.length 0):=rfl
  have e1:(#[pt h1.length 0,I 0]:Array Value)[1]?=some (I 0):=rfl
  simp only [gI,e0,e1,aq,mW,decide_true,Bool.not_true,fa]
  have fo:TH (h1++[.arr 78 (bo n (bE ps))]) (pt h1.length 0) n (bE ps):=⟨h1.length,rfl,by simp [aU]⟩
  refine qi (k:=n) fo bK hs ls ?_
  refine qi (k:=n) fo bK hu lu ?_
  rw [qz bK ls,qz bK lu]
  simp only [zi,aq]
  refine ⟨?_,hx.push _⟩
  unfold nf
  rw [hw]
  simp
end
section
open Go.Sim Go.ChangeShapes Go.WideShapes Go.ChangeAt Go.RowKit
theorem Tryd.own:ownKnob Tryd.prog.godebug=none:=by kernel_rfl
theorem Tryd.laidOut:laidOutB Tryd.prog=true:=by kernel_rfl
section
variable {H : Type} {enc : TypeId × Value -> H} {W : World} {ρ : ai} {h : ad}
end
end
section
open Go.Sim Go.ChangeShapes Go.WideShapes Go.ChangeAt Go.RowKit
set_option maxRecDepth 100000
theorem Hc:Tryd.prog.cellsOf 39=2:=by kernel_rfl
theorem Av:Tryd.prog.cellsOf 5=1:=by kernel_rfl
theorem Hb:Tryd.prog.cellsOf 37=1:=by kernel_rfl
section
variable {H : Type} {enc : TypeId × Value -> H} {W : World} {ρ : ai} {h : ad}
theorem wf_u8 {x:Int} (h:(Lit.int .u8 x).wf=true):0<=x/\x<256:=by
 simp [Lit.wf,IntKind.min,IntKind.max,IntKind.signed,IntKind.bits] at h
 omega
theorem Hd {cs:Array Value} {a b:Value} (h:cs.toList=[a,b]):cs=#[a,b]:=by
 apply Array.ext'
 simpa using h
theorem HV {b:Nat} {v:Value} {d:DataW H} {ps:List MemPlace} (aj:Value.okWide Tryd.prog W .any b 39 v) (hd:DataW.Trod enc Tryd.prog W 0 (λ_=>true) true 39 v d ps):
  ∃kk f:Int,v=.agg #[.int .u8 kk,.int .u16 f]/\0<=kk/\kk<256:=by
 simp only [Value.okWide,Tryd.underlying39] at aj
 obtain ⟨cs,rfl,_⟩:=aj
 obtain ⟨fuel,hf⟩:=hd
 simp only [Value.cells] at hf
 obtain ⟨y0,y1,m,_,hl,h0,h1⟩:=trod_struct2 Tryd.underlying39 hf
 simp only [Hc,Av,Hb] at hl h0 h1
 obtain ⟨c0,c1,kL⟩:∃c0 c1,cs.toList=[c0,c1]:=by
  match cs.toList,hl with
  | [c0,c1],_=>exact ⟨c0,c1,rfl⟩
 rw [kL] at h0 h1
 simp at h0 h1
 obtain ⟨k,hk,_,hw⟩:=DataW.trod_int Tryd.underlying5 h0
 obtain ⟨f,hf,_,_⟩:=DataW.trod_int Tryd.underlying37 h1
 simp at hk hf
 subst hk
 subst hf
 exact ⟨k,f,by rw [Hd kL],wf_u8 hw⟩
theorem H4 {b:Nat} {v:Value} {d:DataW H} {ps:List MemPlace} (aj:Value.okWide Tryd.prog W .any b 40 v) (hd:DataW.Trod enc Tryd.prog W 0 (λ_=>true) true 40 v d ps) (HR:av Tryd.prog ρ h W) (dW:gp h):
  ∃(ae:ai) (g:ad) (v':Value) (ns:List Int),ρ.le ae/\av Tryd.prog ae (h++g) W/\gp (h++g)/\af ae v' v/\NS (h++g) v' .u8 ns/\∀x∈ns,0<=x/\x<256:=by
 simp only [Value.okWide,Tryd.underlying40] at aj
 obtain ⟨fuel,hf⟩:=hd
 have hv:v.cells.toList=[v]:=by
  have Bp:=aj
  simp only [Cell.okWide,Tryd.underlying40,Cell.ok] at Bp
  cases v <;> simp at Bp <;> rfl
 rw [hv] at hf
 have key:=HX (P:=Tryd.prog) (W:=W) (enc:=enc) (ρ:=ρ) (h:=h) Tryd.underlying40 Tryd.underlying5 Av (fuel:=fuel) (v:=v) (x:=(d,ps)) (b:=b)
 obtain ⟨ae,g,v',ns,e1,e2,e3,e4,_,e6,e7⟩:=key hf aj HR dW
 exact ⟨ae,g,v',ns,e1,e2,e3,e4,e6,λx hx=>wf_u8 (e7 x hx)⟩
end
end
section
variable (P : Program) (K : VK)
noncomputable section
variable (c0 x1 k5 p6 s7 l8 aB f11 n12 g13 aY aM i16 fW nM cw jf hG jI gy mL gz kv jJ qf lp qg lj gZ : Value) (L1 L2 : LQ) (xs : List Value) (h : ad)
def Cz:=cH Tryd.prog 4 [[],[],[],[],[],[],[5,6,7,8,10,11,12,13,53],[5,6,7,8,10,12,13,53,55],[5,6,7,8,10,12,13,57],[5,6,7,8,10,12,57,59],[5,6,7,8,10,12,61],[5,6,7,8,12,61,63],[5,6,7,8,12,65],[5,6,7,8,12,65,67],[],[],[],[],[],[5,6,7,8,12],[14,15,16],[],[],[],[5,6,7,8,12,14,15,16,17,87],[5,6,7,8,12,14,15,16,17,87,89],[5,6,7,8,12,14,15,16,17,91],[5,6,7,8,12,14,15,16,17,91,97],[],[],[],[],[],[5,6,7,8,12,15,16],[14,19],[],[],[],[5,6,7,8,12,14,15,16],[5,6,7,8,12,14,15,16],[7,12,14,15],[7,15,128],[128,132],[]]
@[irreducible] def c4:=dy Cz
@[irreducible] def zV:=c4.r.r.r.r.r.r.l.l.r.l
@[irreducible] def GU:=c4.r.r.r.r.r.r.l.r
@[irreducible] def ui:=c4.r.r.r.r.r.r.r
@[irreducible] def zW:=zV.r.l
@[irreducible] def oA:=ui.r.l.r.l.l
@[irreducible] def Ac:=ui.r.r
@[irreducible] def zX:=zW.r.l
@[irreducible] def Ae:=oA.r.l.l.r.l.l.r.l
@[irreducible] def GM:=oA.r.l.l.r.l.r
@[irreducible] def ug:=oA.r.l.l.r.r
@[irreducible] def Ad:=oA.r.r
@[irreducible] def uh:=Ac.l
@[irreducible] def zY:=zX.r.l
@[irreducible] def Af:=Ae.r.l
@[irreducible] def GO:=ug.r.l.r.l.l
@[irreducible] def Ah:=ug.r.r
@[irreducible] def GQ:=Ad.l
@[irreducible] def Ai:=uh.l.r.l
@[irreducible] def GR:=uh.r
@[irreducible] def zZ:=zY.r.l
@[irreducible] def Ag:=Af.r.l
@[irreducible] def GP:=Ah.l
@[irreducible] def GS:=Ai.r.l
@[irreducible] def Aa:=zZ.r.l
@[irreducible] def GN:=Ag.r.l
@[irreducible] def Ab:=Aa.r.l
@[irreducible] def GL:=Ab.r.l
theorem k4:Cz=some (134,c4,[.tmp 4]):=by kernel_rfl
def lq (_P:Program) (K:VK):ax:=bD [.tmp 4] K
def yX:ax:=aJ (ar P ui (lq P K)) (lq P K)
def ky:ax:=aJ (ar P GU (yX P K)) (yX P K)
def Fz:ax:=aJ (ar P Ac (lq P K)) (lq P K)
def FA:ax:=bO 0 (Fz P K)
def qt:ax:=aJ (λf' aS=>(([5,6,7,8,12]:List Nat).map f':List Value)=[k5,p6,s7,l8,n12]/\L1 (([14,15,16]:List Nat).map f') aS) (FA P K)
def FB:ax:=aJ (ar P Ad (qt P K k5 p6 s7 l8 n12 L1)) (qt P K k5 p6 s7 l8 n12 L1)
def oa:ax:=bO 1 (FB P K k5 p6 s7 l8 n12 L1)
def yV:ax:=aJ (ar P ug (oa P K k5 p6 s7 l8 n12 L1)) (oa P K k5 p6 s7 l8 n12 L1)
def qu:ax:=aJ (ar P GM (yV P K k5 p6 s7 l8 n12 L1)) (yV P K k5 p6 s7 l8 n12 L1)
def FC:ax:=aJ (ar P Ah (oa P K k5 p6 s7 l8 n12 L1)) (oa P K k5 p6 s7 l8 n12 L1)
def FD:ax:=bO 2 (FC P K k5 p6 s7 l8 n12 L1)
def FE:ax:=aJ (λf' aS=>(([5,6,7,8,12,15,16]:List Nat).map f':List Value)=[k5,p6,s7,l8,n12,aM,i16]/\L2 (([14,19]:List Nat).map f') aS) (FD P K k5 p6 s7 l8 n12 L1)
def yW:ax:=aJ (ar P GR (lq P K)) (lq P K)
def De:Prop:=aF (ar P zV (ky P K)) [5,6,7,8,10,11,12,13,53] [k5,p6,s7,l8,aB,f11,n12,g13,cw] h
def w8:Prop:=aF (ar P zW (ky P K)) [5,6,7,8,10,12,13,53,55] [k5,p6,s7,l8,aB,n12,g13,cw,jf] h
def Df:Prop:=aF (ar P zX (ky P K)) [5,6,7,8,10,12,13,57] [k5,p6,s7,l8,aB,n12,g13,hG] h
def w9:Prop:=aF (ar P zY (ky P K)) [5,6,7,8,10,12,57,59] [k5,p6,s7,l8,aB,n12,hG,jI] h
def Dg:Prop:=aF (ar P zZ (ky P K)) [5,6,7,8,10,12,61] [k5,p6,s7,l8,aB,n12,gy] h
def xa:Prop:=aF (ar P Aa (ky P K)) [5,6,7,8,12,61,63] [k5,p6,s7,l8,n12,gy,mL] h
def Dh:Prop:=aF (ar P Ab (ky P K)) [5,6,7,8,12,65] [k5,p6,s7,l8,n12,gz] h
def xb:Prop:=aF (ar P GL (ky P K)) [5,6,7,8,12,65,67] [k5,p6,s7,l8,n12,gz,kv] h
def Di:Prop:=aF (ar P oA (qt P K k5 p6 s7 l8 n12 L1)) ([5,6,7,8,12]++[14,15,16]) ([k5,p6,s7,l8,n12]++xs) h
def Dj:Prop:=aF (ar P Ae (qu P K k5 p6 s7 l8 n12 L1)) [5,6,7,8,12,14,15,16,17,87] [k5,p6,s7,l8,n12,aY,aM,i16,fW,jJ] h
def xc:Prop:=aF (ar P Af (qu P K k5 p6 s7 l8 n12 L1)) [5,6,7,8,12,14,15,16,17,87,89] [k5,p6,s7,l8,n12,aY,aM,i16,fW,jJ,qf] h
def Dk:Prop:=aF (ar P Ag (qu P K k5 p6 s7 l8 n12 L1)) [5,6,7,8,12,14,15,16,17,91] [k5,p6,s7,l8,n12,aY,aM,i16,fW,lp] h
def xd:Prop:=aF (ar P GN (qu P K k5 p6 s7 l8 n12 L1)) [5,6,7,8,12,14,15,16,17,91,97] [k5,p6,s7,l8,n12,aY,aM,i16,fW,lp,qg] h
def xe:Prop:=aF (ar P GO (FE P K k5 p6 s7 l8 n12 aM i16 L1 L2)) ([5,6,7,8,12,15,16]++[14,19]) ([k5,p6,s7,l8,n12,aM,i16]++xs) h
def xf:Prop:=aF (ar P GP (oa P K k5 p6 s7 l8 n12 L1)) [5,6,7,8,12,14,15,16] [k5,p6,s7,l8,n12,aY,aM,i16] h
def Dl:Prop:=aF (ar P GQ (qt P K k5 p6 s7 l8 n12 L1)) [5,6,7,8,12,14,15,16] [k5,p6,s7,l8,n12,aY,aM,i16] h
def Dm:Prop:=aF (ar P uh (lq P K)) [7,12,14,15] [s7,n12,aY,aM] h
def Dn:Prop:=aF (ar P Ai (yW P K)) [7,15,128] [s7,aM,lj] h
def xh:Prop:=aF (ar P GS (yW P K)) [128,132] [lj,gZ] h
theorem My:xb P K k5 p6 s7 l8 n12 gz kv h=
 (OP (dH gz (.bool true) kv) λyc=>
 bd yc
 (K (.bool false) h)
 (cE [(.int .i64 (1)),(.int .i64 (0)),(.int .i64 (0))] h λL1 xs hx=>
 Di P K k5 p6 s7 l8 n12 L1 xs hx)):=aI (by kernel_rfl)
theorem Mx:Dh P K k5 p6 s7 l8 n12 gz h=
 (c8 gz false
 (az P 9 [] h λyb z1=>
 OP (gS .not yb) λkv=>
 xb P K k5 p6 s7 l8 n12 gz kv z1)
 (xb P K k5 p6 s7 l8 n12 gz undef h)):=aI (by kernel_rfl)
theorem Mw:xa P K k5 p6 s7 l8 n12 gy mL h=
 (OP (dH gy (.bool true) mL) λqc=>
 Dh P K k5 p6 s7 l8 n12 qc h):=aI (by kernel_rfl)
theorem Mv:Dg P K k5 p6 s7 l8 aB n12 gy h=
 (c8 gy false
 (OP (gS .not aB) λmL=>
 xa P K k5 p6 s7 l8 n12 gy mL h)
 (xa P K k5 p6 s7 l8 n12 gy undef h)):=aI (by kernel_rfl)
theorem Mu:w9 P K k5 p6 s7 l8 aB n12 hG jI h=
 (OP (dH hG (.bool true) jI) λln=>
 Dg P K k5 p6 s7 l8 aB n12 ln h):=aI (by kernel_rfl)
theorem Mt:Df P K k5 p6 s7 l8 aB n12 g13 hG h=
 (c8 hG false
 (OP (au .neq g13 (.int .i64 (0))) λjI=>
 w9 P K k5 p6 s7 l8 aB n12 hG jI h)
 (w9 P K k5 p6 s7 l8 aB n12 hG undef h)):=aI (by kernel_rfl)
theorem Ms:w8 P K k5 p6 s7 l8 aB n12 g13 cw jf h=
 (OP (dH cw (.bool true) jf) λqb=>
 Df P K k5 p6 s7 l8 aB n12 g13 qb h):=aI (by kernel_rfl)
theorem Mr:De P K k5 p6 s7 l8 aB f11 n12 g13 cw h=
 (c8 cw false
 (OP (au .neq f11 (.int .i64 (0))) λjf=>
 w8 P K k5 p6 s7 l8 aB n12 g13 cw jf h)
 (w8 P K k5 p6 s7 l8 aB n12 g13 cw undef h)):=aI (by kernel_rfl)
theorem MD:xd P K k5 p6 s7 l8 n12 aY aM i16 fW lp qg L1 h=
 (OP (dH lp (.bool true) qg) λOQ=>
 bd OQ
 (K (.bool false) h)
 (OP (au .mul aY fW) λOm=>
 cE [Om,(.int .i64 (1))] h λL2 xs hx=>
 xe P K k5 p6 s7 l8 n12 aM i16 L1 L2 xs hx)):=aI (by kernel_rfl)
theorem MC:Dk P K k5 p6 s7 l8 n12 aY aM i16 fW lp L1 h=
 (c8 lp false
 (OP (cd 1 l8 i16) λOM=>
 OP (aw false 1 h OM) λON=>
 OP (ft ON) λOO=>
 OP (au .gtr OO (.int .i64 (12))) λqg=>
 xd P K k5 p6 s7 l8 n12 aY aM i16 fW lp qg L1 h)
 (xd P K k5 p6 s7 l8 n12 aY aM i16 fW lp undef L1 h)):=aI (by kernel_rfl)
theorem MB:xc P K k5 p6 s7 l8 n12 aY aM i16 fW jJ qf L1 h=
 (OP (dH jJ (.bool true) qf) λOL=>
 Dk P K k5 p6 s7 l8 n12 aY aM i16 fW OL L1 h):=aI (by kernel_rfl)
theorem MA:Dj P K k5 p6 s7 l8 n12 aY aM i16 fW jJ L1 h=
 (c8 jJ false
 (OP (au .lss fW (.int .i64 (1))) λqf=>
 xc P K k5 p6 s7 l8 n12 aY aM i16 fW jJ qf L1 h)
 (xc P K k5 p6 s7 l8 n12 aY aM i16 fW jJ undef L1 h)):=aI (by kernel_rfl)
theorem ME (k5 p6 s7 l8 n12 aM i16:Value) (L1 L2:LQ) (aY nM:Value) (h:ad):xe P K k5 p6 s7 l8 n12 aM i16 L1 L2 [aY,nM] h=
 (OP (cd 1 l8 i16) λOn=>
 OP (aw false 1 h On) λOo=>
 OP (ft Oo) λkr=>
 OP (au .leq nM kr) λOq=>
 bd Oq
 (OP (au .add aM nM) λOu=>
 OP (au .mul aY Ou) λOv=>
 OP (au .quo Ov nM) λOw=>
 OP (au .add nM (.int .i64 (1))) λOt=>
 ([k5,p6,s7,l8,n12,aM,i16]:List Value)=[k5,p6,s7,l8,n12,aM,i16]/\L2 [Ow,Ot] h)
 (xf P K k5 p6 s7 l8 n12 aY aM i16 L1 h)):=aI (by kernel_rfl)
theorem MF:xf P K k5 p6 s7 l8 n12 aY aM i16 L1 h=
 (OP (cd 1 l8 i16) λOx=>
 OP (aw false 1 h Ox) λOy=>
 OP (ft Oy) λOz=>
 OP (au .add aM Oz) λOA=>
 Dl P K k5 p6 s7 l8 n12 aY OA i16 L1 h):=aI (by kernel_rfl)
theorem MH:Dl P K k5 p6 s7 l8 n12 aY aM i16 L1 h=
 (OP (au .add i16 (.int .i64 (1))) λmM=>
 ([k5,p6,s7,l8,n12]:List Value)=[k5,p6,s7,l8,n12]/\L1 [aY,aM,mM] h):=aI (by kernel_rfl)
theorem Mz (k5 p6 s7 l8 n12:Value) (L1:LQ) (aY aM i16:Value) (h:ad):Di P K k5 p6 s7 l8 n12 L1 [aY,aM,i16] h=
 (OP (eK l8) λyd=>
 OP (au .lss i16 yd) λye=>
 bd ye
 (OP (cd 1 l8 i16) λyj=>
 OP (aw false 1 h yj) λOJ=>
 az P 16 [k5,p6,OJ] h λEt z1=>
 OP (dx 0 Et) λOK=>
 OP (dx 1 Et) λyk=>
 OP (au .neq yk (.int .i64 (0))) λqe=>
 Dj P K k5 p6 s7 l8 n12 aY aM i16 OK qe L1 z1)
 (Dm P K s7 n12 aY aM h)):=aI (by kernel_rfl)
theorem MK:xh P K lj gZ h=
 (OP (dH lj gZ (.bool false)) λOD=>
 K OD h):=aI (by kernel_rfl)
theorem MJ:Dn P K s7 aM lj h=
 (c8 lj true
 (OP (ft s7) λOC=>
 OP (au .eql aM OC) λgZ=>
 xh P K lj gZ h)
 (xh P K lj undef h)):=aI (by kernel_rfl)
theorem MI:Dm P K s7 n12 aY aM h=
 (OP (au .eql aY n12) λOB=>
 Dn P K s7 aM OB h):=aI (by kernel_rfl)
def T4:Prop:=
 OH (kc 39 h c0) λc2 z1=>
 OP (aw true 2 z1 c2) λgw=>
 az P 12 [gw] z1 λbY z2=>
 OP (dx 0 bY) λaX=>
 OP (dx 1 bY) λbg=>
 az P 13 [aX,x1,(.int .i64 (12))] z2 λaE z3=>
 az P 7 [aX,bg,aE] z3 λil z4=>
 OP (dx 0 il) λjG=>
 OP (dx 1 il) λje=>
 az P 15 [jG] z4 λku z5=>
 az P 14 [aX,bg,aE,ku] z5 λmK z6=>
 OP (dx 0 mK) λeR=>
 OP (dx 1 mK) λcf=>
 az P 16 [aX,bg,aE] z6 λnY z7=>
 OP (dx 0 nY) λhC=>
 OP (dx 1 nY) λqa=>
 OP (au .neq je (.int .i64 (0))) λya=>
 De P K aX bg aE jG eR cf hC qa ya z7
theorem e4:ar P c4 (bD [.tmp 4] K) (cj [c0,x1]) h=T4 P K c0 x1 h:=by kernel_rfl
theorem f4 {K:VK} {c0 x1:Value} {h:ad} (H:T4 Tryd.prog K c0 x1 h):az Tryd.prog 4 [c0,x1] h K:=
 dn k4 (dB rfl) ((e4 Tryd.prog K c0 x1 h).mpr H)
end
noncomputable section
variable (k0 x1 s2 t8 aB cZ aN i14 aE aZ eY eR cw eZ : Value) (L1 L2 L3 : LQ) (xs : List Value) (h : ad)
def CC:=cH Tryd.prog 7 [[],[],[],[],[],[],[],[2,8,27],[10,28],[],[],[],[],[2,8,10,12,27,28,39],[2,8,10,12,27,28,39,42],[],[],[],[],[2,8,10,13,27,28],[14],[],[],[],[2,8,10,13,14,27,28,53],[54],[],[],[],[],[2,8,10,13,14,27,28,53,54],[2,8,10,13,14,27,28],[2,8,10,13,27,28],[2,8,10,27,28],[10],[]]
@[irreducible] def c7:=dy CC
@[irreducible] def oC:=c7.r.r.r.r.l.r.l.l
@[irreducible] def Ar:=c7.r.r.r.r.r
@[irreducible] def An:=oC.r.r.l.l.r.r.l.l.r.l
@[irreducible] def GZ:=oC.r.r.l.l.r.r.l.r
@[irreducible] def um:=oC.r.r.l.l.r.r.r
@[irreducible] def Am:=oC.r.r.r
@[irreducible] def G6:=Ar.l
@[irreducible] def G0:=An.r.l
@[irreducible] def uo:=um.r.l.r.l.l
@[irreducible] def Ao:=um.r.r
@[irreducible] def G5:=Am.l
@[irreducible] def Aq:=uo.r.l.l.r.l.l
@[irreducible] def Ap:=uo.r.r
@[irreducible] def G4:=Ao.l
@[irreducible] def G1:=Aq.r.r.r.l
@[irreducible] def G3:=Ap.l
theorem k7:CC=some (89,c7,[.tmp 6,.tmp 7]):=by kernel_rfl
def tB (_P:Program) (K:VK):ax:=bD [.tmp 6,.tmp 7] K
def FP:ax:=aJ (ar P Ar (tB P K)) (tB P K)
def FQ:ax:=bO 0 (FP P K)
def qx:ax:=aJ (λf' aS=>(([2,8,27]:List Nat).map f':List Value)=[s2,t8,aE]/\L1 (([10,28]:List Nat).map f') aS) (FQ P K)
def FJ:ax:=aJ (ar P Am (qx P K s2 t8 aE L1)) (qx P K s2 t8 aE L1)
def oc:ax:=bO 1 (FJ P K s2 t8 aE L1)
def y3:ax:=aJ (ar P um (oc P K s2 t8 aE L1)) (oc P K s2 t8 aE L1)
def y4:ax:=aJ (ar P GZ (y3 P K s2 t8 aE L1)) (y3 P K s2 t8 aE L1)
def FK:ax:=aJ (ar P Ao (oc P K s2 t8 aE L1)) (oc P K s2 t8 aE L1)
def FL:ax:=bO 2 (FK P K s2 t8 aE L1)
def qy:ax:=aJ (λf' aS=>(([2,8,10,13,27,28]:List Nat).map f':List Value)=[s2,t8,aB,aN,aE,aZ]/\L2 (([14]:List Nat).map f') aS) (FL P K s2 t8 aE L1)
def FM:ax:=aJ (ar P Ap (qy P K s2 t8 aB aN aE aZ L1 L2)) (qy P K s2 t8 aB aN aE aZ L1 L2)
def FN:ax:=bO 3 (FM P K s2 t8 aB aN aE aZ L1 L2)
def FO:ax:=bO 4 (FN P K s2 t8 aB aN aE aZ L1 L2)
def y5:ax:=aJ (λf' aS=>(([2,8,10,13,14,27,28,53]:List Nat).map f':List Value)=[s2,t8,aB,aN,i14,aE,aZ,cw]/\L3 (([54]:List Nat).map f') aS) (FO P K s2 t8 aB aN aE aZ L1 L2)
def Dq:Prop:=aF (ar P oC (qx P K s2 t8 aE L1)) ([2,8,27]++[10,28]) ([s2,t8,aE]++xs) h
def Dr:Prop:=aF (ar P An (y4 P K s2 t8 aE L1)) [2,8,10,12,27,28,39] [s2,t8,aB,cZ,aE,aZ,eY] h
def sr:Prop:=aF (ar P G0 (y4 P K s2 t8 aE L1)) [2,8,10,12,27,28,39,42] [s2,t8,aB,cZ,aE,aZ,eY,eR] h
def xj:Prop:=aF (ar P uo (qy P K s2 t8 aB aN aE aZ L1 L2)) ([2,8,10,13,27,28]++[14]) ([s2,t8,aB,aN,aE,aZ]++xs) h
def Ds:Prop:=aF (ar P Aq (y5 P K s2 t8 aB aN i14 aE aZ cw L1 L2 L3)) ([2,8,10,13,14,27,28,53]++[54]) ([s2,t8,aB,aN,i14,aE,aZ,cw]++xs) h
def mB:Prop:=aF (ar P G1 (y5 P K s2 t8 aB aN i14 aE aZ cw L1 L2 L3)) [2,8,10,13,14,27,28,53,54] [s2,t8,aB,aN,i14,aE,aZ,cw,eZ] h
def Dt:Prop:=aF (ar P G3 (qy P K s2 t8 aB aN aE aZ L1 L2)) [2,8,10,13,14,27,28] [s2,t8,aB,aN,i14,aE,aZ] h
def Du:Prop:=aF (ar P G4 (oc P K s2 t8 aE L1)) [2,8,10,13,27,28] [s2,t8,aB,aN,aE,aZ] h
def su:Prop:=aF (ar P G5 (qx P K s2 t8 aE L1)) [2,8,10,27,28] [s2,t8,aB,aE,aZ] h
def Dv:Prop:=aF (ar P G6 (tB P K)) [10] [aB] h
theorem DO:sr P K s2 t8 aB cZ aE aZ eY eR L1 h=
 (OP (dH eY (.bool true) eR) λcf=>
 bd cf
 (su P K s2 t8 aB aE aZ L1 h)
 (OP (aw false 1 h cZ) λc6=>
 OH (bR 5 1 [(.int .u8 (0))] h [(0,1,c6)]) λp9 z1=>
 OH (jw 40 [(.slice none 0 0)] z1) λaN z2=>
 OH (dJ 1 z2 aN p9) λ_ z3=>
 cE [(.int .i64 (0))] z3 λL2 xs hx=>
 xj P K s2 t8 aB aN aE aZ L1 L2 xs hx)):=aI (by kernel_rfl)
theorem MO:Dr P K s2 t8 aB cZ aE aZ eY L1 h=
 (c8 eY false
 (az P 19 [aB,(.func (.func 20) #[] #[cZ])] h λeR z1=>
 sr P K s2 t8 aB cZ aE aZ eY eR L1 z1)
 (sr P K s2 t8 aB cZ aE aZ eY undef L1 h)):=aI (by kernel_rfl)
theorem MR:mB P K s2 t8 aB aN i14 aE aZ cw eZ L1 L2 L3 h=
 (OP (au .add eZ (.int .i64 (1))) λyj=>
 ([s2,t8,aB,aN,i14,aE,aZ,cw]:List Value)=[s2,t8,aB,aN,i14,aE,aZ,cw]/\L3 [yj] h):=aI (by kernel_rfl)
theorem MQ (s2 t8 aB aN i14 aE aZ cw:Value) (L1 L2 L3:LQ) (eZ:Value) (h:ad):Ds P K s2 t8 aB aN i14 aE aZ cw L1 L2 L3 [eZ] h=
 (OP (au .lss eZ cw) λjf=>
 bd jf
 (OP (aw false 1 h aN) λjH=>
 (True)/\
 OP (cd 1 jH i14) λln=>
 OP (aw false 1 h ln) λgy=>
 (True)/\
 OP (eX s2 eZ) λqc=>
 az P 21 [t8,gy,qc] h λgz z1=>
 (True)/\
 c8 gz true
 (OP (aw false 1 z1 aN) λkv=>
 (True)/\
 OP (eX s2 eZ) λOI=>
 az P 22 [kv,OI] z1 λyd z2=>
 (True)/\
 OP (gS .not yd) λye=>
 OP (dH gz ye (.bool false)) λyf=>
 bd yf
 (OP (aw false 1 z2 aN) λmM=>
 (True)/\
 OP (eX s2 eZ) λyg=>
 OH (bR 5 1 [(.int .u8 (0))] z2 [(0,1,yg)]) λyh z3=>
 (aw false 1 z3 aN=some mM/\True)/\
 OH (cO 5 1 1 z3 mM yh) λqd z4=>
 (True)/\
 OH (dJ 1 z4 aN qd) λ_ z5=>
 (True)/\
 mB P K s2 t8 aB aN i14 aE aZ cw eZ L1 L2 L3 z5)
 (mB P K s2 t8 aB aN i14 aE aZ cw eZ L1 L2 L3 z2))
 ((True)/\
 OP (dH gz undef (.bool false)) λyf=>
 bd yf
 (OP (aw false 1 z1 aN) λmM=>
 (True)/\
 OP (eX s2 eZ) λyg=>
 OH (bR 5 1 [(.int .u8 (0))] z1 [(0,1,yg)]) λyh z2=>
 (aw false 1 z2 aN=some mM/\True)/\
 OH (cO 5 1 1 z2 mM yh) λqd z3=>
 (True)/\
 OH (dJ 1 z3 aN qd) λ_ z4=>
 (True)/\
 mB P K s2 t8 aB aN i14 aE aZ cw eZ L1 L2 L3 z4)
 (mB P K s2 t8 aB aN i14 aE aZ cw eZ L1 L2 L3 z1)))
 (Dt P K s2 t8 aB aN i14 aE aZ L1 L2 h)):=aI (by kernel_rfl)
theorem MS:Dt P K s2 t8 aB aN i14 aE aZ L1 L2 h=
 (OP (au .add i14 (.int .i64 (1))) λim=>
 ([s2,t8,aB,aN,aE,aZ]:List Value)=[s2,t8,aB,aN,aE,aZ]/\L2 [im] h):=aI (by kernel_rfl)
theorem MP (s2 t8 aB aN aE aZ:Value) (L1 L2:LQ) (i14:Value) (h:ad):xj P K s2 t8 aB aN aE aZ L1 L2 [i14] h=
 (OP (aw false 1 h aN) λx0=>
 OP (eK x0) λnY=>
 OP (au .lss i14 nY) λhC=>
 bd hC
 (OP (ft s2) λcw=>
 cE [(.int .i64 (0))] h λL3 xs hx=>
 Ds P K s2 t8 aB aN i14 aE aZ cw L1 L2 L3 xs hx)
 (Du P K s2 t8 aB aN aE aZ L1 h)):=aI (by kernel_rfl)
theorem MT:Du P K s2 t8 aB aN aE aZ L1 h=
 (az P 23 [(.func (.func 24) #[] #[aN]),s2] h λyk z1=>
 OH (bR 9 1 [(.string ⟨#[]⟩)] z1 [(0,1,yk)]) λyl z2=>
 OH (cO 9 1 16 z2 aB yl) λqe z3=>
 su P K s2 t8 qe aE aZ L1 z3):=aI (by kernel_rfl)
theorem DP:su P K s2 t8 aB aE aZ L1 h=
 (OP (au .add aZ (.int .i64 (1))) λjJ=>
 ([s2,t8,aE]:List Value)=[s2,t8,aE]/\L1 [aB,jJ] h):=aI (by kernel_rfl)
theorem MN (s2 t8 aE:Value) (L1:LQ) (aB aZ:Value) (h:ad):Dq P K s2 t8 aE L1 [aB,aZ] h=
 (OP (au .lss aZ aE) λfY=>
 bd fY
 (OP (iO .u8 aZ) λil=>
 OP (au .add (.int .u8 (97)) il) λjG=>
 OH (jw 5 [(.int .u8 (0))] h) λcZ z1=>
 OH (dJ 1 z1 cZ jG) λ_ z2=>
 OP (aw false 1 z2 cZ) λeC=>
 OP (pC eC) λaR=>
 az P 18 [s2,aR] z2 λbk z3=>
 OP (gS .not bk) λbS=>
 Dr P K s2 t8 aB cZ aE aZ bS L1 z3)
 (Dv P K aB h)):=aI (by kernel_rfl)
theorem MU:Dv P K aB h=
 (K (.tuple #[aB,(.int .i64 (0))]) h):=aI (by kernel_rfl)
def T7:Prop:=
 OH (bR 9 1 [(.string ⟨#[]⟩)] h [(0,1,s2)]) λik z1=>
 az P 17 [k0,x1,(.int .i64 (40)),ik] z1 λgw z2=>
 OP (dx 0 gw) λbY=>
 OP (dx 1 gw) λaX=>
 OP (au .neq aX (.int .i64 (0))) λbZ=>
 bd bZ
 (K (.tuple #[(.slice none 0 0),aX]) z2)
 (cE [(.slice none 0 0),(.int .i64 (0))] z2 λL1 xs hx=>
 Dq P K s2 bY k0 L1 xs hx)
theorem e7:ar P c7 (bD [.tmp 6,.tmp 7] K) (cj [k0,x1,s2]) h=T7 P K k0 x1 s2 h:=by kernel_rfl
theorem f7 {K:VK} {k0 x1 s2:Value} {h:ad} (H:T7 Tryd.prog K k0 x1 s2 h):az Tryd.prog 7 [k0,x1,s2] h K:=
 dn k7 (dB rfl) ((e7 Tryd.prog K k0 x1 s2 h).mpr H)
end
noncomputable section
variable (s0 x1 : Value) (h : ad)
def Cm:=cH Tryd.prog 18 [[],[]]
@[irreducible] def zC:=dy Cm
theorem KK:Cm=some (9,zC,[.tmp 4]):=by kernel_rfl
def tI:Prop:=
 az P 38 [s0,x1] h λx7 z1=>
 OP (au .geq x7 (.int .i64 (0))) λx8=>
 K x8 z1
theorem Hw:ar P zC (bD [.tmp 4] K) (cj [s0,x1]) h=tI P K s0 x1 h:=by kernel_rfl
theorem f18 {K:VK} {s0 x1:Value} {h:ad} (H:tI Tryd.prog K s0 x1 h):az Tryd.prog 18 [s0,x1] h K:=
 dn KK (dB rfl) ((Hw Tryd.prog K s0 x1 h).mpr H)
end
noncomputable section
variable (s0 f1 : Value) (h : ad)
def Cn:=cH Tryd.prog 19 [[],[]]
@[irreducible] def zD:=dy Cn
theorem KL:Cn=some (9,zD,[.tmp 4]):=by kernel_rfl
def tJ:Prop:=
 az P 39 [s0,f1] h λx7 z1=>
 OP (au .geq x7 (.int .i64 (0))) λx8=>
 K x8 z1
theorem Hx:ar P zD (bD [.tmp 4] K) (cj [s0,f1]) h=tJ P K s0 f1 h:=by kernel_rfl
theorem f19 {K:VK} {s0 f1:Value} {h:ad} (H:tJ Tryd.prog K s0 f1 h):az Tryd.prog 19 [s0,f1] h K:=
 dn KL (dB rfl) ((Hx Tryd.prog K s0 f1 h).mpr H)
end
noncomputable section
variable (p0 x1 : Value) (h : ad)
def Co:=cH Tryd.prog 20 [[],[]]
@[irreducible] def zE:=dy Co
theorem KM:Co=some (8,zE,[.tmp 3]):=by kernel_rfl
def tK:Prop:=
 OP (aw false 1 h x1) λx5=>
 OP (pC x5) λx6=>
 az P 18 [p0,x6] h λx7 z1=>
 K x7 z1
theorem Hy:ar P zE (bD [.tmp 3] K) (cj [p0,x1]) h=tK P K p0 x1 h:=by kernel_rfl
theorem f20 {K:VK} {p0 x1:Value} {h:ad} (H:tK Tryd.prog K p0 x1 h):az Tryd.prog 20 [p0,x1] h K:=
 dn KM (dB rfl) ((Hy Tryd.prog K p0 x1 h).mpr H)
end
noncomputable section
variable (s0 v1 : Value) (h : ad)
def Cq:=cH Tryd.prog 22 [[],[]]
@[irreducible] def zG:=dy Cq
theorem KO:Cq=some (9,zG,[.tmp 4]):=by kernel_rfl
def tM:Prop:=
 az P 40 [s0,v1] h λx7 z1=>
 OP (au .geq x7 (.int .i64 (0))) λx8=>
 K x8 z1
theorem HA:ar P zG (bD [.tmp 4] K) (cj [s0,v1]) h=tM P K s0 v1 h:=by kernel_rfl
theorem f22 {K:VK} {s0 v1:Value} {h:ad} (H:tM Tryd.prog K s0 v1 h):az Tryd.prog 22 [s0,v1] h K:=
 dn KO (dB rfl) ((HA Tryd.prog K s0 v1 h).mpr H)
end
noncomputable section
variable (c0 x1 : Value) (h : ad)
def Cr:=cH Tryd.prog 24 [[],[],[],[],[]]
@[irreducible] def zH:=dy Cr
theorem KP:Cr=some (9,zH,[.tmp 3]):=by kernel_rfl
def tN:Prop:=
 OP (aw false 1 h x1) λx4=>
 OP (iO .u8 c0) λx6=>
 az P 22 [x4,x6] h λx7 z1=>
 bd x7
 (K c0 z1)
 (K (.int .i32 (-1)) z1)
theorem HB:ar P zH (bD [.tmp 3] K) (cj [c0,x1]) h=tN P K c0 x1 h:=by kernel_rfl
theorem f24 {K:VK} {c0 x1:Value} {h:ad} (H:tN Tryd.prog K c0 x1 h):az Tryd.prog 24 [c0,x1] h K:=
 dn KP (dB rfl) ((HB Tryd.prog K c0 x1 h).mpr H)
end
noncomputable section
variable (s0 x1 : Value) (h : ad)
def Cx:=cH Tryd.prog 38 [[],[]]
@[irreducible] def zU:=dy Cx
theorem KV:Cx=some (8,zU,[.tmp 4]):=by kernel_rfl
def tR:Prop:=
 az P 60 [s0,x1] h λx7 z1=>
 K x7 z1
theorem HK:ar P zU (bD [.tmp 4] K) (cj [s0,x1]) h=tR P K s0 x1 h:=by kernel_rfl
theorem f38 {K:VK} {s0 x1:Value} {h:ad} (H:tR Tryd.prog K s0 x1 h):az Tryd.prog 38 [s0,x1] h K:=
 dn KV (dB rfl) ((HK Tryd.prog K s0 x1 h).mpr H)
end
noncomputable section
variable (s0 f1 x7 x8 : Value) (L1 : LQ) (xs : List Value) (h : ad)
def Cy:=cH Tryd.prog 39 [[],[],[0,1,7],[8],[],[],[],[],[],[],[],[]]
@[irreducible] def qQ:=dy Cy
@[irreducible] def GI:=qQ.r.l.r.l.l
@[irreducible] def GH:=qQ.r.r
theorem KW:Cy=some (19,qQ,[.tmp 4]):=by kernel_rfl
def yT (_P:Program) (K:VK):ax:=bD [.tmp 4] K
def Ft:ax:=aJ (ar P GH (yT P K)) (yT P K)
def Fu:ax:=bO 0 (Ft P K)
def Fv:ax:=aJ (λf' aS=>(([0,1,7]:List Nat).map f':List Value)=[s0,f1,x7]/\L1 (([8]:List Nat).map f') aS) (Fu P K)
def Dc:Prop:=aF (ar P GI (Fv P K s0 f1 x7 L1)) ([0,1,7]++[8]) ([s0,f1,x7]++xs) h
theorem Mp (s0 f1 x7:Value) (L1:LQ) (x8:Value) (h:ad):Dc P K s0 f1 x7 L1 [x8] h=
 (OP (au .lss x8 x7) λx9=>
 bd x9
 (OP (cd 1 s0 x8) λaY=>
 OP (aw false 1 h aY) λaM=>
 jK P f1 [aM] h λeQ z1=>
 bd eQ
 (K x8 z1)
 (OP (au .add x8 (.int .i64 (1))) λfH=>
 ([s0,f1,x7]:List Value)=[s0,f1,x7]/\L1 [fH] z1))
 (K (.int .i64 (-1)) h)):=aI (by kernel_rfl)
def tS:Prop:=
 OP (eK s0) λx7=>
 cE [(.int .i64 (0))] h λL1 xs hx=>
 Dc P K s0 f1 x7 L1 xs hx
theorem HL:ar P qQ (bD [.tmp 4] K) (cj [s0,f1]) h=tS P K s0 f1 h:=by kernel_rfl
theorem f39 {K:VK} {s0 f1:Value} {h:ad} (H:tS Tryd.prog K s0 f1 h):az Tryd.prog 39 [s0,f1] h K:=
 dn KW (dB rfl) ((HL Tryd.prog K s0 f1 h).mpr H)
end
noncomputable section
variable (s0 v1 x7 x8 : Value) (L1 : LQ) (xs : List Value) (h : ad)
def CA:=cH Tryd.prog 40 [[],[],[0,1,7],[8],[],[],[],[],[],[],[],[]]
@[irreducible] def qR:=dy CA
@[irreducible] def GK:=qR.r.l.r.l.l
@[irreducible] def GJ:=qR.r.r
theorem KX:CA=some (19,qR,[.tmp 4]):=by kernel_rfl
def yU (_P:Program) (K:VK):ax:=bD [.tmp 4] K
def Fw:ax:=aJ (ar P GJ (yU P K)) (yU P K)
def Fx:ax:=bO 0 (Fw P K)
def Fy:ax:=aJ (λf' aS=>(([0,1,7]:List Nat).map f':List Value)=[s0,v1,x7]/\L1 (([8]:List Nat).map f') aS) (Fx P K)
def Dd:Prop:=aF (ar P GK (Fy P K s0 v1 x7 L1)) ([0,1,7]++[8]) ([s0,v1,x7]++xs) h
theorem Mq (s0 v1 x7:Value) (L1:LQ) (x8:Value) (h:ad):Dd P K s0 v1 x7 L1 [x8] h=
 (OP (au .lss x8 x7) λx9=>
 bd x9
 (OP (cd 1 s0 x8) λaY=>
 OP (aw false 1 h aY) λaM=>
 OP (au .eql v1 aM) λeQ=>
 bd eQ
 (K x8 h)
 (OP (au .add x8 (.int .i64 (1))) λfH=>
 ([s0,v1,x7]:List Value)=[s0,v1,x7]/\L1 [fH] h))
 (K (.int .i64 (-1)) h)):=aI (by kernel_rfl)
def tT:Prop:=
 OP (eK s0) λx7=>
 cE [(.int .i64 (0))] h λL1 xs hx=>
 Dd P K s0 v1 x7 L1 xs hx
theorem HM:ar P qR (bD [.tmp 4] K) (cj [s0,v1]) h=tT P K s0 v1 h:=by kernel_rfl
theorem f40 {K:VK} {s0 v1:Value} {h:ad} (H:tT Tryd.prog K s0 v1 h):az Tryd.prog 40 [s0,v1] h K:=
 dn KX (dB rfl) ((HM Tryd.prog K s0 v1 h).mpr H)
end
noncomputable section
variable (s0 x1 x4 n5 ov t9 mE jh dC bY aR kr gZ : Value) (L1 : LQ) (xs : List Value) (h : ad)
def CB:=cH Tryd.prog 60 [[],[],[0,1,4,5,12,19,36,107,132],[0,1,4,5,12,19,22,36,107,132],[],[],[],[],[],[],[],[],[],[],[],[],[],[],[0,1,5,6,7,9],[8,10,12,107,132],[],[],[],[],[],[],[],[0,1,5,6,7,8,9,10,12,107,132],[0,1,5,6,7,8,9,10,12,84,107,132],[0,1,5,6,7,8,9,10,12,84,92,107,132],[],[],[],[],[],[],[],[],[],[],[],[],[],[],[],[],[],[],[]]
@[irreducible] def oB:=dy CB
@[irreducible] def Ak:=oB.r.r.l.l.l.r.l
@[irreducible] def GX:=oB.r.r.l.l.r
@[irreducible] def uj:=oB.r.r.r
@[irreducible] def GY:=Ak.r.l
@[irreducible] def Aj:=uj.r.r.r.r.r.l.l.l
@[irreducible] def GV:=uj.r.r.r.r.r.r
@[irreducible] def uk:=Aj.r.l.r.l
@[irreducible] def GW:=uk.l.l.r.l
@[irreducible] def OY:=uk.l.r
@[irreducible] def OX:=uk.r
@[irreducible] def OZ:=GW.r.l
theorem KY:CB=some (143,oB,[.tmp 4]):=by kernel_rfl
def qw (_P:Program) (K:VK):ax:=bD [.tmp 4] K
def FI:ax:=aJ (ar P uj (qw P K)) (qw P K)
def yY:ax:=bO 0 (FI P K)
def yZ:ax:=aJ (ar P GX (yY P K)) (yY P K)
def FF:ax:=aJ (ar P GV (qw P K)) (qw P K)
def FG:ax:=bO 1 (FF P K)
def FH (s0 x1 n5 ov jh t9:Value) (L1:LQ):ax:=aJ (λf' aS=>(([0,1,5,6,7,9]:List Nat).map f':List Value)=[s0,x1,n5,ov,jh,t9]/\L1 (([8,10,12,107,132]:List Nat).map f') aS) (FG P K)
def Dp:Prop:=aF (ar P Ak (yZ P K)) [0,1,4,5,12,19,36,107,132] [s0,x1,x4,n5,mE,dC,aR,kr,gZ] h
def xi:Prop:=aF (ar P GY (yZ P K)) [0,1,4,5,12,19,22,36,107,132] [s0,x1,x4,n5,mE,dC,bY,aR,kr,gZ] h
def LB (s0 x1 n5 ov jh t9:Value) (L1:LQ) (xs:List Value) (h:ad):Prop:=aF (ar P Aj (FH P K s0 x1 n5 ov jh t9 L1)) ([0,1,5,6,7,9]++[8,10,12,107,132]) ([s0,x1,n5,ov,jh,t9]++xs) h
theorem MM:xi P K s0 x1 x4 n5 mE dC bY aR kr gZ h=
 (OP (dH dC (.bool true) bY) λaX=>
 bd aX
 (K (.int .i64 (0)) h)
 (OP (au .eql n5 (.int .i64 (1))) λdj=>
 bd dj
 (OP (eX x1 (.int .i64 (0))) λfY=>
 az P 77 [s0,fY] h λfz z1=>
 K fz z1)
 (OP (ft s0) λje=>
 OP (au .geq n5 je) λeC=>
 bd eC
 (K (.int .i64 (-1)) h)
 (OH none λ_ z1=>
 bd aR
 (OH none λ_ z2=>
 K x4 z2)
 (OP (eX x1 (.int .i64 (0))) λhC=>
 OP (eX x1 (.int .i64 (1))) λim=>
 OP (ft s0) λcw=>
 OP (au .sub cw n5) λjf=>
 OP (au .add jf (.int .i64 (1))) λqb=>
 cE [(.int .i64 (0)),(.int .i64 (0)),mE,kr,gZ] z1 λL1 xs hx=>
 LB P K s0 x1 n5 hC im qb L1 xs hx))))):=aI (by kernel_rfl)
theorem ML:Dp P K s0 x1 x4 n5 mE dC aR kr gZ h=
 (c8 dC false
 (OP (au .eql x1 s0) λbY=>
 xi P K s0 x1 x4 n5 mE dC bY aR kr gZ h)
 (xi P K s0 x1 x4 n5 mE dC undef aR kr gZ h)):=aI (by kernel_rfl)
def tU:Prop:=
 OP (ft x1) λaM=>
 OP (au .eql aM (.int .i64 (0))) λfH=>
 Dp P K s0 x1 (.int .i64 (0)) aM undef fH undef undef undef h
theorem HN:ar P oB (bD [.tmp 4] K) (cj [s0,x1]) h=tU P K s0 x1 h:=by kernel_rfl
theorem f60 {K:VK} {s0 x1:Value} {h:ad} (H:tU Tryd.prog K s0 x1 h):az Tryd.prog 60 [s0,x1] h K:=
 dn KY (dB rfl) ((HN Tryd.prog K s0 x1 h).mpr H)
end
noncomputable section
variable (s0 c1 : Value) (h : ad)
def CD:=cH Tryd.prog 77 [[],[]]
@[irreducible] def Al:=dy CD
theorem KZ:CD=some (8,Al,[.tmp 4]):=by kernel_rfl
def tV (_P:Program) (K:VK) (s0 c1:Value) (h:ad):Prop:=
 OP (pA s0 c1) λx7=>
 K x7 h
theorem HO:ar P Al (bD [.tmp 4] K) (cj [s0,c1]) h=tV P K s0 c1 h:=by kernel_rfl
theorem f77 {K:VK} {s0 c1:Value} {h:ad} (H:tV Tryd.prog K s0 c1 h):az Tryd.prog 77 [s0,c1] h K:=
 dn KZ (dB rfl) ((HO Tryd.prog K s0 c1 h).mpr H)
end
end
end Go.Proofs.YtlpdhfdpnakgdaaDoor
namespace Go.Sim
section
def EM (fr:UInt8->UInt8->Bool) (s:List UInt8) (Q:UInt8->Prop):Prop:=∀a,Q a->∀y∈s,fr a y=false->Q y
def fQ (fr:UInt8->UInt8->Bool) (s:List UInt8) (x y:UInt8):Prop:=∀Q:UInt8->Prop,Q x->EM fr s Q->Q y
open Classical in
noncomputable def nI (fr:UInt8->UInt8->Bool) (s:List UInt8) (x y:UInt8):Bool:=decide (fQ fr s x y)
theorem pD {fr:UInt8->UInt8->Bool} {s:List UInt8} {x y:UInt8}:nI fr s x y=true↔fQ fr s x y:=by simp [nI]
noncomputable def kj (fr:UInt8->UInt8->Bool) (s:List UInt8) (x:UInt8):List UInt8:=s.filter (nI fr s x)
noncomputable def bP (fr:UInt8->UInt8->Bool) (s:List UInt8):Nat->List (List UInt8)
 | 0=>[]
 | a+1=>if lt a∈s/\(bP fr s a).any (λp=>p.contains (lt a))=false then bP fr s a++[kj fr s (lt a)] else bP fr s a
theorem pE (fr:UInt8->UInt8->Bool) (s:List UInt8) (x:UInt8):fQ fr s x x:=λ_ h _=>h
theorem wq {fr:UInt8->UInt8->Bool} {s:List UInt8} {x y z:UInt8} (h:fQ fr s x y) (hz:z∈s) (hf:fr y z=false):fQ fr s x z:=λQ q0 q1=>q1 y (h Q q0 q1) z hz hf
theorem BD {fr:UInt8->UInt8->Bool} {s:List UInt8} {x y:UInt8} (hx:x∈s) (h:fQ fr s x y):y∈s:=h (·∈s) hx λ_ _ _ hy _=>hy
structure fB (fr:UInt8->UInt8->Bool) (s:List UInt8) (x:UInt8) (P:List UInt8) (i:Nat):Prop where
 here:x∈P
 nd:P.Nodup
 nJ:∀y∈P,fQ fr s x y
 done:∀m (hm:m<P.length),m<i->∀y∈s,fr P[m] y=false->y∈P
theorem fB.start (fr:UInt8->UInt8->Bool) (s:List UInt8) (x:UInt8):fB fr s x [x] 0:=
 ⟨by simp,by simp,λy hy=>by rw [mem_singleton.1 hy];exact pE fr s x,λm _ h=>by omega⟩
theorem fB.push {fr:UInt8->UInt8->Bool} {s:List UInt8} {x y:UInt8} {P:List UInt8} {i:Nat} (b:fB fr s x P i) (hi:i<=P.length) (hy:y∉P) (hc:fQ fr s x y):fB fr s x (P++[y]) i:=by
 refine ⟨by simp [b.here],?_,?_,?_⟩
 ·rw [List.nodup_append]
  refine ⟨b.nd,by simp,?_⟩
  rintro a ha c hc rfl
  rw [mem_singleton.1 hc] at ha
  exact hy ha
 ·intro z hz
  rcases mem_append.1 hz with hz | hz
  ·exact b.nJ z hz
  ·rw [mem_singleton.1 hz];exact hc
 ·intro m hm pc z hz hf
  have pe:m<P.length:=by omega
  rw [List.getElem_append_left pe] at hf
  exact List.mem_append_left _ (b.done m pe pc z hz hf)
theorem fB.next {fr:UInt8->UInt8->Bool} {s:List UInt8} {x:UInt8} {P:List UInt8} {i:Nat} (b:fB fr s x P i) (hi:i<P.length) (h:∀y∈s,fr P[i] y=false->y∈P):fB fr s x P (i+1):=
 ⟨b.here,b.nd,b.nJ,λm hm pc y hy hf=>by
  by_cases e:m=i
  ·subst e;exact h y hy hf
  ·exact b.done m hm (by omega) y hy hf⟩
theorem fB.full {fr:UInt8->UInt8->Bool} {s:List UInt8} {x:UInt8} {P:List UInt8} (b:fB fr s x P P.length) (y:UInt8):P.contains y=nI fr s x y:=by
 rw [Bool.eq_iff_iff,contains_iff_mem,pD]
 refine ⟨b.nJ y,λh=>h (·∈P) b.here ?_⟩
 intro a ha z hz hf
 obtain ⟨m,hm,rfl⟩:=List.getElem_of_mem ha
 exact b.done m hm hm z hz hf
theorem Cf:∀(L P:List UInt8),P.Nodup->(∀y∈P,y∈L)->P.length<=L.length
 | [],P,_,h=>by
  cases P with
  | nil=>simp
  | cons a P=>exact absurd (h a (by simp)) (by simp)
 | x::L,P,hn,h=>by
  have ih:=Cf L (P.erase x) (hn.erase x) λy hy=>by
   have h1:=(hn.mem_erase_iff).1 hy
   rcases List.mem_cons.1 (h y h1.2) with h2 | h2
   ·exact absurd h2 h1.1
   ·exact h2
  rw [List.length_erase] at ih
  rw [length_cons]
  split at ih <;> omega
theorem fB.short {fr:UInt8->UInt8->Bool} {s:List UInt8} {x:UInt8} {P:List UInt8} {i:Nat} (b:fB fr s x P i) (hx:x∈s) (hs:letters 6 s):letters 6 P/\P.length<=6:=by
 have hl:letters 6 P:=λy hy=>hs y (BD hx (b.nJ y hy))
 refine ⟨hl,Cf [lt 0,lt 1,lt 2,lt 3,lt 4,lt 5] P b.nd λy hy=>?_⟩
 obtain ⟨a,ha,rfl⟩:=hl y hy
 have:a=0∨a=1∨a=2∨a=3∨a=4∨a=5:=by omega
 rcases this with rfl | rfl | rfl | rfl | rfl | rfl <;> simp
theorem LD {fr:UInt8->UInt8->Bool} {s:List UInt8} {k:Nat} (hs:letters k s) (hk:k<=50):∀n,k<=n->n<=50->bP fr s n=bP fr s k:=by
 intro n hn Pq
 induction n with
 | zero=>rw [show k=0 by omega]
 | succ n ih=>
  by_cases e:k=n+1
  ·rw [e]
  ·rw [<-ih (by omega) (by omega)]
   simp only [bP]
   rw [if_neg]
   rintro ⟨h,_⟩
   obtain ⟨a,ha,he⟩:=hs _ h
   have h1:=congrArg UInt8.toNat he
   rw [iS (by omega),iS (by omega)] at h1
   omega
theorem xm (fr:UInt8->UInt8->Bool) (s:List UInt8):∀n,(bP fr s n).length<=n
 | 0=>le_refl _
 | n+1=>by
  have:=xm fr s n
  simp only [bP]
  split
  ·rw [length_append];simp;omega
  ·omega
end
section
theorem EX.load {h h':ad} (k:EX h h') {agg:Bool} {n:Nat} {a v:Value} (hl:aw agg n h a=some v):aw agg n h' a=some v:=by
 unfold aw at hl⊢
 split at hl
 ·rename_i i o
  cases hc:aU h i with
  | none=>rw [hc] at hl;cases hl
  | some xs=>rw [hc] at hl;rw [k.cells hc];exact hl
 ·cases hl
theorem dA (i:Nat) (h:i<4611686018427387904):IntKind.wrap .i64 ((i:Int)+1)=((i+1:Nat):Int):=by
 rw [wrap64 (by omega) (by omega)];omega
@[simp] theorem jm (o i k : Nat) : dR o (pt i k) = some (pt i (k + o)) := rfl
@[simp] theorem pL (i k : Nat) : jy (pt i k) = some (pt i k) := rfl
def bN (ps:List (Int×Int)):List Value:=ps.flatMap λp=>[I p.1,I p.2]
theorem kl:∀{ps:List (Int×Int)} {k:Nat} {p:Int×Int},ps[k]?=some p->(bN ps)[2*k]?=some (I p.1)/\(bN ps)[2*k+1]?=some (I p.2)
 | [],k,p,h=>by simp at h
 | q::ps,0,p,h=>by simp at h;subst h;simp [bN]
 | q::ps,k+1,p,h=>by
  have:=kl (ps:=ps) (k:=k) (p:=p) (by simpa using h)
  rw [show 2*(k+1)=2*k+1+1 by omega]
  simpa [bN] using this
theorem sx (ps:List (Int×Int)):(bN ps).length=2*ps.length:=by
 induction ps with
 | nil=>rfl
 | cons p ps ih=>simp only [bN,List.flatMap_cons,length_append,length_cons,List.length_nil] at ih⊢;omega
structure PS (h:ad) (v:Value) (ps:List (Int×Int)):Prop where
 len:eK v=some (I ps.length)
 get:∀k (hk:k<ps.length),∃i o,cd 2 v (I k)=some (pt i o)/\aw false 1 h (pt i o)=some (I ps[k].1)/\aw false 1 h (pt i (o+1))=some (I ps[k].2)/\
  aw true 2 h (pt i o)=some (.agg #[I ps[k].1,I ps[k].2])
theorem PS.mono {h h':ad} {v:Value} {ps:List (Int×Int)} (k:EX h h') (p:PS h v ps):PS h' v ps:=
 ⟨p.len,λj hj=>let ⟨i,o,a,b,c,d⟩:=p.get j hj;⟨i,o,a,EX.load k b,EX.load k c,EX.load k d⟩⟩
theorem PS.sl {h:ad} {e:TypeId} {i:Nat} {ps:List (Int×Int)} (hc:aU h i=some (bN ps)):PS h (sl e i 0 ps.length) ps:=by
 refine ⟨rfl,λk hk=>⟨i,2*k,?_,?_,?_,?_⟩⟩
 ·have:(0:Int)<=(k:Int)/\(k:Int)<(ps.length:Int):=by omega
  simp [Go.Sim.sl,cd,this,Nat.mul_comm]
 ·obtain ⟨g1,g2⟩:=kl (getElem?_eq_getElem hk)
  simp [aw,hc,cY,g1]
 ·obtain ⟨g1,g2⟩:=kl (getElem?_eq_getElem hk)
  simp [aw,hc,cY,g2]
 ·obtain ⟨g1,g2⟩:=kl (getElem?_eq_getElem hk)
  have hl:=sx ps
  have:((bN ps).drop (2*k)).take 2=[I ps[k].1,I ps[k].2]:=by
   apply List.ext_getElem?
   intro j
   rw [List.getElem?_take]
   match j with
   | 0=>simpa using g1
   | 1=>simpa using g2
   | j+2=>simp;omega
  have h2:2*k+2<=(bN ps).length:=by omega
  simp [aw,hc,cY,this,h2]
def cF (b:Nat) (hx:ad) (e:TypeId) (v:Value) (xs:List Value):Prop:=
 (v=.slice none 0 0/\xs=[])∨(∃i,b<=i/\v=sl e i 0 xs.length/\hx[i]?=some (.arr e xs))
theorem tZ {h0 hx:ad} {e:TypeId} {bytes:Nat} {v x z:Value} {xs:List Value} {K:Value->ad->Prop} (o:cF h0.length hx e v xs) (hex:EX h0 hx) (hb:(xs.length+1)*bytes<=140737488355328) (hm:xs.length+1<=maxLen)
  (h1:dI x=true) (h2:bc x=[x]) (hk:∀v' bL,EX h0 bL->cF h0.length bL e v' (xs++[x])->K v' bL):
  OH (bR e 1 [z] hx [(0,1,x)]) λa h2=>OH (cO e 1 bytes h2 v a) K:=by
 have e1:bR e 1 [z] hx [(0,1,x)]=some (sl e hx.length 0 1,hx++[.arr e [x]]):=by
  simp [bR,hP,dS,h1,h2,setAt]
 rw [e1]
 simp only [ca]
 have e2:dL (hx++[.arr e [x]]) 1 (sl e hx.length 0 1)=some [x]:=by simp [dL,sl,aU]
 have e3:gl (sl e hx.length 0 1)=some 1:=rfl
 rcases o with ⟨rfl,rfl⟩ | ⟨i,hi,rfl,aA⟩
 ·refine og (v:=sl e (hx.length+1) 0 1) (h:=hx++[.arr e [x]]++[.arr e [x]]) ?_ (hk _ _ ((hex.push _).push _) (.inr ⟨hx.length+1,by have:=hex.1;omega,rfl,by simp⟩))
  have fh:1*bytes<=140737488355328:=by simpa using hb
  have bV:1<=maxLen:=by simpa using hm
  simp only [cO,e2,e3]
  rw [if_neg (by omega),if_pos ⟨fh,bV⟩]
  simp
 ·have hlt:=(bu aA).1
  have hg:(hx++[.arr e [x]])[i]?=some (.arr e xs):=by rw [getElem?_append_left hlt];exact aA
  refine og (v:=sl e (hx.length+1) 0 (xs.length+1)) (h:=(hx++[ay.arr e [x]]).set i ay.dead++[ay.arr e (xs++[x])]) ?_
   (hk _ _ (((hex.push _).set hi _).push _) (.inr ⟨hx.length+1,by have:=hex.1;omega,by simp,?_⟩))
  ·simp only [cO,e2,e3]
   simp only [sl,hg]
   rw [if_pos ⟨trivial,trivial,by simp,hb,hm⟩,if_neg (by omega)]
   simp
  ·rw [getElem?_append_right (by simp)]
   simp
theorem lz {b:Nat} {hx:ad} {e:TypeId} {v:Value} {l:List UInt8} (o:cF b hx e v (l.map cv)):hZ hx v=some (S l):=by
 have hm:∀l:List UInt8,(l.map cv).mapM lB=some l:=by
  intro l
  induction l with
  | nil=>rfl
  | cons c l ih=>simp [List.mapM_cons,lB,ih]
 rcases o with ⟨rfl,hx⟩ | ⟨i,hi,rfl,aA⟩
 ·have:l=[]:=by simpa using hx
  subst this
  rfl
 ·by_cases hl:l=[]
  ·subst hl
   simp [hZ,dL,sl]
  ·have hn:l.length≠0:=by simpa using hl
   have rI:¬(l.map cv).length=0:=by simpa using hl
   have ht:((l.map cv).drop 0).take ((l.map cv).length*1)=l.map cv:=by rw [List.drop_zero,Nat.mul_one,take_length]
   simp only [hZ,dL,sl,if_neg rI,aU,aA,bind_some]
   rw [if_pos (by omega),ht,bind_some,hm]
   rfl
structure SS (h:ad) (v:Value) (ls:List (List UInt8)):Prop where
 len:eK v=some (I ls.length)
 get:∀k (hk:k<ls.length),∃i o,cd 1 v (I k)=some (pt i o)/\aw false 1 h (pt i o)=some (S ls[k])
theorem SS.mono {h h':ad} {v:Value} {ls:List (List UInt8)} (k:EX h h') (p:SS h v ls):SS h' v ls:=
 ⟨p.len,λj hj=>let ⟨i,o,a,b⟩:=p.get j hj;⟨i,o,a,EX.load k b⟩⟩
theorem SS.sl {h:ad} {e:TypeId} {i:Nat} {ls:List (List UInt8)} (hc:aU h i=some (ls.map S)):SS h (sl e i 0 ls.length) ls:=by
 refine ⟨rfl,λk hk=>⟨i,k,?_,?_⟩⟩
 ·have:(0:Int)<=(k:Int)/\(k:Int)<(ls.length:Int):=by omega
  simp [Go.Sim.sl,cd,this]
 ·simp [aw,hc,cY,hk]
theorem qF {α:Type} {p:α->Bool} {l:List α} (h:l.any p=false) {x:α} (hx:x∈l):p x=false:=by
 rw [any_eq_false] at h
 simpa using h x hx
theorem ot {α:Type} {p q:α->Bool}:∀{l:List α},(∀x∈l,p x=q x)->l.any p=l.any q
 | [],_=>rfl
 | x::l,h=>by rw [any_cons,any_cons,h x (by simp),ot λy hy=>h y (by simp [hy])]
theorem min2 (a b:Int):gR false [I a,I b]=some (I (min a b)):=by
 simp only [gR,foldlM,max2,Bool.false_eq_true,if_false]
 have:(if b<a then b else a)=min a b:=by split <;> omega
 rw [this]
 rfl
theorem B8 (a b:Int):gR true [I a,I b]=some (I (max a b)):=by
 simp only [gR,foldlM,max2,if_true]
 have:(if b>a then b else a)=max a b:=by split <;> omega
 rw [this]
 rfl
theorem kX {h:ad} {e:TypeId} {xs:List Value} {j:Nat} {v:Value} (hj:xs[j]?=some v):aw false 1 (h++[.arr e xs]) (pt h.length j)=some v:=by
 simp [aw,aU,cY,hj]
theorem nO {h:ad} {d:Nat} {v:Value} (hc:aU h d=some [v]):aw false 1 h (pt d 0)=some v:=by
 simp [aw,hc,cY]
@[simp] theorem iU (a b : Value) : (#[a, b] : Array Value)[0]? = some a := rfl
@[simp] theorem iV (a b : Value) : (#[a, b] : Array Value)[1]? = some b := rfl
theorem lR {h:ad} {o:ay}:(h++[o])[h.length]?=some o:=by simp
theorem xF (xs:List Value) (o:Nat) (v:Value) (ho:o<xs.length):setAt xs o [v]=xs.set o v:=by
 unfold setAt
 rw [List.set_eq_take_append_cons_drop,if_pos ho]
 simp
theorem sV {h:ad} {i o:Nat} {e:TypeId} {xs:List Value} {v:Value} (hg:h[i]?=some (.arr e xs)) (ho:o<xs.length) (h1:dI v=true) (h2:bc v=[v]):dJ 1 h (pt i o) v=some (undef,h.set i (.arr e (xs.set o v))):=by
 simp only [dJ,jz,hg,h1,h2,xF _ _ _ ho]
 rw [if_pos ⟨trivial,rfl,by omega⟩]
 rfl
theorem zh {b:Nat} {hx:ad} {e:TypeId} {bytes:Nat} {v x z:Value} {xs:List Value} {K:Value->ad->Prop} (o:cF b hx e v xs) (hb:(xs.length+1)*bytes<=140737488355328) (hm:xs.length+1<=maxLen)
  (h1:dI x=true) (h2:bc x=[x]) (hk:∀h1 bL,h1=hx++[.arr e [x]]->bL.length=hx.length+2->(∀d,d<hx.length->(∀n,v≠sl e d 0 n)->bL[d]?=hx[d]?)->bL[hx.length+1]?=some (.arr e (xs++[x]))->OH (some (sl e (hx.length+1) 0 (xs.length+1),bL)) K):
  OH (bR e 1 [z] hx [(0,1,x)]) λa h2=>OH (cO e 1 bytes h2 v a) K:=by
 have e1:bR e 1 [z] hx [(0,1,x)]=some (sl e hx.length 0 1,hx++[.arr e [x]]):=by
  simp [bR,hP,dS,h1,h2,setAt]
 rw [e1]
 simp only [ca]
 have e2:dL (hx++[.arr e [x]]) 1 (sl e hx.length 0 1)=some [x]:=by simp [dL,sl,aU]
 have e3:gl (sl e hx.length 0 1)=some 1:=rfl
 rcases o with ⟨rfl,rfl⟩ | ⟨i,hi,rfl,aA⟩
 ·have fh:1*bytes<=140737488355328:=by simpa using hb
  have bV:1<=maxLen:=by simpa using hm
  have e4:cO e 1 bytes (hx++[.arr e [x]]) (.slice none 0 0) (sl e hx.length 0 1)=some (sl e (hx.length+1) 0 1,hx++[.arr e [x]]++[.arr e [x]]):=by
   simp only [cO,e2,e3]
   rw [if_neg (by omega),if_pos ⟨fh,bV⟩]
   simp
  rw [e4]
  refine hk _ _ rfl (by simp) (λd hd _=>by rw [getElem?_append_left (by simp;omega),getElem?_append_left hd]) (by rw [getElem?_append_right (by simp)];simp)
 ·have hlt:=(bu aA).1
  have hg:(hx++[.arr e [x]])[i]?=some (.arr e xs):=by rw [getElem?_append_left hlt];exact aA
  have e4:cO e 1 bytes (hx++[.arr e [x]]) (sl e i 0 xs.length) (sl e hx.length 0 1)=some (sl e (hx.length+1) 0 (xs.length+1),(hx++[ay.arr e [x]]).set i ay.dead++[ay.arr e (xs++[x])]):=by
   simp only [cO,e2,e3]
   simp only [sl,hg]
   rw [if_pos ⟨trivial,trivial,by simp,hb,hm⟩,if_neg (by omega)]
   simp
  rw [e4]
  refine hk _ _ rfl (by simp) (λd hd aV=>?_) (by rw [getElem?_append_right (by simp)];simp)
  have vj:i≠d:=by rintro rfl;exact aV _ rfl
  rw [getElem?_append_left (by simp;omega),getElem?_set_ne vj,getElem?_append_left hd]
theorem pW {e e':TypeId} {i i' o o' n n':Nat} (h:sl e i o n=sl e' i' o' n'):i=i'/\n=n':=by
 unfold sl at h
 injection h with h1 h2
 injection h1 with h1
 injection h1 with h1
 exact ⟨h1,h2⟩
theorem cF.kV {b:Nat} {g g':ad} {e:TypeId} {v:Value} {xs:List Value} (o:cF b g e v xs) (h:∀d n,v=sl e d 0 n->b<=d->g'[d]?=g[d]?):cF b g' e v xs:=by
 rcases o with ⟨h1,h2⟩ | ⟨i,h1,h2,h3⟩
 ·exact .inl ⟨h1,h2⟩
 ·exact .inr ⟨i,h1,h2,by rw [h i _ h2 h1];exact h3⟩
theorem cF.lt {b:Nat} {g:ad} {e:TypeId} {v:Value} {xs:List Value} {d n:Nat} (o:cF b g e v xs) (h:v=sl e d 0 n):b<=d/\d<g.length/\g[d]?=some (.arr e xs):=by
 rcases o with ⟨h1,_⟩ | ⟨i,h1,h2,h3⟩
 ·rw [h1] at h;cases h
 ·rw [h2] at h
  obtain ⟨rfl,_⟩:=pW h
  exact ⟨h1,(bu h3).1,h3⟩
theorem qE {e:TypeId} {id n j:Nat} (hj:j<n):cd 1 (sl e id 0 n) (I j)=some (pt id j):=by
 have:(0:Int)<=(j:Int)/\(j:Int)<(n:Int):=by omega
 simp [sl,cd,this]
theorem xG {h:ad} {i:Nat} {o o':ay} (hg:h[i]?=some o'):(h.set i o)[i]?=some o:=by
 rw [List.getElem?_set_self (bu hg).1]
theorem Ha {P:Program} {F:FuncId} {cap:Array Value} {args:List Value} {h:ad} {K:Value->ad->Prop} (hF:gF P F=true) (hc:az P F (args++cap.toList) h K):jK P (.func (.func F) #[] cap) args h K:=by
 rw [iu] at hc
 exact ⟨⟨hF,by simpa using hc⟩⟩
end
end Go.Sim
namespace Go.Proofs.YtlpdhfdpnakgdaaDoor
open Go.Sim
section
theorem indexB (c:UInt8):∀s:List UInt8,Lib.indexByte s c=if s.idxOf c<s.length then (s.idxOf c:Int) else -1
 | []=>rfl
 | x::s=>by
  have ih:=indexB c s
  rw [Lib.indexByte]
  by_cases h:(x==c)=true
  ·have e1:(x::s).idxOf c=0:=by rw [List.idxOf_cons,h];rfl
   rw [if_pos h,e1,if_pos (by simp)];rfl
  ·have h':(x==c)=false:=by simpa using h
   have e1:(x::s).idxOf c=s.idxOf c+1:=by rw [List.idxOf_cons,h'];rfl
   rw [if_neg h,ih,e1,length_cons]
   by_cases h2:s.idxOf c<s.length
   ·have h3:¬(((s.idxOf c:Nat):Int)== -1)=true:=by
     rw [beq_iff_eq];omega
    rw [if_pos h2,if_pos (show s.idxOf c+1<s.length+1 by omega),if_neg h3]
    omega
   ·rw [if_neg h2,if_neg (show ¬s.idxOf c+1<s.length+1 by omega)]
    rfl
section
variable {h : ad} {K : Value -> ad -> Prop} {s : List UInt8}
theorem EK {c:UInt8} (hk:K (I (if s.idxOf c<s.length then (s.idxOf c:Int) else -1)) h):az Tryd.prog 77 [S s,cv c] h K:=by
 refine f77 ?_
 have e:pA (S s) (cv c)=some (I (if s.idxOf c<s.length then (s.idxOf c:Int) else -1)):=by
  have e1:pA (S s) (cv c)=some (Value.int .i64 (Lib.indexByte (Go.Sim.bytes (ByteArray.mk s.toArray)) ((c.toNat:Int)).toNat.toUInt8)):=rfl
  rw [e1,zo,Int.toNat_natCast,indexB]
  have:c.toNat.toUInt8=c:=by simp
  rw [this]
 simp only [tV,e,aq]
 exact hk
theorem EI {c:UInt8} (hk:K (I (if s.idxOf c<s.length then (s.idxOf c:Int) else -1)) h):az Tryd.prog 60 [S s,S [c]] h K:=by
 refine f60 ?_
 have l1:ft (S [c])=some (I 1):=rfl
 have ix:eX (S [c]) (.int .i64 0)=some (cv c):=rfl
 have e1:au .eql (I 1) (.int .i64 0)=some (B false):=rfl
 have e2:au .eql (I 1) (.int .i64 1)=some (B true):=rfl
 simp only [tU,l1,aq,e1]
 rw [ML]
 simp only [gB,zi,aq]
 rw [MM]
 simp only [gi,aq,c9]
 refine ⟨λhe=>?_,λ_=>?_⟩
 ·have e3:s.idxOf c=0:=by rw [<-he];simp
  have e4:0<s.length:=by rw [<-he];simp
  rw [e3,if_pos e4] at hk
  exact hk
 ·simp only [e2,aq,gC,ix]
  exact EK hk
theorem yv {c:UInt8} (hk:K (B (s.contains c)) h):az Tryd.prog 18 [S s,S [c]] h K:=by
 refine f18 ?_
 unfold tI
 refine f38 ?_
 unfold tR
 refine EI ?_
 simp only [jN,aq]
 have e:decide ((0:Int)<=if s.idxOf c<s.length then (s.idxOf c:Int) else -1)=s.contains c:=by
  by_cases hm:c∈s
  ·have h1:=List.idxOf_lt_length_of_mem hm
   rw [if_pos h1,(contains_iff_mem).2 hm]
   exact gG (by omega)
  ·have h1:¬s.idxOf c<s.length:=λhc=>hm (List.idxOf_lt_length_iff.1 hc)
   have h2:s.contains c=false:=by
    cases hx:s.contains c with
    | false=>rfl
    | true=>exact absurd ((contains_iff_mem).1 hx) hm
   rw [if_neg h1,h2]
   rfl
 rw [e]
 exact hk
theorem DQ {a:Nat} (ha:a<26):pC (cv (lt a))=some (S [lt a]):=by
 have key:∀a<26,Utf8.encode (((lt a).toNat:Nat):Int)=⟨#[lt a]⟩:=by decide+kernel
 show some (Value.string (Utf8.encode (((lt a).toNat:Nat):Int)))=some (S [lt a])
 rw [key a ha]
 rfl
theorem Lt:gF Tryd.prog 20=true:=by kernel_rfl
theorem ED {v:Value} {ls:List (List UInt8)} {a jc:Nat} (hv:SS h v ls) (hl:ls.length<=1000) (ha:a<26) (hc:aU h jc=some [cv (lt a)]) (hk:K (B (ls.any λp=>p.contains (lt a))) h):
  az Tryd.prog 19 [v,.func (.func 20) #[] #[pt jc 0]] h K:=by
 refine f19 ?_
 unfold tJ
 refine f39 ?_
 simp only [tS,hv.len,aq]
 have lc:aw false 1 h (pt jc 0)=some (cv (lt a)):=nO hc
 refine eM (σ:=Nat) (λj=>[I j]) (λ_=>h) (λj=>j<=ls.length/\(ls.take j).any (λp=>p.contains (lt a))=false) (λj=>ls.length-j) 0 rfl rfl ⟨zero_le _,rfl⟩ ?_
 rintro j ⟨hj,aP⟩ L hL
 rw [Mp]
 simp only [dT,aq,c9]
 refine ⟨λhlt=>?_,λeI=>?_⟩
 ·have dF:j<ls.length:=by omega
  obtain ⟨b,o,u1,u2⟩:=hv.get j dF
  simp only [u1,aq,u2]
  refine Ha Lt ?_
  have ea:([S ls[j]]++(#[pt jc 0]:Array Value).toList)=[S ls[j],pt jc 0]:=rfl
  rw [ea]
  refine f20 ?_
  simp only [tK,lc,aq,DQ ha]
  refine yv ?_
  have htk:(ls.take (j+1)).any (λp=>p.contains (lt a))=((ls.take j).any (λp=>p.contains (lt a))||ls[j].contains (lt a)):=by
   rw [take_succ_eq_append_getElem dF,any_append]
   simp
  rw [aP,Bool.false_or] at htk
  cases hx:ls[j].contains (lt a) with
  | true=>
   simp only [gC,jN,aq]
   have:ls.any (λp=>p.contains (lt a))=true:=any_eq_true.2 ⟨_,getElem_mem dF,hx⟩
   rw [this] at hk
   rw [gG (show (0:Int)<=(j:Int) by omega)]
   exact hk
  | false=>
   simp only [fa,cM,aq,dA j (by omega),true_and]
   exact hL (j+1) ⟨by omega,by rw [htk,hx]⟩ (by omega)
 ·have l9:j=ls.length:=by omega
  subst l9
  rw [take_length] at aP
  simp only [jN,aq]
  rw [aP] at hk
  exact hk
theorem yx {v:Value} {xs:List UInt8} {c:UInt8} (hlen:eK v=some (I xs.length)) (aA:∀j (hj:j<xs.length),∃b o,cd 1 v (I j)=some (pt b o)/\aw false 1 h (pt b o)=some (cv xs[j])) (hl:xs.length<=1000)
  (hk:K (B (xs.contains c)) h):az Tryd.prog 22 [v,cv c] h K:=by
 refine f22 ?_
 unfold tM
 refine f40 ?_
 simp only [tT,hlen,aq]
 refine eM (σ:=Nat) (λj=>[I j]) (λ_=>h) (λj=>j<=xs.length/\(xs.take j).contains c=false) (λj=>xs.length-j) 0 rfl rfl ⟨zero_le _,rfl⟩ ?_
 rintro j ⟨hj,aP⟩ L hL
 rw [Mq]
 simp only [dT,aq,c9]
 refine ⟨λhlt=>?_,λeI=>?_⟩
 ·have dF:j<xs.length:=by omega
  obtain ⟨b,o,u1,u2⟩:=aA j dF
  simp only [u1,aq,u2,mV,c9]
  have htk:(xs.take (j+1)).contains c=(decide (c=xs[j])):=by
   rw [take_succ_eq_append_getElem dF,List.contains_append,aP,Bool.false_or]
   simp
  refine ⟨λhe=>?_,λaV=>?_⟩
  ·have gK:c=xs[j]:=(uA _ _).1 he
   have:xs.contains c=true:=(contains_iff_mem).2 (gK ▸ getElem_mem dF)
   rw [this] at hk
   simp only [jN,aq]
   rw [gG (show (0:Int)<=(j:Int) by omega)]
   exact hk
  ·have gK:c≠xs[j]:=λe=>aV ((uA _ _).2 e)
   simp only [cM,aq,dA j (by omega),true_and]
   exact hL (j+1) ⟨by omega,by rw [htk];exact dp gK⟩ (by omega)
 ·have l9:j=xs.length:=by omega
  subst l9
  rw [take_length] at aP
  simp only [jN,aq]
  rw [aP] at hk
  exact hk
end
end
end Go.Proofs.YtlpdhfdpnakgdaaDoor
set_option linter.unusedVariables false
namespace Go.MapWalk
section
open Go.Shelf Go.RowKit Go.Lib Go.Proofs
variable {P : Program} {ρ : Ren}
abbrev keepI (p : UInt8 -> Bool) (b : UInt8) : Int := if p b = true then (b.toNat : Int) else -1
set_option maxHeartbeats 4000000 in
set_option maxRecDepth 1000000 in
theorem map_ascii (L : Lays.n230 P ρ) (X : Builder.Extra P ρ) (g : Nat) (lb : Array Value) (eg : ∀ args w, (callFunc g args).run P w = .ok (.enter g args) w) (p : UInt8 -> Bool) (s : ByteArray) (w : World) (hs : s.size < 1000) (ha : ∀ b ∈ s.data.toList, b.toNat < 128)
    (hf : ∀ (W : World) (b : UInt8), b ∈ s.data.toList -> Below w.heap.size w W -> Calls P g (#[.int .i32 (b.toNat : Int)] ++ lb) W λe w' => e = .returned (.int .i32 (keepI p b)) /\ Below W.heap.size W w') :
    Calls P (ρ.f 230) #[.func (.func g) #[] lb, .string s] w λe w' => e = .returned (.string ⟨(s.data.toList.filter p).toArray⟩) /\ Below w.heap.size w w' := by
  have t0 := L.t0; have a0 := L.a0; have z0 := L.z0; have v0 := L.v0; have t3 := L.t3; have a3 := L.a3; have z3 := L.z3; have v3 := L.v3; have t4 := L.t4; have a4 := L.a4; have z4 := L.z4; have v4 := L.v4; have t5 := L.t5; have a5 := L.a5; have z5 := L.z5; have v5 := L.v5; have t9 := L.t9; have a9 := L.a9; have z9 := L.z9; have v9 := L.v9
  have t20 := L.t20; have a20 := L.a20; have z20 := L.z20; have v20 := L.v20; have t21 := L.t21; have a21 := L.a21; have z21 := L.z21; have v21 := L.v21; have t37 := L.t37; have a37 := L.a37; have z37 := L.z37; have v37 := L.v37; have t46 := L.t46; have a46 := L.a46; have z46 := L.z46; have v46 := L.v46; have t51 := L.t51; have a51 := L.a51; have z51 := L.z51; have v51 := L.v51
  have t70 := L.t70; have a70 := L.a70; have z70 := L.z70; have v70 := L.v70; have t72 := L.t72; have a72 := L.a72; have z72 := L.z72; have v72 := L.v72; have t75 := L.t75; have a75 := L.a75; have z75 := L.z75; have v75 := L.v75; have t76 := L.t76; have a76 := L.a76; have z76 := L.z76; have v76 := L.v76; have t105 := L.t105; have a105 := L.a105; have z105 := L.z105; have v105 := L.v105
  have t107 := L.t107; have a107 := L.a107; have z107 := L.z107; have v107 := L.v107; have t119 := L.t119; have a119 := L.a119; have z119 := L.z119; have t127 := L.t127; have a127 := L.a127; have z127 := L.z127; have v127 := L.v127; have t138 := L.t138; have a138 := L.a138; have z138 := L.z138; have v138 := L.v138; have t139 := L.t139; have a139 := L.a139; have z139 := L.z139; have v139 := L.v139
  have t164 := L.t164; have a164 := L.a164; have z164 := L.z164; have v164 := L.v164
  have mixed := L.mixed
  have e118 : ∀ args w, (callFunc (ρ.f 118) args).run P w = .ok (.enter (ρ.f 118) args) w := enters_of L.f118 (by kernel_rfl) rfl
  have e165 : ∀ args w, (callFunc (ρ.f 165) args).run P w = .ok (.enter (ρ.f 165) args) w := enters_of L.f165 (by kernel_rfl) rfl
  have e166 : ∀ args w, (callFunc (ρ.f 166) args).run P w = .ok (.enter (ρ.f 166) args) w := enters_of L.f166 (by kernel_rfl) rfl
  have e167 : ∀ args w, (callFunc (ρ.f 167) args).run P w = .ok (.enter (ρ.f 167) args) w := enters_of L.f167 (by kernel_rfl) rfl
  have e168 : ∀ args w, (callFunc (ρ.f 168) args).run P w = .ok (.enter (ρ.f 168) args) w := enters_of L.f168 (by kernel_rfl) rfl
  have e169 : ∀ args w, (callFunc (ρ.f 169) args).run P w = .ok (.enter (ρ.f 169) args) w := enters_of L.f169 (by kernel_rfl) rfl
  have e197 : ∀ args w, (callFunc (ρ.f 197) args).run P w = .ok (.enter (ρ.f 197) args) w := enters_of L.f197 (by kernel_rfl) rfl
  have e270 : ∀ args w, (callFunc (ρ.f 270) args).run P w = .ok (.enter (ρ.f 270) args) w := enters_of L.f270 (by kernel_rfl) rfl
  obtain ⟨ANS, hANS⟩ : ∃ ANS, s.data.toList.filter p = ANS := ⟨_, rfl⟩
  rw [hANS]
  have hlen : s.data.toList.length = s.size := (Lib.size_eq s).symm
  go_enter L.f230, Body.n230_ntmps ρ
  go_wp2
  go_loopg [1] s.size (λgk s1 wx => s1 = .string s /\ ∃ pos : Nat, wx.heap[w.heap.size]? = some (.cells #[.pointer none, .slice none 0 0] (ρ.t 72) (0, 0)) /\ wx.heap[w.heap.size + 1]? = some (.stringIter s pos) /\ Below w.heap.size w wx /\
    s.data.toList.take pos ++ (s.data.toList.drop pos).filter p = ANS /\ s.size <= pos + gk /\ pos <= s.size)
  case atStart =>
    refine ⟨rfl, 0, ?_, ?_, ((Below.refl _ w).alloc (le_refl _) _).alloc (by simp) _, by simpa using hANS, by omega, by omega⟩
    · have h1 := heap_alloc_new w (.cells #[.pointer none, .slice none 0 0] (ρ.t 72))
      exact (Below.heap_alloc _ _ _ (by simp)).trans h1
    · have := World.iter_heap (w.alloc (.cells #[.pointer none, .slice none 0 0] (ρ.t 72))) s 0
      simpa using this
  case round =>
    obtain ⟨rfl, pos, hfr, hit, hbw, hsp, hfu, hps⟩ := hrel
    by_cases hlt : pos < s.size
    · obtain ⟨g', rfl⟩ : ∃ g', gk = g' + 1 := ⟨gk - 1, by omega⟩
      have hpl : pos < s.data.toList.length := by omega
      obtain ⟨b, hb⟩ : ∃ b, s.data.toList[pos] = b := ⟨_, rfl⟩
      have hbm : b ∈ s.data.toList := hb ▸ getElem_mem hpl
      have hb128 := ha b hbm
      have hsb : s[pos]'hlt = b := hb
      have hnx : ∀ ty, (Instr.next (.pointer (some ⟨w.heap.size + 1, 0, none⟩)) true ty).run P wr = .ok (.tuple #[.bool true, .int .i64 pos, .int .i32 (b.toNat : Int)]) (wr.iterAt (w.heap.size + 1) s (pos + 1)) := λty => by
        have := Lib.run_next_ascii_at (P := P) wr (w.heap.size + 1) s pos ty hit hlt (by rw [hsb]; exact hb128)
        rw [hsb] at this
        exact this
      have hdr : s.data.toList.drop pos = b :: s.data.toList.drop (pos + 1) := by rw [List.drop_eq_getElem_cons hpl, hb]
      have htk : s.data.toList.take (pos + 1) = s.data.toList.take pos ++ [b] := by rw [take_succ_eq_append_getElem hpl, hb]
      have hit2 := Lib.iterAt_heap wr (w.heap.size + 1) s pos (pos + 1) hit
      have hbw2 := Lib.below_iterAt hbw (k := w.heap.size + 1) (by omega) s (pos + 1)
      have hfr2 : (wr.iterAt (w.heap.size + 1) s (pos + 1)).heap[w.heap.size]? = _ := (Lib.iterAt_other wr (w.heap.size + 1) w.heap.size s (pos + 1) (by omega)).trans hfr
      obtain ⟨W, hWd⟩ : ∃ W, wr.iterAt (w.heap.size + 1) s (pos + 1) = W := ⟨_, rfl⟩
      rw [hWd] at hnx hit2 hbw2 hfr2
      have cS : Calls P g (#[.int .i32 (b.toNat : Int)] ++ lb) W _ := hf W b hbm hbw2
      obtain ⟨R, hR⟩ : ∃ R : Nat, b.toNat = R := ⟨_, rfl⟩
      have hszW : w.heap.size + 1 < W.heap.size := (Array.getElem?_eq_some_iff.1 hit2).1
      rw [hdr] at hsp
      clear hit hbw hfr hWd
      have hR2 : ¬ ((R : Int) = 65533) := by omega
      by_cases hp : p b = true
      · have HS : Aside (s.data.toList.take (pos + 1) ++ (s.data.toList.drop (pos + 1)).filter p = ANS) := by
          show _ = _
          rw [<- hsp, htk, filter_cons_of_pos hp, List.append_assoc]
          rfl
        have hk : keepI p b = (R : Int) := by unfold keepI; rw [if_pos hp, hR]
        rw [hk, hR] at cS
        rw [hR] at hnx
        clear hsp hdr htk
        go_wp2_with (go_at_fn g; go_must (refine cS.mono ?_; rintro e W' ⟨rfl, hbc⟩))
        go_roundg g'
        case measure => omega
        case rel => exact ⟨rfl, pos + 1, (hbc.block _ (by omega)).trans hfr2, (hbc.block _ (by omega)).trans hit2, hbw2.trans (hbc.mono hbw2.size), HS.out, by omega, by omega⟩
      · have HS : Aside (s.data.toList.take pos ++ (s.data.toList.drop (pos + 1)).filter p = ANS) := by
          show _ = _
          rw [<- hsp, filter_cons_of_neg hp]
        have hk : keepI p b = -1 := by unfold keepI; rw [if_neg hp]
        rw [hk, hR] at cS
        rw [hR] at hnx
        clear hsp hdr htk
        have hM : ¬ ((-1 : Int) = (R : Int)) := by omega
        have hMb : ((-1 : Int) == (R : Int)) = false := by simp
        have hRb : ((R : Int) == 65533) = false := by simp; omega
        have hrl : Lib.runeLen (R : Int) = 1 := by
          unfold Lib.runeLen
          rw [if_neg (by omega), if_pos (by omega)]
        have cR := λW' => Any.utf8_RuneLen (P := P) (ρ := ρ) { L with } (R : Int) W'
        rw [hrl] at cR
        go_wp2_with (first
          | (go_at_fn g; go_must (refine cS.mono ?_; rintro e W' ⟨rfl, hbc⟩))
          | (go_at_fn (ρ.f 118); go_must (refine (cR _).mono ?_; rintro e W3 ⟨rfl, rfl⟩)))
        have hfrC := (hbc.block _ (by omega)).trans hfr2
        have hbC : Below w.heap.size w W3 := hbw2.trans (hbc.mono hbw2.size)
        clear cS cR hnx hit2 hfr2 hbw2 hszW hbc
        have hxs : (s.extract 0 pos).size = pos := by rw [Lib.size_eq, Lib.extract_data, length_take, List.length_drop, hlen]; omega
        have hxd : (s.extract 0 pos).data.toList = s.data.toList.take pos := by rw [Lib.extract_data]; simp
        have cG := Any.Builder_Grow_fresh_cap (P := P) (ρ := ρ) { L with } X w.heap.size w.heap.size (s.size + 4) W3 (le_refl _) hfrC hbC.size (by omega)
        go_wp2_with (go_at_fn (ρ.f 165); go_must (go_fit cG; rintro e W4 ⟨rfl, ⟨h4, b4⟩, p4, cap4, hc4, hcap4⟩))
        refine (Any.Builder_WriteString_kc { L with } X w.heap.size w.heap.size [] (s.extract 0 pos) W4 (Lib.IsBuilderF.of (Or.inr h4)) (by rw [hxs]; simp; omega) (Nat.le_trans hbC.size b4.size)).mono ?_
        rintro e W5 ⟨rfl, ⟨h5w, b5, -⟩, hk5⟩
        obtain ⟨v5, hv5, hcap5⟩ := hk5 _ hc4
        have hcap5' : 4 <= v5.capOf := by
          have : cap4 <= v5.capOf := hcap5
          omega
        have hb6 : Below w.heap.size w W5 := (hbC.trans b4).trans b5
        have hcells : [] ++ Lib.strCells (s.extract 0 pos) = Lib.byteCells (s.data.toList.take pos) := by
          rw [List.nil_append, Lib.strCells_eq, hxd]
        have h6w := h5w
        rw [hcells] at h6w
        obtain ⟨g6, cap6, hc6, hcap6⟩ : ∃ g6 cap6, W5.cell? ⟨w.heap.size, 1, none⟩ = some (.slice (some ⟨g6, 0, none⟩) (Lib.byteCells (s.data.toList.take pos)).length cap6) /\ 1 <= cap6 := by
          obtain ⟨_, v6, hv6, hown6, _⟩ := h6w
          have e6 : v6 = v5 := by
            have h1 : W5.cell? ⟨w.heap.size, 1, none⟩ = some v6 := by rw [Lib.cell_of_heap hv6]; rfl
            exact Option.some.inj (h1.symm.trans hv5)
          rcases hown6.2 with ⟨h0, _⟩ | ⟨g6, cap6, _, _, rfl, _, _, _, hnc, _⟩
          · rw [<- e6, h0] at hcap5'
            simp [Value.capOf] at hcap5'
          · refine ⟨g6, cap6, by rw [Lib.cell_of_heap hv6]; rfl, ?_⟩
            rw [<- e6] at hcap5'
            have : 4 <= cap6 := hcap5'
            omega
        clear hc4 hk5 hv5 hcap5 hcap5' h5w h4 hcap4
        have hcapz : ¬ ((cap6 : Int) = 0) := by omega
        have hcapb : ((cap6 : Int) == 0) = false := by simp; omega
        go_wp2
        refine (Any.Builder_Cap_cell { L with } w.heap.size _ _ cap6 W5 hc6).mono ?_
        rintro e W6' ⟨rfl, rfl⟩
        obtain ⟨s2, hs2⟩ : ∃ s2, s.extract (pos + 1) s.size = s2 := ⟨_, rfl⟩
        have hl2 : s2.data.toList = s.data.toList.drop (pos + 1) := by
          rw [<- hs2, Lib.extract_data, List.take_of_length_le (by rw [List.length_drop, hlen]; omega)]
        have hz2 : s2.size = s.size - (pos + 1) := by rw [Lib.size_eq, hl2, List.length_drop, hlen]
        have hpk : ((pos : Int) + 1).toNat = pos + 1 := by omega
        go_wp2
        go_loopg [] s2.size (λgk wx => ∃ (p2 : Nat) (acc : List UInt8), Lib.IsBuilderF (ρ.t 72) (ρ.t 5) w.heap.size w.heap.size (Lib.byteCells acc) wx /\ wx.heap[W6'.heap.size]? = some (.stringIter s2 p2) /\ Below w.heap.size w wx /\
          acc ++ (s2.data.toList.drop p2).filter p = ANS /\ s2.size <= p2 + gk /\ p2 <= s2.size /\ acc.length <= 4 * (pos + 1 + p2) + 4)
        case atStart =>
          refine ⟨0, s.data.toList.take pos, Lib.IsBuilderF.alloc (Or.inr h6w) _, World.iter_heap W6' s2 0, hb6.alloc hb6.size _, ?_, by omega, by omega, ?_⟩
          · rw [List.drop_zero, hl2]; exact HS.out
          · rw [length_take, hlen]; omega
        case round =>
          obtain ⟨p2, acc, hI, hit, hbw, hacc, hfu2, hp2, hal⟩ := hrel
          have hszI : W6'.heap.size < wr.heap.size := (Array.getElem?_eq_some_iff.1 hit).1
          have hBI : w.heap.size <= W6'.heap.size := hb6.size
          have hBlt : w.heap.size < W6'.heap.size := h6w.lt
          by_cases hlt2 : p2 < s2.size
          · obtain ⟨g2, rfl⟩ : ∃ g2, gk = g2 + 1 := ⟨gk - 1, by omega⟩
            have hpl2 : p2 < s2.data.toList.length := by rw [<- Lib.size_eq]; exact hlt2
            obtain ⟨b2, hb2⟩ : ∃ b2, s2.data.toList[p2] = b2 := ⟨_, rfl⟩
            have hbm2 : b2 ∈ s.data.toList := by
              have h1 : b2 ∈ s2.data.toList := hb2 ▸ getElem_mem hpl2
              rw [hl2] at h1
              exact List.mem_of_mem_drop h1
            have hb2l := ha b2 hbm2
            have hsb2 : s2[p2]'hlt2 = b2 := hb2
            have hnx : ∀ ty, (Instr.next (.pointer (some ⟨W6'.heap.size, 0, none⟩)) true ty).run P wr = .ok (.tuple #[.bool true, .int .i64 p2, .int .i32 (b2.toNat : Int)]) (wr.iterAt W6'.heap.size s2 (p2 + 1)) := λty => by
              have := Lib.run_next_ascii_at (P := P) wr W6'.heap.size s2 p2 ty hit hlt2 (by rw [hsb2]; exact hb2l)
              rw [hsb2] at this
              exact this
            have hdr2 : s2.data.toList.drop p2 = b2 :: s2.data.toList.drop (p2 + 1) := by rw [List.drop_eq_getElem_cons hpl2, hb2]
            have hI2 := hI.iterAt hit (p2 + 1)
            have hit2 := Lib.iterAt_heap wr W6'.heap.size s2 p2 (p2 + 1) hit
            have hbw2 := Lib.below_iterAt hbw (k := W6'.heap.size) hBI s2 (p2 + 1)
            have hsz2 : w.heap.size <= (wr.iterAt W6'.heap.size s2 (p2 + 1)).heap.size := by rw [Lib.iterAt_size]; omega
            obtain ⟨Wa, hWa⟩ : ∃ Wa, wr.iterAt W6'.heap.size s2 (p2 + 1) = Wa := ⟨_, rfl⟩
            rw [hWa] at hnx hI2 hit2 hbw2 hsz2
            have cS2 : Calls P g (#[.int .i32 (b2.toNat : Int)] ++ lb) Wa _ := hf Wa b2 hbm2 hbw2
            have hszA : W6'.heap.size < Wa.heap.size := (Array.getElem?_eq_some_iff.1 hit2).1
            rw [hdr2] at hacc
            obtain ⟨R2, hR2'⟩ : ∃ R2 : Nat, b2.toNat = R2 := ⟨_, rfl⟩
            clear hit hbw hI hWa HS hdr2
            by_cases hp2' : p b2 = true
            · have hk2 : keepI p b2 = (R2 : Int) := by unfold keepI; rw [if_pos hp2', hR2']
              have HS2 : Aside ((acc ++ [b2]) ++ (s2.data.toList.drop (p2 + 1)).filter p = ANS) := by
                show _ = _
                rw [<- hacc, filter_cons_of_pos hp2', List.append_assoc]
                rfl
              clear hacc
              rw [hk2, hR2'] at cS2
              rw [hR2'] at hnx
              have hn0 : ¬ ((R2 : Int) < 0) := by omega
              have hn1 : (0 : Int) <= (R2 : Int) := by omega
              have hn2 : (R2 : Int) < 128 := by omega
              go_wp2_with (go_at_fn g; go_must (refine cS2.mono ?_; rintro e W' ⟨rfl, hbc2⟩))
              refine (Any.Builder_WriteByte_k { L with } X w.heap.size w.heap.size _ (R2 : Int) W' (hI2.below hbc2) (by rw [Lib.byteCells_length]; omega) (Nat.le_trans hsz2 hbc2.size)).mono ?_
              rintro e W7 ⟨rfl, h7, b7, k7⟩
              go_wp2
              go_roundg g2
              case measure => omega
              case rel =>
                refine ⟨p2 + 1, acc ++ [b2], Or.inr ?_, k7.iter ((hbc2.block _ hszA).trans hit2) (by omega), (hbw2.trans (hbc2.mono hbw2.size)).trans b7, HS2.out, by omega, by omega, by rw [length_append]; simp; omega⟩
                rw [Lib.byteCells_append]
                have : Lib.byteCells [b2] = [Value.int .u8 (R2 : Int)] := by rw [<- hR2']; rfl
                rw [this]
                exact h7
            · have hk2 : keepI p b2 = -1 := by unfold keepI; rw [if_neg hp2']
              have HS2 : Aside (acc ++ (s2.data.toList.drop (p2 + 1)).filter p = ANS) := by
                show _ = _
                rw [<- hacc, filter_cons_of_neg hp2']
              clear hacc
              rw [hk2, hR2'] at cS2
              rw [hR2'] at hnx
              go_wp2_with (go_at_fn g; go_must (refine cS2.mono ?_; rintro e W' ⟨rfl, hbc2⟩))
              go_roundg g2
              case measure => omega
              case rel =>
                exact ⟨p2 + 1, acc, hI2.below hbc2, (hbc2.block _ hszA).trans hit2, hbw2.trans (hbc2.mono hbw2.size), HS2.out, by omega, by omega, by omega⟩
          · obtain rfl : p2 = s2.size := by omega
            have hnx : ∀ ty, (Instr.next (.pointer (some ⟨W6'.heap.size, 0, none⟩)) true ty).run P wr = _ := λty => Lib.run_next_end_at wr W6'.heap.size s2 s2.size ty hit hlt2
            go_wp2
            refine (Any.Builder_String_any_f { L with } X w.heap.size w.heap.size acc wr hI (by omega)).mono ?_
            rintro e W8 ⟨rfl, _, b8⟩
            go_wp2
            go_ret
            refine ⟨?_, hbw.trans b8⟩
            rw [Lib.size_eq, List.drop_length, List.filter_nil, List.append_nil] at hacc
            subst hacc
            rfl
    · obtain rfl : pos = s.size := by omega
      have hnx : ∀ ty, (Instr.next (.pointer (some ⟨w.heap.size + 1, 0, none⟩)) true ty).run P wr = _ := λty => Lib.run_next_end_at wr (w.heap.size + 1) s s.size ty hit hlt
      have cC := Any.Builder_Cap_cell (P := P) (ρ := ρ) { L with } w.heap.size none 0 0 wr (by rw [Lib.cell_of_heap hfr]; rfl)
      go_wp2_with (go_at_fn (ρ.f 270); go_must (refine cC.mono ?_; rintro e W' ⟨rfl, rfl⟩))
      go_ret
      refine ⟨?_, hbw⟩
      rw [<- hsp, <- hlen, List.drop_length, take_length, List.filter_nil, List.append_nil]
      rfl
end
end Go.MapWalk
namespace Go.Sim
section
open Go.RowKit Go.Proofs Go.MapWalk
variable {P : Program} {ρ : ai} {h : ad} {w : World}
theorem av.under (H:av P ρ h w) {w':World} (b:Below w.heap.size w w'):av P ρ h w'/\Tr ρ h w ρ h w':=by
 refine ⟨⟨?_,H.inj,H.aL⟩,?_⟩
 ·intro i r hi
  obtain ⟨o,ho,hr⟩:=H.obj i r hi
  refine ⟨o,ho,?_⟩
  by_cases hd:o=.dead
  ·subst hd;trivial
  ·exact hr.mono (.refl _) (b.block _ (pN H hi ⟨o,ho,hd⟩))
 ·exact {
   ext:=.refl _
   len:=le_refl _
   cW:=λi r hi=>H.lt hi
   kinds:=λi _ hm=>hm
   fresh:=λi s h1 h2=>by rw [h1] at h2;cases h2
   cu:=b.size
   cq:=λk hk _=>b.block k hk
   os:=b.os
   tape:=b.tape
   output:=b.output }
def sH:ay->ay
 | .arr e xs=>.ro e xs
 | .ro e xs=>.ro e xs
 | _=>.dead
def fV (is:List Nat) (h:ad):ad:=(List.range h.length).map λi=>if i∈is then sH (h.getD i .dead) else .dead
theorem xy (is:List Nat) (h:ad) {i:Nat} (hi:i<h.length):(fV is h)[i]?=some (if i∈is then sH h[i] else .dead):=by
 unfold fV
 rw [List.getElem?_map,List.getElem?_range hi]
 simp [List.getD_eq_getElem?_getD,hi]
theorem DT {is:List Nat} {h:ad} {i:Nat} {e:TypeId} {xs:List Value} (hg:h[i]?=some (.arr e xs)) (hi:i∈is):(fV is h)[i]?=some (.ro e xs):=by
 obtain ⟨hl,he⟩:=bu hg
 rw [xy is h hl,if_pos hi,he]
 rfl
theorem M1 (o:ay):(∃e xs,sH o=.ro e xs)∨sH o=.dead:=by
 cases o
 all_goals first
  | exact .inl ⟨_,_,rfl⟩
  | exact .inr rfl
theorem DU (is:List Nat) (h:ad):∀i,¬aH (fV is h) i:=by
 intro i hm
 unfold aH at hm
 by_cases hi:i<h.length
 ·have key:(fV is h)[i]?=some .dead∨∃e xs,(fV is h)[i]?=some (.ro e xs):=by
   rw [xy is h hi]
   split
   ·rcases M1 h[i] with ⟨e,xs,he⟩ | he
    ·exact .inr ⟨e,xs,by rw [he]⟩
    ·exact .inl (by rw [he])
   ·exact .inl rfl
  rcases key with hk | ⟨_,_,hk⟩ <;> rw [hk] at hm <;> rcases hm with ⟨_,_,h1⟩ | ⟨_,h1⟩ | ⟨_,_,_,h1⟩ | ⟨_,_,h1⟩ | ⟨_,_,_,h1⟩ | ⟨_,_,_,_,h1⟩ <;> cases h1
 ·have hl:(fV is h).length=h.length:=by unfold fV;simp
  rw [List.getElem?_eq_none (by omega)] at hm
  rcases hm with ⟨_,_,h1⟩ | ⟨_,h1⟩ | ⟨_,_,_,h1⟩ | ⟨_,_,h1⟩ | ⟨_,_,_,h1⟩ | ⟨_,_,_,_,h1⟩ <;> cases h1
theorem av.fV (is:List Nat) (H:av P ρ h w):av P ρ (fV is h) w:=by
 refine ⟨λi r hi=>?_,λi j r s _ _ _ hm _=>absurd hm (DU is h i),H.aL⟩
 obtain ⟨o,ho,hr⟩:=H.obj i r hi
 obtain ⟨hl,he⟩:=bu ho
 refine ⟨_,xy is h hl,?_⟩
 split
 ·rw [he]
  cases o with
  | arr e xs=>
   obtain ⟨a1,a2,c,a3,a4,a5⟩:=hr
   refine ⟨a1,c,e,(0,0),a3,a4,?_⟩
   rw [a2]
   exact a5
  | ro e xs=>exact hr
  | _=>trivial
 ·trivial
theorem Ll {F g:FuncId} (hF:∀(lb:Array Value) (p:UInt8->Bool) (s:ByteArray) (w:World),s.size<1000->(∀b∈s.data.toList,b.toNat<128)->
   (∀(W:World) (b:UInt8),b∈s.data.toList->Below w.heap.size w W->Calls P g (#[.int .i32 (b.toNat:Int)]++lb) W λe w'=>e=.returned (.int .i32 (keepI p b))/\Below W.heap.size W w')->
   Calls P F #[.func (.func g) #[] lb,.string s] w λe w'=>e=.returned (.string ⟨(s.data.toList.filter p).toArray⟩)/\Below w.heap.size w w')
  {p:UInt8->Bool} {s:List UInt8} {ic:Nat} {is:List Nat} {h:ad} {K:Value->ad->Prop} (hl:s.length<1000) (ha:∀b∈s,b.toNat<128)
  (bI:∀b∈s,az P g [.int .i32 (b.toNat:Int),pt ic 0] (fV is h) λv _=>v=.int .i32 (keepI p b)) (hk:K (S (s.filter p)) h):az P F [.func (.func g) #[] #[pt ic 0],S s] h K:=by
 rw [iu]
 refine ⟨_,_,?_,hk⟩
 intro ρ args' w hv H
 obtain ⟨x',y',gJ,hr,JJ⟩:∃x' y',args'=#[x',y']/\af ρ (.func (.func g) #[] #[pt ic 0]) x'/\af ρ (S s) y':=by
  cases ha:args'.toList with
  | nil=>rw [ha] at hv;cases hv
  | cons x xs=>
   rw [ha] at hv
   cases hv with
   | cons h1 h2=>
    cases h2 with
    | cons h3 h4=>
     cases h4
     exact ⟨_,_,Array.ext' ha,h1,h3⟩
 subst gJ
 rw [JJ.jD]
 cases hr with
 | func _ hx hy hxs pz=>
  rename_i xs' jg
  have e0:xs'=#[]:=Array.eq_empty_of_size_eq_zero hx.symm
  subst e0
  obtain ⟨y0,e1⟩:∃y0,jg=#[y0]:=by
   have gO:jg.size=1:=hy.symm
   obtain ⟨l⟩:=jg
   match l,gO with
   | [y0],_=>exact ⟨y0,rfl⟩
  subst e1
  have Ki:af ρ (pt ic 0) y0:=pz 0 _ _ rfl rfl
  have hc:=hF #[y0] p ⟨s.toArray⟩ w (by show s.toArray.size<1000;simpa using hl) (by simpa using ha) (λW b hb hB=>by
   have fh:b∈s:=by simpa using hb
   have ru:=bI b fh
   rw [iu] at ru
   obtain ⟨v,h1,hi,rfl⟩:=ru
   obtain ⟨HW,_⟩:=H.under hB
   refine (BA ⟨_,h1,hi,rfl⟩ (args':=#[.int .i32 (b.toNat:Int),y0]) (.cons (.int _ _) (.cons Ki .nil)) (HW.fV is) (DU is h)).mono ?_
   rintro e w' ⟨⟨v',ae,rfl,gP⟩,hb2⟩
   exact ⟨by rw [gP.dZ],hb2⟩)
  refine hc.mono ?_
  rintro ex w' ⟨rfl,hb⟩
  obtain ⟨p1,p2⟩:=H.under hb
  refine ⟨_,ρ,rfl,?_,p1,p2⟩
  have:(⟨s.toArray⟩:ByteArray).data.toList=s:=by simp
  rw [this]
  exact .string _
end
end Go.Sim
namespace Go.Proofs
section
def xP:Go.Shelf.Ren:=⟨fun
 | 230=>23 | 197=>41 | 118=>42 | 165=>43 | 166=>44 | 168=>45 | 270=>46 | 167=>47 | 169=>48 | 260=>61 | 240=>62 | 241=>63 | 242=>64 | 276=>81 | 277=>82 | 278=>83 | n=>n,λ| 107=>57 | 9=>9 | 72=>87 | 0=>0 | 4=>4 | 3=>3 | 21=>21 | 105=>88 | 76=>94 | 5=>5 | 75=>93 | 70=>85 | 20=>20 | 37=>40 | 127=>121 | 119=>136 | 46=>126 | 139=>139 | 138=>138 | 164=>140 | 51=>130 | 80=>99 | n=>n,λ| 3=>1 | 4=>2 | n=>n⟩
theorem N3:Go.Proofs.Lays.n230 Tryd.prog xP where
 mixed:=by kernel_rfl
 f118:=Tryd.func42.trans (congrArg some (by kernel_rfl))
 f165:=Tryd.func43.trans (congrArg some (by kernel_rfl))
 f166:=Tryd.func44.trans (congrArg some (by kernel_rfl))
 f167:=Tryd.func47.trans (congrArg some (by kernel_rfl))
 f168:=Tryd.func45.trans (congrArg some (by kernel_rfl))
 f169:=Tryd.func48.trans (congrArg some (by kernel_rfl))
 f197:=Tryd.func41.trans (congrArg some (by kernel_rfl))
 f230:=Tryd.func23.trans (congrArg some (by kernel_rfl))
 f240:=Tryd.func62.trans (congrArg some (by kernel_rfl))
 f241:=Tryd.func63.trans (congrArg some (by kernel_rfl))
 f242:=Tryd.func64.trans (congrArg some (by kernel_rfl))
 f260:=Tryd.func61.trans (congrArg some (by kernel_rfl))
 f270:=Tryd.func46.trans (congrArg some (by kernel_rfl))
 f276:=Tryd.func81.trans (congrArg some (by kernel_rfl))
 f277:=Tryd.func82.trans (congrArg some (by kernel_rfl))
 f278:=Tryd.func83.trans (congrArg some (by kernel_rfl))
 t0:=Tryd.underlying0
 a0:=Tryd.isAgg0
 z0:=Tryd.sizeOf0
 v0:=Tryd.zeroValue0
 t3:=Tryd.underlying3
 a3:=Tryd.isAgg3
 z3:=Tryd.sizeOf3
 v3:=Tryd.zeroValue3
 t4:=Tryd.underlying4
 a4:=Tryd.isAgg4
 z4:=Tryd.sizeOf4
 v4:=Tryd.zeroValue4
 t5:=Tryd.underlying5
 a5:=Tryd.isAgg5
 z5:=Tryd.sizeOf5
 v5:=Tryd.zeroValue5
 t9:=Tryd.underlying9
 a9:=Tryd.isAgg9
 z9:=Tryd.sizeOf9
 v9:=Tryd.zeroValue9
 t20:=Tryd.underlying20
 a20:=Tryd.isAgg20
 z20:=Tryd.sizeOf20
 v20:=Tryd.zeroValue20
 t21:=Tryd.underlying21
 a21:=Tryd.isAgg21
 z21:=Tryd.sizeOf21
 v21:=Tryd.zeroValue21
 t37:=Tryd.underlying40
 a37:=Tryd.isAgg40
 z37:=Tryd.sizeOf40
 v37:=Tryd.zeroValue40
 t46:=Tryd.underlying126
 a46:=Tryd.isAgg126
 z46:=Tryd.sizeOf126
 v46:=Tryd.zeroValue126
 t51:=Tryd.underlying130
 a51:=Tryd.isAgg130
 z51:=Tryd.sizeOf130
 v51:=Tryd.zeroValue130
 t70:=Tryd.underlying85
 a70:=Tryd.isAgg85
 z70:=Tryd.sizeOf85
 v70:=Tryd.zeroValue85
 t72:=Tryd.underlying87
 a72:=Tryd.isAgg87
 z72:=Tryd.sizeOf87
 v72:=Tryd.zeroValue87
 t75:=Tryd.underlying93
 a75:=Tryd.isAgg93
 z75:=Tryd.sizeOf93
 v75:=Tryd.zeroValue93
 t76:=Tryd.underlying94
 a76:=Tryd.isAgg94
 z76:=Tryd.sizeOf94
 v76:=Tryd.zeroValue94
 t105:=Tryd.underlying88
 a105:=Tryd.isAgg88
 z105:=Tryd.sizeOf88
 v105:=Tryd.zeroValue88
 t107:=Tryd.underlying57
 a107:=Tryd.isAgg57
 z107:=Tryd.sizeOf57
 v107:=Tryd.zeroValue57
 t119:=Tryd.underlying136
 a119:=Tryd.isAgg136
 z119:=Tryd.sizeOf136
 t127:=Tryd.underlying121
 a127:=Tryd.isAgg121
 z127:=Tryd.sizeOf121
 v127:=Tryd.zeroValue121
 t138:=Tryd.underlying138
 a138:=Tryd.isAgg138
 z138:=Tryd.sizeOf138
 v138:=Tryd.zeroValue138
 t139:=Tryd.underlying139
 a139:=Tryd.isAgg139
 z139:=Tryd.sizeOf139
 v139:=Tryd.zeroValue139
 t164:=Tryd.underlying140
 a164:=Tryd.isAgg140
 z164:=Tryd.sizeOf140
 v164:=Tryd.zeroValue140
 g3:=by kernel_rfl
 g4:=by kernel_rfl
theorem N4:Builder.Extra Tryd.prog xP where
 sizeBuilder:=by kernel_rfl
 liesBuilder:=by kernel_rfl
 t5:=Tryd.underlying5
 a5:=Tryd.isAgg5
 z5:=Tryd.sizeOf5
 v5:=Tryd.zeroValue5
 infoByte:=by kernel_rfl
 cellsByte:=by kernel_rfl
 sizeByte:=by kernel_rfl
 neB5:=by decide
end
end Go.Proofs
namespace Go.Proofs.YtlpdhfdpnakgdaaDoor
section
open Go.Sim Go.MapWalk
theorem H7:∀args w,(callFunc 24 args).run Tryd.prog w=.ok (.enter 24 args) w:=enters_of Tryd.func24 (by kernel_rfl) rfl
theorem EE {p:UInt8->Bool} {s:List UInt8} {ic:Nat} {is:List Nat} {h:ad} {K:Value->ad->Prop} (hl:s.length<1000) (ha:∀b∈s,b.toNat<128)
  (bI:∀b∈s,az Tryd.prog 24 [.int .i32 (b.toNat:Int),pt ic 0] (fV is h) λv _=>v=.int .i32 (keepI p b)) (hk:K (S (s.filter p)) h):az Tryd.prog 23 [.func (.func 24) #[] #[pt ic 0],S s] h K:=
 Ll (F:=23) (g:=24) (λlb p s w h1 h2 h3=>map_ascii (ρ:=xP) N3 N4 24 lb H7 p s w h1 h2 h3) hl ha bI hk
end
section
open Go.Sim
@[simp] theorem iU (a b : Value) : (#[a, b] : Array Value)[0]? = some a := rfl
@[simp] theorem iV (a b : Value) : (#[a, b] : Array Value)[1]? = some b := rfl
theorem lR {h:ad} {o:ay}:(h++[o])[h.length]?=some o:=by simp
theorem xF (xs:List Value) (o:Nat) (v:Value) (ho:o<xs.length):setAt xs o [v]=xs.set o v:=by
 unfold setAt
 rw [List.set_eq_take_append_cons_drop,if_pos ho]
 simp
theorem sV {h:ad} {i o:Nat} {e:TypeId} {xs:List Value} {v:Value} (hg:h[i]?=some (.arr e xs)) (ho:o<xs.length) (h1:dI v=true) (h2:bc v=[v]):dJ 1 h (pt i o) v=some (undef,h.set i (.arr e (xs.set o v))):=by
 simp only [dJ,jz,hg,h1,h2,xF _ _ _ ho]
 rw [if_pos ⟨trivial,rfl,by omega⟩]
 rfl
section
variable {h : ad} {id : Nat}
abbrev hb (h:ad) (id:Nat) (xs:List UInt8):ad:=h.set id (.arr 5 (xs.map cv))
theorem qE {e:TypeId} {n j:Nat} (hj:j<n):cd 1 (sl e id 0 n) (I j)=some (pt id j):=by
 have:(0:Int)<=(j:Int)/\(j:Int)<(n:Int):=by omega
 simp [Go.Sim.sl,cd,this]
end
theorem zh {b:Nat} {hx:ad} {e:TypeId} {bytes:Nat} {v x z:Value} {xs:List Value} {K:Value->ad->Prop} (o:cF b hx e v xs) (hb:(xs.length+1)*bytes<=140737488355328) (hm:xs.length+1<=maxLen)
  (h1:dI x=true) (h2:bc x=[x]) (hk:∀h1 bL,h1=hx++[.arr e [x]]->bL.length=hx.length+2->(∀d,d<hx.length->(∀n,v≠sl e d 0 n)->bL[d]?=hx[d]?)->bL[hx.length+1]?=some (.arr e (xs++[x]))->OH (some (sl e (hx.length+1) 0 (xs.length+1),bL)) K):
  OH (bR e 1 [z] hx [(0,1,x)]) λa h2=>OH (cO e 1 bytes h2 v a) K:=by
 have e1:bR e 1 [z] hx [(0,1,x)]=some (sl e hx.length 0 1,hx++[.arr e [x]]):=by
  simp [bR,hP,dS,h1,h2,setAt]
 rw [e1]
 simp only [ca]
 have e2:dL (hx++[.arr e [x]]) 1 (sl e hx.length 0 1)=some [x]:=by simp [dL,sl,aU]
 have e3:gl (sl e hx.length 0 1)=some 1:=rfl
 rcases o with ⟨rfl,rfl⟩ | ⟨i,hi,rfl,aA⟩
 ·have fh:1*bytes<=140737488355328:=by simpa using hb
  have bV:1<=maxLen:=by simpa using hm
  have e4:cO e 1 bytes (hx++[.arr e [x]]) (.slice none 0 0) (sl e hx.length 0 1)=some (sl e (hx.length+1) 0 1,hx++[.arr e [x]]++[.arr e [x]]):=by
   simp only [cO,e2,e3]
   rw [if_neg (by omega),if_pos ⟨fh,bV⟩]
   simp
  rw [e4]
  refine hk _ _ rfl (by simp) (λd hd _=>by rw [getElem?_append_left (by simp;omega),getElem?_append_left hd]) (by rw [getElem?_append_right (by simp)];simp)
 ·have hlt:=(bu aA).1
  have hg:(hx++[.arr e [x]])[i]?=some (.arr e xs):=by rw [getElem?_append_left hlt];exact aA
  have e4:cO e 1 bytes (hx++[.arr e [x]]) (sl e i 0 xs.length) (sl e hx.length 0 1)=some (sl e (hx.length+1) 0 (xs.length+1),(hx++[ay.arr e [x]]).set i ay.dead++[ay.arr e (xs++[x])]):=by
   simp only [cO,e2,e3]
   simp only [sl,hg]
   rw [if_pos ⟨trivial,trivial,by simp,hb,hm⟩,if_neg (by omega)]
   simp
  rw [e4]
  refine hk _ _ rfl (by simp) (λd hd aV=>?_) (by rw [getElem?_append_right (by simp)];simp)
  have vj:i≠d:=by rintro rfl;exact aV _ rfl
  rw [getElem?_append_left (by simp;omega),getElem?_set_ne vj,getElem?_append_left hd]
theorem pW {e e':TypeId} {i i' o o' n n':Nat} (h:sl e i o n=sl e' i' o' n'):i=i'/\n=n':=by
 unfold sl at h
 injection h with h1 h2
 injection h1 with h1
 injection h1 with h1
 exact ⟨h1,h2⟩
theorem cF.kV {b:Nat} {g g':ad} {e:TypeId} {v:Value} {xs:List Value} (o:cF b g e v xs) (h:∀d n,v=sl e d 0 n->b<=d->g'[d]?=g[d]?):cF b g' e v xs:=by
 rcases o with ⟨h1,h2⟩ | ⟨i,h1,h2,h3⟩
 ·exact .inl ⟨h1,h2⟩
 ·exact .inr ⟨i,h1,h2,by rw [h i _ h2 h1];exact h3⟩
theorem cF.lt {b:Nat} {g:ad} {e:TypeId} {v:Value} {xs:List Value} {d n:Nat} (o:cF b g e v xs) (h:v=sl e d 0 n):b<=d/\d<g.length/\g[d]?=some (.arr e xs):=by
 rcases o with ⟨h1,_⟩ | ⟨i,h1,h2,h3⟩
 ·rw [h1] at h;cases h
 ·rw [h2] at h
  obtain ⟨rfl,_⟩:=pW h
  exact ⟨h1,(bu h3).1,h3⟩
end
section
open Go.Sim Go.MapWalk
theorem cF.ss {b:Nat} {g:ad} {v:Value} {ls:List (List UInt8)} (o:cF b g 9 v (ls.map S)):SS g v ls:=by
 rcases o with ⟨rfl,h0⟩ | ⟨i,_,rfl,h0⟩
 ·have:ls=[]:=by simpa using h0
  subst this
  exact ⟨rfl,λk hk=>by simp at hk⟩
 ·rw [length_map]
  exact SS.sl (by simp [aU,h0])
theorem B1 {n:Nat} (h:n<=6) {s:List UInt8} (hs:letters n s):letters 6 s:=λc hc=>by obtain ⟨a,ha,e⟩:=hs c hc;exact ⟨a,by omega,e⟩
theorem B9 (s:List UInt8) (h:ad):bR 9 1 [.string ⟨#[]⟩] h [(0,1,S s)]=some (sl 9 h.length 0 1,h++[.arr 9 [S s]]):=rfl
theorem Li {a:Nat} (ha:a<6):(lt a).toNat<128:=by rw [iS (by omega)];omega
theorem K9 {s:List UInt8} (hs:letters 6 s):∀b∈s,b.toNat<128:=λb hb=>by obtain ⟨a,ha,rfl⟩:=hs b hb;exact Li ha
section
variable {K : Value -> ad -> Prop}
theorem EF {g:ad} {ic ip:Nat} {P:List UInt8} {b:UInt8} (hc:g[ic]?=some (.arr 40 [sl 5 ip 0 P.length])) (hp:g[ip]?=some (.arr 5 (P.map cv))) (hl:P.length<=1000) (hb:b.toNat<128)
  (hk:∀h',K (.int .i32 (keepI P.contains b)) h'):az Tryd.prog 24 [.int .i32 (b.toNat:Int),pt ic 0] (fV [ic,ip] g) K:=by
 refine f24 ?_
 have c1:=DT hc (is:=[ic,ip]) (by simp)
 have c2:=DT hp (is:=[ic,ip]) (by simp)
 have l1:aw false 1 (fV [ic,ip] g) (pt ic 0)=some (sl 5 ip 0 P.length):=nO (by simp [aU,c1])
 have w:IntKind.wrap .u8 (b.toNat:Int)=(b.toNat:Int):=iZ (by omega) (by omega)
 simp only [tN,l1,aq,lE,w]
 refine yx (xs:=P) rfl (λj hj=>⟨ip,j,qE hj,by simp [aw,aU,c2,cY,hj]⟩) hl ?_
 have e:keepI P.contains b=if P.contains b=true then (b.toNat:Int) else -1:=rfl
 cases hx:P.contains b with
 | true=>
  rw [e,hx,if_pos rfl] at hk
  simp only [gC]
  exact hk _
 | false=>
  rw [e,hx,if_neg (by decide)] at hk
  simp only [fa]
  exact hk _
def qC (gA:ad) (ic:Nat) (P:List UInt8) (ip:Nat) (g:ad):Prop:=EX gA g/\gA.length<=ic/\gA.length<=ip/\ic≠ip/\g[ic]?=some (.arr 40 [sl 5 ip 0 P.length])/\g[ip]?=some (.arr 5 (P.map cv))
theorem EL {ps:List (Int×Int)} {n:Nat} {s:List UInt8} {t out:Value} {a:Nat} {gA g0:ad} {ic ip0:Nat} {L:List Value->ad->Prop} (bK:n<=6) (ls:letters n s) (hs:s.length<=40) (ht:TH gA t n (bE ps)) (hx:lt a∈s)
  (hm:qC gA ic [lt a] ip0 g0) (hk:∀g,EX gA g->OH (bR 9 1 [(.string ⟨#[]⟩)] g [(0,1,S (kj (aG ps) s (lt a)))]) λyl h_2=>OH (cO 9 1 16 h_2 out yl) λqe h_3=>su Tryd.prog K (S s) t qe (I n) (I a) L h_3):
  cE [(.int .i64 (0))] g0 λL2 xs hx=>xj Tryd.prog K (S s) t out (pt ic 0) (I n) (I a) L L2 xs hx:=by
 have l6:letters 6 s:=B1 bK ls
 have meets:∀{g:ad} {x y:UInt8} {K2:Value->ad->Prop},EX gA g->x∈s->y∈s->K2 (B (!aG ps x y)) g->az Tryd.prog 21 [t,cv x,cv y] g K2:=by
  intro g x y K2 xg hx hy hk2
  obtain ⟨c,hc,rfl⟩:=l6 x hx
  obtain ⟨d,hd,rfl⟩:=l6 y hy
  refine yw (ht.mono xg) hc hd ?_
  rw [uY ps (by omega) (by omega)]
  exact hk2
 refine eM (σ:=Nat×List UInt8×Nat×ad) (λq=>[I q.1]) (λq=>q.2.2.2) (λq=>q.1<=q.2.1.length/\fB (aG ps) s (lt a) q.2.1 q.1/\qC gA ic q.2.1 q.2.2.1 q.2.2.2) (λq=>7-q.1) (0,[lt a],ip0,g0) rfl rfl ⟨zero_le _,fB.start _ _ _,hm⟩ ?_
 rintro ⟨i,P,ip,g⟩ ⟨hi,hb,hm⟩ L2 iC
 simp only at hi hb hm iC⊢
 obtain ⟨lP,O8⟩:=hb.short hx l6
 obtain ⟨xg,m1,m2,m3,m4,m5⟩:=hm
 have lc:aw false 1 g (pt ic 0)=some (sl 5 ip 0 P.length):=nO (by simp [aU,m4])
 rw [MP]
 simp only [lc,aq,eK,sl,dT,c9]
 refine ⟨λhlt=>?_,λeI=>?_⟩
 rotate_left
 ·have vq:i=P.length:=by omega
  subst vq
  rw [MT]
  have A4:=K9 l6
  refine EE (p:=P.contains) (is:=[ic,ip]) (by omega) A4 (λb fh=>EF m4 m5 (by omega) (A4 b fh) λ_=>rfl) ?_
  have ef:s.filter P.contains=kj (aG ps) s (lt a):=List.filter_congr λy _=>hb.full y
  rw [ef]
  exact hk g xg
 have fD:i<P.length:=by omega
 have IH:P[i]∈s:=BD hx (hb.nJ _ (getElem_mem fD))
 have NY:ft (S s)=some (I s.length):=kW s
 simp only [NY,aq]
 refine eM (σ:=Nat×List UInt8×Nat×ad) (λq=>[I q.1]) (λq=>q.2.2.2) (λq=>q.1<=s.length/\fB (aG ps) s (lt a) q.2.1 i/\qC gA ic q.2.1 q.2.2.1 q.2.2.2/\i<q.2.1.length/\q.2.1[i]?=some P[i]/\∀y∈s.take q.1,aG ps P[i] y=false->y∈q.2.1)
  (λq=>s.length-q.1) (0,P,ip,g) rfl rfl ⟨zero_le _,hb,⟨xg,m1,m2,m3,m4,m5⟩,fD,by simp [fD],λy hy=>by simp at hy⟩ ?_
 rintro ⟨j,Q,iq,gq⟩ ⟨hj,bq,pf,j6,heq,ry⟩ L3 A9
 simp only at hj bq pf j6 heq ry A9⊢
 obtain ⟨lQ,O9⟩:=bq.short hx l6
 obtain ⟨xq,_,n2,n3,n4,n5⟩:=id pf
 have wB:aw false 1 gq (pt ic 0)=some (sl 5 iq 0 Q.length):=nO (by simp [aU,n4])
 have AH:Q[i]=P[i]:=by rw [getElem?_eq_getElem j6] at heq;exact Option.some.inj heq
 rw [MQ]
 simp only [dT,aq,c9]
 refine ⟨λhlt2=>?_,λBe=>?_⟩
 rotate_left
 ·have l9:j=s.length:=by omega
  subst l9
  rw [MS]
  rw [take_length] at ry
  simp only [cM,aq,dA i (by omega),true_and]
  exact iC (i+1,Q,iq,gq) ⟨j6,bq.next j6 (by rw [AH];exact ry),pf⟩ (by show 7-(i+1)<7-i;omega)
 have dF:j<s.length:=by omega
 have Bs:s[j]∈s:=getElem_mem dF
 have Jd:eX (S s) (I j)=some (cv s[j]):=rX _ dF .i64
 have FY:cd 1 (sl 5 iq 0 Q.length) (I i)=some (pt iq i):=qE j6
 have BY:∀(k:Nat) (hk:k<Q.length),aw false 1 gq (pt iq k)=some (cv Q[k]):=λk hk=>by simp [aw,aU,n5,cY,hk]
 have htk:s.take (j+1)=s.take j++[s[j]]:=take_succ_eq_append_getElem dF
 have wP:∀{R:List UInt8} {ir:Nat} {gr:ad},fB (aG ps) s (lt a) R i->qC gA ic R ir gr->i<R.length->R[i]?=some P[i]->(∀y∈Q,y∈R)->(aG ps P[i] s[j]=false->s[j]∈R)->mB Tryd.prog K (S s) t out (pt ic 0) (I i) (I n) (I a) (I s.length) (I j) L L2 L3 gr:=by
  intro R ir gr b1 b2 b3 b4 b5 b6
  rw [MR]
  simp only [cM,aq,dA j (by omega),true_and]
  refine A9 (j+1,R,ir,gr) ⟨by show j+1<=_;omega,b1,b2,b3,b4,λy hy hf=>?_⟩ (by show s.length-(j+1)<s.length-j;omega)
  change y∈s.take (j+1) at hy
  rw [htk,mem_append,mem_singleton] at hy
  rcases hy with hy | rfl
  ·exact b5 y (ry y hy hf)
  ·exact b6 hf
 simp only [wB,aq,true_and,FY,BY i j6,Jd,AH]
 refine meets xq IH Bs ?_
 cases hf:aG ps P[i] s[j] with
 | true=>
  simp only [Bool.not_true,yG,gi,aq,fa]
  exact wP bq pf j6 heq (λy hy=>hy) (λh0=>by rw [hf] at h0;cases h0)
 | false=>
  simp only [Bool.not_false,tk,wB,aq]
  refine yx (xs:=Q) rfl (λk hk=>⟨iq,k,qE hk,BY k hk⟩) (by omega) ?_
  have en:gS .not (B (Q.contains s[j]))=some (B (!Q.contains s[j])):=rfl
  simp only [en,aq,rW]
  cases er:Q.contains s[j] with
  | true=>
   simp only [Bool.not_true,fa]
   exact wP bq pf j6 heq (λy hy=>hy) (λ_=>(contains_iff_mem).1 er)
  | false=>
   have iJ:s[j]∉Q:=λhc=>by rw [(contains_iff_mem).2 hc] at er;cases er
   simp only [Bool.not_false,gC,wB,aq]
   have own:cF gA.length gq 5 (sl 5 iq 0 Q.length) (Q.map cv):=.inr ⟨iq,n2,by rw [length_map],n5⟩
   have K3:(gq++[ay.arr 5 [cv s[j]]])[ic]?=some (.arr 40 [sl 5 iq 0 Q.length]):=(EX.append _ _).get n4
   have uG:bR 5 1 [(.int .u8 (0))] gq [(0,1,cv s[j])]=some (sl 5 gq.length 0 1,gq++[.arr 5 [cv s[j]]]):=rfl
   have key:=zh (bytes:=1) (x:=cv s[j]) (z:=.int .u8 0) (K:=λqd h_4=>OH (dJ 1 h_4 (pt ic 0) qd) λ_ h_5=>mB Tryd.prog K (S s) t out (pt ic 0) (I i) (I n) (I a) (I s.length) (I j) L L2 L3 h_5) own (by rw [length_map];omega) (by rw [length_map];simp [maxLen];omega) rfl rfl ?_
   ·rw [uG] at key⊢
    simp only [ca] at key⊢
    refine ⟨⟨nO (by simp [aU,K3]),trivial⟩,?_⟩
    simpa only [true_and] using key
   ·intro h1 g' _ Bl rK o0
    have rA:ic<gq.length:=(bu n4).1
    have Ca:g'[ic]?=some (.arr 40 [sl 5 iq 0 Q.length]):=by
     rw [rK ic rA λk hv=>n3 (pW hv).1.symm]
     exact n4
    have em:Q.map cv++[cv s[j]]=(Q++[s[j]]).map cv:=by simp
    rw [em] at o0
    simp only [ca,length_map]
    rw [sV Ca (by simp) rfl rfl]
    simp only [ca]
    have Pw:gA.length<=gq.length:=xq.1
    have K7:Q.length+1=(Q++[s[j]]).length:=by simp
    have OR:EX gA g':=⟨by omega,λd hd=>by
     rw [rK d (by omega) λk hv=>by have:=(pW hv).1;omega]
     exact xq.2 d hd⟩
    refine wP (R:=Q++[s[j]]) (ir:=gq.length+1) (bq.push (by omega) iJ (wq (hb.nJ _ (getElem_mem fD)) Bs hf)) ⟨OR.set m1 _,m1,by omega,by omega,?_,?_⟩ (by rw [length_append];omega) (by rw [getElem?_append_left j6];exact heq) (λy hy=>List.mem_append_left _ hy) (λ_=>by simp)
    ·rw [xG Ca]
     show some (ay.arr 40 [sl 5 (gq.length+1) 0 (Q.length+1)])=_
     rw [K7]
    ·rw [getElem?_set_ne (by omega)]
     exact o0
theorem C7 {ps:List (Int×Int)} {pv:Value} {s:List UInt8} {k:Int} {h:ad} (hp:PS h pv ps) (hl:ps.length<=100) (hs:s.length<=1000)
  (aP:cT k ps [s] 40≠0->∀h',EX h h'->K (.tuple #[.slice none 0 0,I (cT k ps [s] 40)]) h')
  (dG:cT k ps [s] 40=0->∀v h',EX h h'->SS h' v (bP (aG ps) s 6)->K (.tuple #[v,I 0]) h'):az Tryd.prog 7 [I k,pv,S s] h K:=by
 refine f7 ?_
 simp only [T7,B9,ca]
 have hx:EX h (h++[.arr 9 [S s]]):=EX.append _ _
 have mg:SS (h++[.arr 9 [S s]]) (sl 9 h.length 0 1) [s]:=SS.sl (ls:=[s]) (by simp [aU])
 refine th (most:=40) (hp.mono hx) hl mg (by simp) (by simpa using hs) (λhw=>?_) (λhw=>?_)
 ·simp only [gI,iU,iV,aq,mW,dp hw,Bool.not_false,gC]
  exact aP hw _ hx
 obtain ⟨fo,pk⟩:=xW hw
 obtain ⟨n,rfl,hn1,bK⟩:=sX fo
 obtain ⟨JV,vg⟩:=xD pk s (by simp)
 have ls:=r7 vg
 have l6:=B1 bK ls
 generalize vp:h++[ay.arr 9 [S s]]=h1 at*
 simp only [gI,iU,iV,aq,mW,decide_true,Bool.not_true,fa]
 have x2:EX h1 (h1++[.arr 78 (bo n (bE ps))]):=EX.append _ _
 have ht:TH (h1++[.arr 78 (bo n (bE ps))]) (pt h1.length 0) n (bE ps):=⟨h1.length,rfl,by simp [aU]⟩
 generalize pt h1.length 0=t at ht⊢
 generalize h1++[ay.arr 78 (bo n (bE ps))]=h2 at x2 ht⊢
 refine eM (σ:=Nat×Value×ad) (λq=>[q.2.1,I q.1]) (λq=>q.2.2) (λq=>q.1<=n/\EX h2 q.2.2/\cF h2.length q.2.2 9 q.2.1 ((bP (aG ps) s q.1).map S)) (λq=>n-q.1) (0,.slice none 0 0,h2) rfl rfl ⟨zero_le _,EX.refl _,.inl ⟨rfl,rfl⟩⟩ ?_
 rintro ⟨a,out,g⟩ ⟨ha,xg,ho⟩ L hL
 simp only at ha xg ho hL⊢
 rw [MN]
 simp only [dT,aq,c9]
 refine ⟨λhlt=>?_,λeI=>?_⟩
 rotate_left
 ·have II:a=n:=by omega
  subst II
  rw [MU]
  rw [<-LD ls (by omega) 6 bK (by omega)] at ho
  exact dG hw _ _ (hx.trans (x2.trans xg)) ho.ss
 have Pa:a<n:=by omega
 have jZ:a<6:=by omega
 have w1:IntKind.wrap .u8 (a:Int)=(a:Int):=iZ (by omega) (by omega)
 have w2:IntKind.wrap .u8 (97+(a:Int))=((97+a:Nat):Int):=by rw [iZ (by omega) (by omega)];omega
 have oJ:(.int .u8 ((97+a:Nat):Int):Value)=cv (lt a):=by rw [oH (show a<100 by omega)]
 have HQ:∀g:ad,jw 5 [(.int .u8 (0))] g=some (pt g.length 0,g++[.arr 5 [.int .u8 0]]):=λ_=>rfl
 simp only [lE,w1,aq,cM,w2,HQ,ca]
 rw [sV lR (by simp) rfl rfl,oJ]
 simp only [ca]
 have x3:EX g ((g++[ay.arr 5 [.int .u8 0]]).set g.length (.arr 5 ([Value.int .u8 0].set 0 (cv (lt a))))):=(EX.append _ _).set (le_refl _) _
 have k3:((g++[ay.arr 5 [.int .u8 0]]).set g.length (.arr 5 ([Value.int .u8 0].set 0 (cv (lt a)))))[g.length]?=some (.arr 5 [cv (lt a)]):=xG lR
 generalize Pk:g.length=jc at k3 x3⊢
 generalize (g++[ay.arr 5 [.int .u8 0]]).set jc (.arr 5 ([Value.int .u8 0].set 0 (cv (lt a))))=g3 at x3 k3⊢
 have BV:aw false 1 g3 (pt jc 0)=some (cv (lt a)):=nO (by simp [aU,k3])
 simp only [BV,aq,DQ (show a<26 by omega)]
 refine yv ?_
 have en:gS .not (B (s.contains (lt a)))=some (B (!s.contains (lt a))):=rfl
 simp only [en,aq]
 rw [MO]
 have o3:cF h2.length g3 9 out ((bP (aG ps) s a).map S):=ho.kV λd m hv _=>x3.2 d (ho.lt hv).2.1
 have DI:=xm (aG ps) s a
 have stay:∀eY eR:Value,dH eY (.bool true) eR=some (B true)->bP (aG ps) s (a+1)=bP (aG ps) s a->sr Tryd.prog K (S s) t out (pt jc 0) (I n) (I a) eY eR L g3:=by
  intro eY eR Jz he
  rw [DO,Jz]
  simp only [aq,gC]
  rw [DP]
  simp only [cM,aq,dA a (by omega),true_and]
  refine hL (a+1,out,g3) ⟨by show a+1<=n;omega,xg.trans x3,?_⟩ (by show n-(a+1)<n-a;omega)
  show cF h2.length g3 9 out ((bP (aG ps) s (a+1)).map S)
  rw [he]
  exact o3
 cases er:s.contains (lt a) with
 | false=>
  have Js:lt a∉s:=λhc=>by rw [(contains_iff_mem).2 hc] at er;cases er
  simp only [Bool.not_false,yH]
  refine stay _ _ rfl ?_
  simp only [bP]
  rw [if_neg λhc=>Js hc.1]
 | true=>
  have eu:lt a∈s:=(contains_iff_mem).1 er
  simp only [Bool.not_true,gB]
  refine ED o3.ss (by omega) (show a<26 by omega) (by simp [aU,k3]) ?_
  cases nq:(bP (aG ps) s a).any λp=>p.contains (lt a) with
  | true=>
   refine stay _ _ rfl ?_
   simp only [bP]
   rw [if_neg λhc=>by rw [nq] at hc;cases hc.2]
  | false=>
   have he:bP (aG ps) s (a+1)=bP (aG ps) s a++[kj (aG ps) s (lt a)]:=by
    simp only [bP]
    rw [if_pos ⟨eu,nq⟩]
   rw [DO,(show dH (B false) (.bool true) (B false)=some (B false) from rfl)]
   have uG:bR 5 1 [(.int .u8 (0))] g3 [(0,1,cv (lt a))]=some (sl 5 g3.length 0 1,g3++[.arr 5 [cv (lt a)]]):=rfl
   have HT:∀g:ad,jw 40 [(.slice none 0 0)] g=some (pt g.length 0,g++[.arr 40 [.slice none 0 0]]):=λ_=>rfl
   simp only [aq,fa,BV,uG,ca,HT]
   rw [sV lR (by simp) rfl rfl]
   simp only [ca]
   have Bl:(g3++[ay.arr 5 [cv (lt a)]]).length=g3.length+1:=by simp
   have k4:(g3++[ay.arr 5 [cv (lt a)]])[g3.length]?=some (.arr 5 [cv (lt a)]):=lR
   have x4:EX g3 (g3++[.arr 5 [cv (lt a)]]):=EX.append _ _
   generalize g3++[ay.arr 5 [cv (lt a)]]=g4 at Bl k4 x4⊢
   have x5:EX g3 ((g4++[ay.arr 40 [.slice none 0 0]]).set g4.length (.arr 40 ([Value.slice none 0 0].set 0 (sl 5 g3.length 0 1)))):=(x4.trans (EX.append _ _)).set (by omega) _
   have k5:((g4++[ay.arr 40 [.slice none 0 0]]).set g4.length (.arr 40 ([Value.slice none 0 0].set 0 (sl 5 g3.length 0 1))))[g4.length]?=some (.arr 40 [sl 5 g3.length 0 1]):=xG lR
   have k6:((g4++[ay.arr 40 [.slice none 0 0]]).set g4.length (.arr 40 ([Value.slice none 0 0].set 0 (sl 5 g3.length 0 1))))[g3.length]?=some (.arr 5 [cv (lt a)]):=by
    rw [getElem?_set_ne (by omega)]
    exact (EX.append _ _).get k4
   refine EL (ip0:=g3.length) bK ls JV (ht.mono (xg.trans x3)) eu ⟨x5,by omega,by omega,by omega,k5,k6⟩ ?_
   intro g6 x6
   have o6:cF h2.length g6 9 out ((bP (aG ps) s a).map S):=o3.kV λd m hv _=>x6.2 d (o3.lt hv).2.1
   refine tZ (bytes:=16) o6 ((xg.trans x3).trans x6) (by rw [length_map];omega) (by rw [length_map];simp [maxLen];omega) rfl rfl ?_
   intro v' g7 x7 o7
   rw [DP]
   simp only [cM,aq,dA a (by omega),true_and]
   refine hL (a+1,v',g7) ⟨by show a+1<=n;omega,x7,?_⟩ (by show n-(a+1)<n-a;omega)
   show cF h2.length g7 9 v' ((bP (aG ps) s (a+1)).map S)
   rw [he,List.map_append]
   exact o7
end
end
end Go.Proofs.YtlpdhfdpnakgdaaDoor
namespace Go.Sim
section
def only (x y:UInt8) (s:List UInt8):List UInt8:=s.filter λc=>decide (c=x)||decide (c=y)
def oI (fr:UInt8->UInt8->Bool) (a b:UInt8):Prop:=a=b∨fr a b=false
theorem lL {fr:UInt8->UInt8->Bool} {x:UInt8}:∀{s:List UInt8} {k i:Nat},aO fr x s k=some i->∃u v,s=u++x::v/\i=k+u.length/\∀c∈u,c≠x/\fr c x=true
 | [],k,i,h=>by simp [aO] at h
 | c::cs,k,i,h=>by
  simp only [aO] at h
  split at h
  ·rename_i hc
   simp at h
   subst h
   subst hc
   exact ⟨[],cs,rfl,by simp,by simp⟩
  ·rename_i hc
   split at h
   ·rename_i hf
    obtain ⟨u,v,h1,h2,h3⟩:=lL h
    refine ⟨c::u,v,by simp [h1],by simp [h2];omega,?_⟩
    intro d hd
    rcases List.mem_cons.1 hd with rfl | hd
    ·exact ⟨hc,hf⟩
    ·exact h3 d hd
   ·cases h
theorem nX (u v:List UInt8) (x:UInt8):bf (u++x::v) u.length=u++v:=by
 simp [bf]
theorem gW (x y:UInt8) (s t:List UInt8):only x y (s++t)=only x y s++only x y t:=by simp [only]
theorem sk {x y:UInt8} {u:List UInt8} (h:∀c∈u,c≠x/\c≠y):only x y u=[]:=by
 simp only [only,List.filter_eq_nil_iff]
 intro c hc
 have:=h c hc
 simp [this.1,this.2]
section
variable {fr : UInt8 -> UInt8 -> Bool} (hs : ∀ a b, fr a b = fr b a)
include hs
theorem sg {x a d:UInt8} {u v:List UInt8} (hu:∀c∈u,c≠x/\fr c x=true) (fg:oI fr a d):only a d (u++x::v)=only a d (x::(u++v)):=by
 have e:only a d (x::(u++v))=only a d [x]++(only a d u++only a d v):=by rw [<-gW,<-gW];rfl
 have e2:only a d (u++x::v)=only a d u++(only a d [x]++only a d v):=by rw [<-gW,<-gW];rfl
 rw [e,e2]
 by_cases hx:x=a∨x=d
 ·have:only a d u=[]:=by
   refine sk λc hc=>?_
   obtain ⟨h1,h2⟩:=hu c hc
   rcases hx with rfl | rfl
   ·refine ⟨h1,?_⟩
    rintro rfl
    rcases fg with rfl | h
    ·exact h1 rfl
    ·rw [hs] at h;rw [h] at h2;cases h2
   ·refine ⟨?_,h1⟩
    rintro rfl
    rcases fg with rfl | h
    ·exact h1 rfl
    ·rw [h] at h2;cases h2
  rw [this]
  simp
 ·have:only a d [x]=[]:=sk λc hc=>by
   rw [mem_singleton] at hc
   subst hc
   exact ⟨λh=>hx (.inl h),λh=>hx (.inr h)⟩
  rw [this]
  simp
theorem sj {a d:UInt8} (fg:oI fr a d) {n:Nat}:∀(f:Nat) (s:List UInt8),letters n s->s.length=f->only a d (bX fr n f s)=only a d s
 | 0,s,_,hf=>by
  have:s=[]:=length_eq_zero_iff.1 hf
  subst this
  rfl
 | f+1,s,hl,hf=>by
  obtain ⟨b,i,h1,_,h3,h4⟩:=mC (fr:=fr) (n:=n) (s:=s) (by rintro rfl;simp at hf) hl
  simp only [bX,h1]
  obtain ⟨u,v,e1,e2,e3⟩:=lL h4
  have hw:=gu h3
  have ih:=sj fg f (bf s i) (gU hl i) (by omega)
  have e4:bf s i=u++v:=by
   rw [e1,e2,zero_add,nX]
  rw [e4] at ih
  have e5:only a d (lt b::bX fr n f (bf s i))=only a d (lt b::(u++v)):=by
   have c1:∀w,only a d (lt b::w)=only a d [lt b]++only a d w:=λw=>by rw [<-gW];rfl
   rw [c1 (bX fr n f (bf s i)),c1 (u++v),e4,ih]
  rw [e5,e1]
  exact (sg hs e3 fg).symm
omit hs in
theorem oN {x:UInt8} {n:Nat}:∀{s:List UInt8},letters n s->∀k,(∃i,aO fr x s k=some i)↔(only x x s).head?=some x/\∀c,(∃a,a<n/\c=lt a)->c≠x->fr c x=false->(only c x s).head?=some x
 | [],_,k=>by simp [aO,only]
 | y::s,hl,k=>by
  have ih:=oN (x:=x) (n:=n) (s:=s) (λc hc=>hl c (by simp [hc])) (k+1)
  have c1:∀a d,only a d (y::s)=only a d [y]++only a d s:=λa d=>by rw [<-gW];rfl
  simp only [aO]
  by_cases hy:y=x
  ·subst hy
   simp [only]
  ·rw [if_neg hy]
   have n1:only x x [y]=[]:=sk λc hc=>by rw [mem_singleton] at hc;subst hc;exact ⟨hy,hy⟩
   by_cases hf:fr y x=true
   ·rw [if_pos hf,ih]
    rw [c1,n1,List.nil_append]
    refine and_congr_right λ_=>forall_congr' λc=>forall_congr' λ_=>forall_congr' λ_=>?_
    refine forall_congr' λrv=>?_
    have:only c x [y]=[]:=sk λd hd=>by
     rw [mem_singleton] at hd
     subst hd
     refine ⟨?_,hy⟩
     rintro rfl
     rw [hf] at rv
     cases rv
    rw [c1,this,List.nil_append]
   ·rw [if_neg hf]
    refine ⟨λh=>by simp at h,?_⟩
    rintro ⟨_,h⟩
    have:=h y (hl y (by simp)) hy (by simpa using hf)
    simp [only] at this
    exact absurd this hy
omit hs in
theorem DF {s t:List UInt8}:∀{m a:Nat},(∀b,a<=b->b<a+m->((∃i,aO fr (lt b) s 0=some i)↔∃i,aO fr (lt b) t 0=some i))->(cK fr s m a).map Prod.fst=(cK fr t m a).map Prod.fst
 | 0,a,_=>rfl
 | m+1,a,h=>by
  have h0:=h a (le_refl _) (by omega)
  simp only [cK]
  cases h1:aO fr (lt a) s 0 with
  | some i=>
   obtain ⟨j,hj⟩:=h0.1 ⟨i,h1⟩
   rw [hj]
   rfl
  | none=>
   cases h2:aO fr (lt a) t 0 with
   | some j=>
    obtain ⟨i,hi⟩:=h0.2 ⟨j,h2⟩
    rw [h1] at hi
    cases hi
   | none=>exact DF λb IK hb2=>h b (by omega) (by omega)
theorem wD {n:Nat}:∀(f:Nat) (s t:List UInt8),letters n s->letters n t->s.length=f->(∀a d,a<n->d<n->oI fr (lt a) (lt d)->only (lt a) (lt d) s=only (lt a) (lt d) t)->t.length=f/\bX fr n f s=bX fr n f t
 | 0,s,t,_,ed,hf,h=>by
  have:s=[]:=length_eq_zero_iff.1 hf
  subst this
  cases t with
  | nil=>exact ⟨rfl,rfl⟩
  | cons c t=>
   obtain ⟨a,ha,rfl⟩:=ed c (by simp)
   have:=h a a ha ha (.inl rfl)
   simp [only] at this
 | f+1,s,t,ls,ed,hf,h=>by
  have aV:s≠[]:=by rintro rfl;simp at hf
  obtain ⟨a,i,h1,h2,h3,h4⟩:=mC (fr:=fr) aV ls
  have Ir:∀b,b<n->((∃i,aO fr (lt b) s 0=some i)↔∃i,aO fr (lt b) t 0=some i):=by
   intro b hb
   rw [oN ls,oN ed,h b b hb hb (.inl rfl)]
   refine and_congr_right λ_=>forall_congr' λc=>forall_congr' λhc=>forall_congr' λ_=>forall_congr' λrv=>?_
   obtain ⟨e,he,rfl⟩:=hc
   rw [h e b he hb (.inr rv)]
  have hp:=DF (fr:=fr) (s:=s) (t:=t) (m:=n) (a:=0) λb _ hb=>Ir b (by omega)
  rw [h1] at hp
  cases hq:cK fr t n 0 with
  | none=>rw [hq] at hp;cases hp
  | some p=>
   obtain ⟨a',j⟩:=p
   rw [hq] at hp
   simp at hp
   subst hp
   have J7:t≠[]:=by
    rintro rfl
    have:∀m b,cK fr [] m b=none:=by
     intro m
     induction m with
     | zero=>intro b;rfl
     | succ m ih=>intro b;simp [cK,aO,ih]
    rw [this] at hq
    cases hq
   obtain ⟨a2,j2,q1,q2,q3,q4⟩:=mC (fr:=fr) J7 ed
   rw [hq] at q1
   simp at q1
   obtain ⟨rfl,rfl⟩:=q1
   obtain ⟨u,v,e1,e2,e3⟩:=lL h4
   obtain ⟨u',v',AE,jP,HD⟩:=lL q4
   have w1:bf s i=u++v:=by rw [e1,e2,zero_add,nX]
   have w2:bf t j=u'++v':=by rw [AE,jP,zero_add,nX]
   have Py:=gu h3
   have rN:=gu q3
   obtain ⟨r1,r2⟩:=wD f (bf s i) (bf t j) (gU ls i) (gU ed j) (by omega) (by
    intro b d hb hd jn
    have:=h b d hb hd jn
    rw [e1,AE,sg hs e3 jn,sg hs HD jn] at this
    have c1:∀w,only (lt b) (lt d) (lt a::w)=only (lt b) (lt d) [lt a]++only (lt b) (lt d) w:=λw=>by rw [<-gW];rfl
    rw [c1 (u++v),c1 (u'++v')] at this
    rw [w1,w2]
    exact List.append_cancel_left this)
   refine ⟨by omega,?_⟩
   simp only [bX,h1,hq,r2]
end
end
section
def bj (fr:UInt8->UInt8->Bool) (n:Nat) (s t:List UInt8):Prop:=∀a d,a<n->d<n->oI fr (lt a) (lt d)->only (lt a) (lt d) s=only (lt a) (lt d) t
def first (fr:UInt8->UInt8->Bool) (x:UInt8) (s:List UInt8):Prop:=∃i,aO fr x s 0=some i
theorem bj.refl (fr:UInt8->UInt8->Bool) (n:Nat) (s:List UInt8):bj fr n s s:=λ_ _ _ _ _=>rfl
theorem bj.symm {fr:UInt8->UInt8->Bool} {n:Nat} {s t:List UInt8} (h:bj fr n s t):bj fr n t s:=λa d h1 h2 h3=>(h a d h1 h2 h3).symm
theorem bj.trans {fr:UInt8->UInt8->Bool} {n:Nat} {s t u:List UInt8} (h:bj fr n s t) (k:bj fr n t u):bj fr n s u:=λa d h1 h2 h3=>(h a d h1 h2 h3).trans (k a d h1 h2 h3)
theorem bj.append {fr:UInt8->UInt8->Bool} {n:Nat} {s t s' t':List UInt8} (h:bj fr n s t) (k:bj fr n s' t'):bj fr n (s++s') (t++t'):=λa d h1 h2 h3=>by
 rw [gW,gW,h a d h1 h2 h3,k a d h1 h2 h3]
theorem bj.cancel {fr:UInt8->UInt8->Bool} {n:Nat} {u s t:List UInt8} (h:bj fr n (u++s) (u++t)):bj fr n s t:=λa d h1 h2 h3=>by
 have:=h a d h1 h2 h3
 rw [gW,gW] at this
 exact List.append_cancel_left this
theorem bj.cons {fr:UInt8->UInt8->Bool} {n:Nat} {s t:List UInt8} (x:UInt8) (h:bj fr n s t):bj fr n (x::s) (x::t):=bj.append (bj.refl fr n [x]) h
theorem bj.N6 {fr:UInt8->UInt8->Bool} {n:Nat} {x:UInt8} {s t:List UInt8} (h:bj fr n (x::s) (x::t)):bj fr n s t:=bj.cancel (u:=[x]) h
theorem ng {fr:UInt8->UInt8->Bool} {x:UInt8} {s:List UInt8} {i:Nat} (h:aO fr x s 0=some i):i<s.length:=by
 have:=lK h
 omega
section
variable {fr : UInt8 -> UInt8 -> Bool} (hs : ∀ a b, fr a b = fr b a) {n : Nat}
include hs in
theorem AL {x:UInt8} {s:List UInt8} {i:Nat} (h:aO fr x s 0=some i):bj fr n (x::bf s i) s:=by
 obtain ⟨u,v,e1,e2,e3⟩:=lL h
 have e4:bf s i=u++v:=by rw [e1,e2,zero_add,nX]
 intro a d ha hd fg
 rw [e4,e1,sg hs e3 fg]
theorem AK {s t:List UInt8} (ls:letters n s) (ed:letters n t) (h:bj fr n s t) {b:Nat} (hb:b<n) (hf:first fr (lt b) s):first fr (lt b) t:=by
 have:=(oN (x:=lt b) ls 0).1 hf
 rw [h b b hb hb (.inl rfl)] at this
 refine (oN (x:=lt b) ed 0).2 ⟨this.1,λc hc h1 h2=>?_⟩
 obtain ⟨e,he,rfl⟩:=hc
 rw [<-h e b he hb (.inr h2)]
 exact this.2 _ ⟨e,he,rfl⟩ h1 h2
include hs in
theorem Ib {s t:List UInt8} {x:UInt8} {i j:Nat} (h:bj fr n s t) (hi:aO fr x s 0=some i) (hj:aO fr x t 0=some j):bj fr n (bf s i) (bf t j):=
 bj.N6 (((AL hs hi).trans h).trans (AL hs hj).symm)
include hs in
theorem AM {s t:List UInt8} (ls:letters n s) (ed:letters n t) (h:bj fr n s t):t.length=s.length:=(wD hs s.length s t ls ed rfl h).1
include hs in
theorem Ia {s t:List UInt8} (ls:letters n s) (ed:letters n t):bj fr n s t↔bX fr n s.length s=bX fr n t.length t:=by
 constructor
 ·intro h
  obtain ⟨h1,h2⟩:=wD hs s.length s t ls ed rfl h
  rw [h1,h2]
 ·intro h a d _ _ fg
  rw [<-sj hs fg s.length s ls rfl,<-sj hs fg t.length t ed rfl,h]
include hs in
theorem uI {s:List UInt8} (ls:letters n s):bj fr n (bX fr n s.length s) s:=λ_ _ _ _ fg=>sj hs fg s.length s ls rfl
theorem r5:∀{f:Nat} {s:List UInt8},letters n s->s.length=f->letters n (bX fr n f s)/\(bX fr n f s).length=f
 | 0,s,_,_=>⟨λc hc=>by simp [bX] at hc,rfl⟩
 | f+1,s,ls,hf=>by
  obtain ⟨a,i,h1,h2,h3,_⟩:=mC (fr:=fr) (n:=n) (s:=s) (by rintro rfl;simp at hf) ls
  have hw:=gu h3
  obtain ⟨q1,q2⟩:=r5 (f:=f) (gU ls i) (by omega)
  simp only [bX,h1]
  refine ⟨λc hc=>?_,by simp [q2]⟩
  rcases List.mem_cons.1 hc with rfl | hc
  ·exact ⟨a,h2,rfl⟩
  ·exact q1 c hc
theorem Lu {a d:UInt8} (fg:oI fr a d):∀{y z:List UInt8},(∀c∈y,∀e∈z,c≠e/\fr c e=true)->(∀a b,fr a b=fr b a)->only a d (y++z)=only a d (z++y):=by
 intro y z h hs
 rw [gW,gW]
 -- one of the two holds none of the letters
 by_cases hy:only a d y=[]
 ·rw [hy];simp
 ·by_cases hz:only a d z=[]
  ·rw [hz];simp
  ·exfalso
   obtain ⟨c,hc⟩:=List.exists_mem_of_ne_nil _ hy
   obtain ⟨e,he⟩:=List.exists_mem_of_ne_nil _ hz
   simp only [only,mem_filter,Bool.or_eq_true,decide_eq_true_eq] at hc he
   obtain ⟨h1,h2⟩:=h c hc.1 e he.1
   rcases hc.2 with rfl | rfl <;> rcases he.2 with rfl | rfl
   ·exact h1 rfl
   ·rcases fg with h3 | h3
    ·exact h1 h3
    ·rw [h3] at h2;cases h2
   ·rcases fg with h3 | h3
    ·exact h1 h3.symm
    ·rw [hs,h3] at h2;cases h2
   ·exact h1 rfl
include hs in
theorem H9 {y z:List UInt8} (h:∀c∈y,∀e∈z,c≠e/\fr c e=true):bj fr n (y++z) (z++y):=λ_ _ _ _ fg=>Lu fg h hs
theorem Lo {s t:List UInt8} {a:Nat} (ha:a<n) (h:bj fr n s t) (hm:lt a∈s):lt a∈t:=by
 have:=h a a ha ha (.inl rfl)
 have bV:lt a∈only (lt a) (lt a) s:=by simp [only,hm]
 rw [this] at bV
 simp [only] at bV
 exact bV
end
end
section
def wT (fr:UInt8->UInt8->Bool) (W:List UInt8->Nat) (s:List UInt8) (a:Nat):Nat:=match aO fr (lt a) s 0 with | some i=>W (bf s i) | none=>0
def wW (fr:UInt8->UInt8->Bool):Nat->List UInt8->Nat
 | 0,_=>1
 | f+1,s=>((List.range 6).map (wT fr (wW fr f) s)).sum
theorem xM {l:List Nat} {f g:Nat->Nat} (h:∀a∈l,f a=g a):(l.map f).sum=(l.map g).sum:=by rw [List.map_congr_left h]
theorem Ec (x y:Nat) (f g:Nat->Nat):∀l:List Nat,(l.map λa=>x*f a+y*g a).sum=x*(l.map f).sum+y*(l.map g).sum
 | []=>by simp
 | a::l=>by
  simp only [List.map_cons,List.sum_cons,Ec x y f g l,Nat.mul_add]
  omega
section
variable {fr : UInt8 -> UInt8 -> Bool} (hs : ∀ a b, fr a b = fr b a)
include hs
theorem xR:∀(f:Nat) {s t:List UInt8},letters 6 s->letters 6 t->s.length=f->bj fr 6 s t->wW fr f s=wW fr f t
 | 0,_,_,_,_,_,_=>rfl
 | f+1,s,t,ls,ed,hl,h=>by
  have Px:=AM hs ls ed h
  refine xM λa ha=>?_
  have jZ:a<6:=List.mem_range.1 ha
  unfold wT
  cases h1:aO fr (lt a) s 0 with
  | none=>
   cases h2:aO fr (lt a) t 0 with
   | none=>rfl
   | some j=>
    obtain ⟨i,hi⟩:=AK ed ls h.symm jZ ⟨j,h2⟩
    rw [h1] at hi
    cases hi
  | some i=>
   obtain ⟨j,hj⟩:=AK ls ed h jZ ⟨i,h1⟩
   rw [hj]
   have:=gu (ng h1)
   exact xR f (gU ls i) (gU ed j) (by omega) (Ib hs h h1 hj)
end
theorem AU {fr:UInt8->UInt8->Bool} {x:UInt8} {v:List UInt8}:∀{u:List UInt8} {k:Nat},(∀c∈u,c≠x/\fr c x=true)->aO fr x (u++x::v) k=some (k+u.length)
 | [],k,_=>by simp [aO]
 | c::u,k,h=>by
  obtain ⟨h1,h2⟩:=h c (by simp)
  simp only [List.cons_append,aO,if_neg h1,h2,if_true]
  rw [AU λd hd=>h d (by simp [hd])]
  simp only [length_cons]
  congr 1
  omega
def mU (fr:UInt8->UInt8->Bool) (A:UInt8->Bool) (s:List UInt8):Prop:=∀x∈s,∀y∈s,A x=true->A y=false->fr x y=true/\fr y x=true
theorem mU.bf {fr:UInt8->UInt8->Bool} {A:UInt8->Bool} {s:List UInt8} (h:mU fr A s) (i:Nat):mU fr A (bf s i):=by
 have hm:∀x∈Go.Sim.bf s i,x∈s:=λx hx=>by
  unfold Go.Sim.bf at hx
  rcases mem_append.1 hx with hx | hx
  ·exact List.mem_of_mem_take hx
  ·exact List.mem_of_mem_drop hx
 exact λx hx y hy=>h x (hm x hx) y (hm y hy)
theorem rf {fr:UInt8->UInt8->Bool} {x:UInt8} {A:UInt8->Bool} (hx:A x=true):∀{s:List UInt8} {k k' i:Nat},(∀y∈s,A y=false->fr y x=true)->aO fr x (s.filter A) k=some i->∃j,aO fr x s k'=some j
 | [],k,k',i,_,h=>by simp [aO] at h
 | c::s,k,k',i,hc,h=>by
  by_cases hA:A c=true
  ·rw [filter_cons_of_pos hA] at h
   simp only [aO] at h⊢
   split
   ·exact ⟨_,rfl⟩
   ·rename_i aV
    rw [if_neg aV] at h
    split
    ·rename_i hf
     rw [if_pos hf] at h
     exact rf hx (λy hy=>hc y (by simp [hy])) h
    ·rename_i hf
     rw [if_neg hf] at h
     cases h
  ·have rn:A c=false:=by simpa using hA
   rw [filter_cons_of_neg hA] at h
   have aV:c≠x:=by rintro rfl;exact hA hx
   simp only [aO,if_neg aV,hc c (by simp) rn,if_true]
   exact rf hx (λy hy=>hc y (by simp [hy])) h
theorem AV {fr:UInt8->UInt8->Bool} {x:UInt8} {A:UInt8->Bool} {s:List UInt8} {i:Nat} (hx:A x=true) (h:aO fr x s 0=some i):
  ∃j,aO fr x (s.filter A) 0=some j/\(bf s i).filter A=bf (s.filter A) j/\(bf s i).filter (λy=> !A y)=s.filter λy=> !A y:=by
 obtain ⟨u,v,rfl,rfl,hu⟩:=lL h
 rw [zero_add,nX]
 have e1:(u++x::v).filter A=u.filter A++x::v.filter A:=by rw [List.filter_append,filter_cons_of_pos hx]
 refine ⟨0+(u.filter A).length,?_,?_,?_⟩
 ·rw [e1]
  exact AU λc hc=>hu c (mem_filter.1 hc).1
 ·rw [e1,zero_add,nX,List.filter_append]
 ·rw [List.filter_append,List.filter_append,filter_cons_of_neg (by simp [hx])]
def bw:Nat->Nat->Nat
 | 0,_=>1
 | _+1,0=>1
 | m+1,n+1=>bw m (n+1)+bw (m+1) n
termination_by m n=>m+n
theorem sO (m:Nat):bw m 0=1:=by cases m <;> simp [bw]
theorem sN (n:Nat):bw 0 n=1:=by simp [bw]
theorem xI (m n:Nat):bw (m+1) (n+1)=bw m (n+1)+bw (m+1) n:=by rw [bw]
def cb:Nat->Nat
 | 0=>1
 | n+1=>(n+1)*cb n
theorem uO:∀n,0<cb n
 | 0=>by decide
 | n+1=>Nat.mul_pos (by omega) (uO n)
theorem sM:∀k m n,m+n=k->bw m n*(cb m*cb n)=cb (m+n)
 | k,0,n,_=>by simp [sN,cb]
 | k,m+1,0,_=>by simp [sO,cb]
 | 0,m+1,n+1,h=>by omega
 | k+1,m+1,n+1,h=>by
  have h1:=sM k m (n+1) (by omega)
  have h2:=sM k (m+1) n (by omega)
  rw [xI]
  have e1:cb (m+1)=(m+1)*cb m:=rfl
  have e2:cb (n+1)=(n+1)*cb n:=rfl
  have e3:cb (m+1+(n+1))=(m+n+2)*cb (m+n+1):=by
   rw [show m+1+(n+1)=m+n+1+1 by omega];rfl
  have e4:m+(n+1)=m+n+1:=by omega
  have e5:m+1+n=m+n+1:=by omega
  rw [e4] at h1
  rw [e5] at h2
  rw [e3]
  have l1:bw m (n+1)*(cb (m+1)*cb (n+1))=(m+1)*cb (m+n+1):=by
   rw [<-h1,e1]
   ac_rfl
  have l2:bw (m+1) n*(cb (m+1)*cb (n+1))=(n+1)*cb (m+n+1):=by
   rw [<-h2,e2]
   ac_rfl
  rw [Nat.add_mul,l1,l2,<-Nat.add_mul]
  congr 1
  omega
theorem NU (a j:Nat):bw a (j+1)*(j+1)=bw a j*(a+j+1):=by
 have h1:=sM _ a (j+1) rfl
 have h2:=sM _ a j rfl
 have e2:cb (j+1)=(j+1)*cb j:=rfl
 have e3:cb (a+(j+1))=(a+j+1)*cb (a+j):=rfl
 have hp:0<cb a*cb j:=Nat.mul_pos (uO a) (uO j)
 refine Nat.eq_of_mul_eq_mul_right hp ?_
 rw [e2,e3,<-h2] at h1
 calc bw a (j+1)*(j+1)*(cb a*cb j)=bw a (j+1)*(cb a*((j+1)*cb j)):=by ac_rfl
  _=(a+j+1)*(bw a j*(cb a*cb j)):=h1
  _=bw a j*(a+j+1)*(cb a*cb j):=by ac_rfl
theorem uR (A:UInt8->Bool):∀s:List UInt8,(s.filter A).length+(s.filter λy=> !A y).length=s.length
 | []=>rfl
 | c::s=>by
  have:=uR A s
  by_cases h:A c=true
  ·rw [filter_cons_of_pos h,filter_cons_of_neg (by simp [h])];simp;omega
  ·rw [filter_cons_of_neg h,filter_cons_of_pos (by simp [h])];simp;omega
theorem AR {A:UInt8->Bool} {s:List UInt8} (h:(s.filter A).length=0):(s.filter λy=> !A y)=s:=by
 rw [List.filter_eq_self]
 intro y hy
 have h0:s.filter A=[]:=length_eq_zero_iff.1 h
 have:=List.filter_eq_nil_iff.1 h0 y hy
 simpa using this
theorem xS {fr:UInt8->UInt8->Bool} {A:UInt8->Bool}:∀(f:Nat) {s:List UInt8},letters 6 s->s.length=f->mU fr A s->
  wW fr f s=bw (s.filter A).length (s.filter λy=> !A y).length*(wW fr (s.filter A).length (s.filter A)*wW fr (s.filter λy=> !A y).length (s.filter λy=> !A y))
 | 0,s,_,hl,_=>by
  have:s=[]:=length_eq_zero_iff.1 hl
  subst this
  simp [wW,sN]
 | f+1,s,ls,hl,rr=>by
  have hlen:=uR A s
  cases hp:(s.filter A).length with
  | zero=>
   have e:=AR hp
   have j9:s.filter A=[]:=length_eq_zero_iff.1 hp
   rw [e,hl,sN,j9]
   simp [wW]
  | succ p=>
   cases hq:(s.filter λy=> !A y).length with
   | zero=>
    have e:=AR (A:=λy=> !A y) hq
    have e':s.filter A=s:=by
     have:(λy=> !!A y)=A:=by funext y;simp
     rwa [this] at e
    have j9:(s.filter λy=> !A y)=[]:=length_eq_zero_iff.1 hq
    rw [e',hl] at hp
    rw [e',<-hp,sO,j9]
    simp [wW]
   | succ q=>
    have hf:f=p+(q+1):=by omega
    have Pd:f=p+1+q:=by omega
    have key:∀a∈List.range 6,wT fr (wW fr f) s a=(bw p (q+1)*wW fr (q+1) (s.filter λy=> !A y))*wT fr (wW fr p) (s.filter A) a+(bw (p+1) q*wW fr (p+1) (s.filter A))*wT fr (wW fr q) (s.filter λy=> !A y) a:=by
     intro a _
     have Cd:∀{B:UInt8->Bool},B (lt a)=false->wT fr (wW fr q) (s.filter B) a=0/\wT fr (wW fr p) (s.filter B) a=0:=by
      intro B hB
      have:aO fr (lt a) (s.filter B) 0=none:=by
       cases h1:aO fr (lt a) (s.filter B) 0 with
       | none=>rfl
       | some j=>
        have:=(lK h1).2.2
        have:=List.mem_of_getElem? this
        rw [mem_filter] at this
        rw [this.2] at hB
        cases hB
      unfold wT
      rw [this]
      exact ⟨rfl,rfl⟩
     cases hA:A (lt a) with
     | true=>
      rw [(Cd (B:=λy=> !A y) (by simp [hA])).1,Nat.mul_zero,add_zero]
      unfold wT
      cases h1:aO fr (lt a) s 0 with
      | some i=>
       obtain ⟨j,j1,j2,j3⟩:=AV hA h1
       have nF:=gu (ng h1)
       have ih:=xS (fr:=fr) (A:=A) f (gU ls i) (by omega) (rr.bf i)
       have hj:=gu (ng j1)
       have dF:(bf (s.filter A) j).length=p:=by omega
       rw [j2,j3,hq,dF] at ih
       rw [j1]
       show wW fr f (bf s i)=_*wW fr p (bf (s.filter A) j)
       rw [ih]
       ac_rfl
      | none=>
       cases h2:aO fr (lt a) (s.filter A) 0 with
       | none=>rfl
       | some j=>
        have eu:lt a∈s.filter A:=List.mem_of_getElem? (lK h2).2.2
        obtain ⟨j',iG⟩:=rf (k':=0) hA (λy hy vL=>(rr (lt a) (mem_filter.1 eu).1 y hy hA vL).2) h2
        rw [h1] at iG
        cases iG
     | false=>
      rw [(Cd (B:=A) hA).2,Nat.mul_zero,zero_add]
      have hB:(λy=> !A y) (lt a)=true:=by simp [hA]
      have H6:(λy=> !(λz=> !A z) y)=A:=by funext y;simp
      unfold wT
      cases h1:aO fr (lt a) s 0 with
      | some i=>
       obtain ⟨j,j1,j2,j3⟩:=AV (A:=λy=> !A y) hB h1
       rw [H6] at j3
       have nF:=gu (ng h1)
       have ih:=xS (fr:=fr) (A:=A) f (gU ls i) (by omega) (rr.bf i)
       have hj:=gu (ng j1)
       have dF:(bf (s.filter λy=> !A y) j).length=q:=by omega
       rw [j2,j3,hp,dF] at ih
       rw [j1]
       show wW fr f (bf s i)=_*wW fr q (bf (s.filter λy=> !A y) j)
       rw [ih]
       simp only [Nat.mul_assoc]
      | none=>
       cases h2:aO fr (lt a) (s.filter λy=> !A y) 0 with
       | none=>rfl
       | some j=>
        have eu:lt a∈s.filter λy=> !A y:=List.mem_of_getElem? (lK h2).2.2
        obtain ⟨j',iG⟩:=rf (A:=λy=> !A y) (k':=0) hB (λy hy vL=>(rr y hy (lt a) (mem_filter.1 eu).1 (by simpa using vL) hA).1) h2
        rw [h1] at iG
        cases iG
    show ((List.range 6).map (wT fr (wW fr f) s)).sum=_
    rw [xM key,Ec]
    have eA:((List.range 6).map (wT fr (wW fr p) (s.filter A))).sum=wW fr (p+1) (s.filter A):=rfl
    have eB:((List.range 6).map (wT fr (wW fr q) (s.filter λy=> !A y))).sum=wW fr (q+1) (s.filter λy=> !A y):=rfl
    rw [eA,eB,xI,Nat.add_mul]
    congr 1
    ·ac_rfl
    ·simp only [Nat.mul_assoc]
theorem AN {fr:UInt8->UInt8->Bool} (hs:∀a b,fr a b=fr b a) {A:UInt8->Bool}:∀{s:List UInt8},mU fr A s->bj fr 6 s (s.filter A++s.filter λy=> !A y)
 | [],_=>bj.refl _ _ _
 | x::t,h=>by
  have ih:=AN hs (A:=A) (s:=t) λa ha b hb=>h a (by simp [ha]) b (by simp [hb])
  by_cases hA:A x=true
  ·rw [filter_cons_of_pos hA,filter_cons_of_neg (by simp [hA])]
   exact bj.cons x ih
  ·have rn:A x=false:=by simpa using hA
   rw [filter_cons_of_neg hA,filter_cons_of_pos (by simp [rn])]
   have h1:=bj.cons x ih
   have h2:bj fr 6 ([x]++t.filter A) (t.filter A++[x]):=H9 hs λc hc e he=>by
    rw [mem_singleton.1 hc]
    obtain ⟨e1,e2⟩:=mem_filter.1 he
    exact ⟨by rintro rfl;exact hA e2,(h e (by simp [e1]) x (by simp) e2 rn).2⟩
   have h3:=bj.append h2 (bj.refl fr 6 (t.filter λy=> !A y))
   have h4:=h1.trans (by simpa using h3)
   simpa using h4
theorem BE {fr:UInt8->UInt8->Bool} {s:List UInt8} {x y z:UInt8} (h:fQ fr s x y) (k:fQ fr s y z):fQ fr s x z:=λQ q0 q1=>k Q (h Q q0 q1) q1
theorem Kx {fr:UInt8->UInt8->Bool} (hs:∀a b,fr a b=fr b a) {s:List UInt8} {x y:UInt8} (hx:x∈s) (h:fQ fr s x y):fQ fr s y x:=
 (h (λa=>a∈s/\fQ fr s a x) ⟨hx,pE fr s x⟩ λa ⟨ha,hq⟩ z hz hf=>⟨hz,BE (wq (pE fr s z) ha (by rw [hs];exact hf)) hq⟩).2
def de (l:List (List UInt8)) (y:UInt8):Bool:=l.any λp=>p.contains y
structure tC (fr:UInt8->UInt8->Bool) (s:List UInt8) (l:List (List UInt8)):Prop where
 each:∀i (hi:i<l.length),∃x,x∈s/\l[i]=kj fr s x/\de (l.take i) x=false
theorem DA (fr:UInt8->UInt8->Bool) (s:List UInt8):∀n,tC fr s (bP fr s n)
 | 0=>⟨λi hi=>by simp [bP] at hi⟩
 | n+1=>by
  have ih:=DA fr s n
  simp only [bP]
  split
  ·rename_i hc
   refine ⟨λi hi=>?_⟩
   by_cases hl:i<(bP fr s n).length
   ·obtain ⟨x,h1,h2,h3⟩:=ih.each i hl
    exact ⟨x,h1,by rw [List.getElem_append_left hl];exact h2,by rw [List.take_append_of_le_length (by omega)];exact h3⟩
   ·have he:i=(bP fr s n).length:=by rw [length_append] at hi;simp at hi;omega
    subst he
    exact ⟨lt n,hc.1,by rw [List.getElem_append_right (le_refl _)];simp,by rw [List.take_append_of_le_length (le_refl _),take_length];exact hc.2⟩
  ·exact ih
theorem Dz {fr:UInt8->UInt8->Bool} {s:List UInt8}:∀n a,a<n->lt a∈s->de (bP fr s n) (lt a)=true
 | n+1,a,ha,hm=>by
  have mono:∀y,de (bP fr s n) y=true->de (bP fr s (n+1)) y=true:=by
   intro y hy
   simp only [bP]
   split
   ·unfold de at hy⊢
    rw [any_append,hy]
    rfl
   ·exact hy
  by_cases he:a=n
  ·subst he
   cases h0:de (bP fr s a) (lt a) with
   | true=>exact mono _ h0
   | false=>
    have A2:(bP fr s a).any (λp=>p.contains (lt a))=false:=h0
    simp only [bP]
    rw [if_pos ⟨hm,A2⟩]
    unfold de
    rw [any_append,A2]
    simp only [any_cons,List.any_nil,Bool.or_false,Bool.false_or]
    rw [contains_iff_mem]
    unfold kj
    rw [mem_filter]
    exact ⟨hm,pD.2 (pE _ _ _)⟩
  ·exact mono _ (Dz n a (by omega) hm)
def bz (s:List UInt8) (l:List (List UInt8)) (i:Nat):List UInt8:=s.filter (de (l.take i))
theorem rY {l:List (List UInt8)} {i:Nat} (hi:i<=l.length) {y:UInt8}:de (l.take i) y=true↔∃j,∃hj:j<l.length,j<i/\y∈l[j]:=by
 unfold de
 rw [any_eq_true]
 constructor
 ·rintro ⟨p,hp,hy⟩
  obtain ⟨j,hj,rfl⟩:=List.getElem_of_mem hp
  rw [length_take] at hj
  refine ⟨j,by omega,by omega,?_⟩
  rw [List.getElem_take] at hy
  exact (contains_iff_mem).1 hy
 ·rintro ⟨j,hj,rB,hy⟩
  refine ⟨l[j],?_,(contains_iff_mem).2 hy⟩
  have:(l.take i)[j]'(by rw [length_take];omega)=l[j]:=List.getElem_take
  rw [<-this]
  exact getElem_mem _
theorem Dy {fr:UInt8->UInt8->Bool} {s:List UInt8} {l:List (List UInt8)} (ok:tC fr s l) {j:Nat} (hj:j<l.length) {y z:UInt8} (hy:y∈l[j]) (hz:z∈s) (hf:fQ fr s y z):z∈l[j]:=by
 obtain ⟨x,h1,h2,_⟩:=ok.each j hj
 rw [h2] at hy⊢
 unfold kj at hy⊢
 rw [mem_filter] at hy⊢
 exact ⟨hz,pD.2 (BE (pD.1 hy.2) hf)⟩
theorem BG {l:List (List UInt8)} {i:Nat} (hi:i<l.length) (y:UInt8):de (l.take (i+1)) y=(de (l.take i) y||l[i].contains y):=by
 unfold de
 rw [take_succ_eq_append_getElem hi,any_append]
 simp
section
variable {fr : UInt8 -> UInt8 -> Bool} (hs : ∀ a b, fr a b = fr b a) {s : List UInt8} {l : List (List UInt8)} (ok : tC fr s l)
include hs ok
theorem LC {i:Nat} (hi:i<l.length) {y:UInt8} (hy:y∈l[i]):de (l.take i) y=false:=by
 cases h:de (l.take i) y with
 | false=>rfl
 | true=>
  obtain ⟨j,hj,rB,vM⟩:=(rY (Nat.le_of_lt hi)).1 h
  obtain ⟨x,h1,h2,h3⟩:=ok.each i hi
  rw [h2] at hy
  unfold kj at hy
  rw [mem_filter] at hy
  have hx:x∈l[j]:=Dy ok hj vM h1 (Kx hs h1 (pD.1 hy.2))
  rw [(rY (Nat.le_of_lt hi)).2 ⟨j,hj,rB,hx⟩] at h3
  cases h3
omit hs ok in
theorem N9 {i:Nat} (hi:i<l.length):(bz s l (i+1)).filter (de (l.take i))=bz s l i:=by
 unfold bz
 rw [List.filter_filter]
 refine List.filter_congr λy _=>?_
 rw [BG hi]
 cases de (l.take i) y <;> simp
theorem Oa {i:Nat} (hi:i<l.length):((bz s l (i+1)).filter λy=> !de (l.take i) y)=l[i]:=by
 obtain ⟨x,h1,h2,h3⟩:=ok.each i hi
 have e:∀y∈s,(!de (l.take i) y&&de (l.take (i+1)) y)=nI fr s x y:=by
  intro y hy
  rw [BG hi]
  have hc:l[i].contains y=nI fr s x y:=by
   rw [Bool.eq_iff_iff,contains_iff_mem,h2]
   unfold kj
   rw [mem_filter]
   exact ⟨λh=>h.2,λh=>⟨hy,h⟩⟩
  cases er:de (l.take i) y with
  | false=>simpa using hc
  | true=>
   have aP:l[i].contains y=false:=by
    cases hh:l[i].contains y with
    | false=>rfl
    | true=>
     rw [LC hs ok hi ((contains_iff_mem).1 hh)] at er
     cases er
   rw [aP] at hc
   simpa using hc
 unfold bz
 rw [List.filter_filter,h2]
 exact List.filter_congr e
theorem Eh {i:Nat} (hi:i<l.length):mU fr (de (l.take i)) (bz s l (i+1)):=by
 intro y hy z hz hA hB
 unfold bz at hy hz
 obtain ⟨pz,_⟩:=mem_filter.1 hy
 obtain ⟨nG,_⟩:=mem_filter.1 hz
 obtain ⟨j,hj,rB,vM⟩:=(rY (Nat.le_of_lt hi)).1 hA
 have key:fr y z=true:=by
  cases hf:fr y z with
  | true=>rfl
  | false=>
   have Kk:=Dy ok hj vM nG (wq (pE fr s y) nG hf)
   rw [(rY (Nat.le_of_lt hi)).2 ⟨j,hj,rB,Kk⟩] at hB
   cases hB
 exact ⟨key,by rw [hs];exact key⟩
theorem Ej {i:Nat} (hi:i<l.length) (ls:letters 6 s):wW fr (bz s l (i+1)).length (bz s l (i+1))=bw (bz s l i).length l[i].length*(wW fr (bz s l i).length (bz s l i)*wW fr l[i].length l[i])/\
  (bz s l (i+1)).length=(bz s l i).length+l[i].length/\bj fr 6 (bz s l (i+1)) (bz s l i++l[i]):=by
 have lu:letters 6 (bz s l (i+1)):=λc hc=>ls c (mem_filter.1 hc).1
 have h1:=xS _ lu rfl (Eh hs ok hi)
 have h2:=uR (de (l.take i)) (bz s l (i+1))
 have h3:=AN hs (Eh hs ok hi)
 rw [N9 hi,Oa hs ok hi] at h1 h2 h3
 exact ⟨h1,h2.symm,h3⟩
theorem Ei:∀i,i<=l.length->letters 6 s->bj fr 6 (bz s l i) (l.take i).flatten
 | 0,_,_=>by
  have:bz s l 0=[]:=by unfold bz de;simp
  rw [this]
  exact bj.refl _ _ _
 | i+1,hi,ls=>by
  have ih:=Ei i (by omega) ls
  obtain ⟨_,_,h3⟩:=Ej hs ok (i:=i) (by omega) ls
  rw [take_succ_eq_append_getElem (by omega),List.flatten_append]
  have:[l[i]].flatten=l[i]:=by simp
  rw [this]
  exact h3.trans (bj.append ih (bj.refl fr 6 l[i]))
end
theorem N8 {fr:UInt8->UInt8->Bool} {s:List UInt8} (ls:letters 6 s):bz s (bP fr s 6) (bP fr s 6).length=s:=by
 unfold bz
 rw [take_length,List.filter_eq_self]
 intro y hy
 obtain ⟨a,ha,rfl⟩:=ls y hy
 exact Dz 6 a ha hy
end
end Go.Sim
namespace Go.Proofs.YtlpdhfdpnakgdaaDoor
open Go.Sim
section
def U8 (ns:List Int):Prop:=∀x∈ns,0<=x/\x<256
theorem FX (i:Nat) (h:i<6):(([97,98,99,100,101,102]:List UInt8).take (i+1)).drop i=[lt i]:=by
 have:i=0∨i=1∨i=2∨i=3∨i=4∨i=5:=by omega
 rcases this with rfl | rfl | rfl | rfl | rfl | rfl <;> rfl
theorem EA {n most:Nat} {lv:Value} {ns:List Int} {h:ad} {K:Value->ad->Prop} (hn:1<=n) (bK:n<=6) (hm:most<=100) (hl:NS h lv .u8 ns) (hu:U8 ns) (hk:∀s,letters n s->s.length<=most->K (S s) h):
  az Tryd.prog 13 [I n,lv,I most] h K:=by
 refine f13 ?_
 refine eM (σ:=List UInt8) (λs=>[S s,I s.length]) (λ_=>h) (λs=>letters n s/\s.length<=most) (λs=>most-s.length) [] rfl rfl ⟨λc hc=>by simp at hc,by simp⟩ ?_
 rintro s ⟨hs,J0⟩ L hL
 rw [LX]
 simp only [hl.len,aq,dT,LV]
 have done:wX Tryd.prog K (S s) h:=by rw [LW];exact hk s hs J0
 by_cases h1:(s.length:Int)<ns.length
 ·simp only [gG h1,tk,aq,DM,rW,c9]
  refine ⟨λh2=>?_,λ_=>done⟩
  obtain ⟨b,o,g1,g2⟩:=hl.get s.length (by omega)
  obtain ⟨u1,u2⟩:=hu _ (getElem_mem (show s.length<ns.length by omega))
  generalize ns[s.length]=m at g2 u1 u2
  obtain ⟨m,rfl⟩:∃j:Nat,m=j:=⟨m.toNat,by omega⟩
  simp only [g1,aq,g2,lE,true_and]
  rw [wrap64 (by omega) (by omega),DS _ _ _ (by omega)]
  have hr:m%n<n:=Nat.mod_lt _ (by omega)
  simp only [aq,cM,dA (m%n) (by omega)]
  have e:(.string ⟨#[97,98,99,100,101,102]⟩:Value)=S [97,98,99,100,101,102]:=rfl
  rw [e,NW _ (by omega) (by simp;omega),FX _ (by omega)]
  simp only [aq]
  rw [ua _ _ (by simp only [length_cons,List.length_nil,maxLen];omega)]
  simp only [aq,dA s.length (by omega)]
  have:=hL (s++[lt (m%n)]) ⟨λc hc=>by
   rcases mem_append.1 hc with hc | hc
   ·exact hs c hc
   ·rw [mem_singleton] at hc;exact ⟨_,hr,hc⟩,by simp;omega⟩ (by simp;omega)
  simpa using this
 ·simp only [dp h1,yG,DM,gi,aq,fa]
  exact done
theorem LG (ps:List (Int×Int)):iW (.arr 62 (bN ps))=true:=by
 induction ps with
 | nil=>rfl
 | cons p ps ih=>simp only [iW,bN] at ih⊢;simp [ih,bn]
theorem F1 {h0 hx:ad} {id:Nat} {ps:List (Int×Int)} {a b:Int} {K:Value->ad->Prop} (hex:EX h0 hx) (dQ:h0.length<=id) (hg:hx[id]?=some (.arr 62 (bN ps))) (hl:ps.length<=1000)
  (hk:∀iP bL,EX h0 bL->h0.length<=iP->bL[iP]?=some (.arr 62 (bN (ps++[(a,b)])))->K (sl 62 iP 0 (ps++[(a,b)]).length) bL):
  OP (jx [.int .i64 0,.int .i64 0] [(0,1,I a),(1,1,I b)]) λaR=>OH (bR 62 1 [.int .i64 0,.int .i64 0] hx [(0,2,aR)]) λbk h_1=>OH (cO 62 2 16 h_1 (sl 62 id 0 ps.length) bk) K:=by
 have e0:jx [.int .i64 0,.int .i64 0] [(0,1,I a),(1,1,I b)]=some (.agg #[I a,I b]):=rfl
 have e1:bR 62 1 [.int .i64 0,.int .i64 0] hx [(0,2,.agg #[I a,I b])]=some (sl 62 hx.length 0 1,hx++[.arr 62 [I a,I b]]):=rfl
 simp only [e0,aq,e1,ca]
 have e2:dL (hx++[.arr 62 [I a,I b]]) 2 (sl 62 hx.length 0 1)=some [I a,I b]:=by simp [dL,sl,aU]
 have e3:gl (sl 62 hx.length 0 1)=some 1:=rfl
 have hlt:=(bu hg).1
 have I7:(hx++[.arr 62 [I a,I b]])[id]?=some (.arr 62 (bN ps)):=by rw [getElem?_append_left hlt];exact hg
 have hpl:=sx ps
 have JB:bN (ps++[(a,b)])=bN ps++[I a,I b]:=by simp [bN]
 refine og (v:=sl 62 (hx.length+1) 0 (ps++[(a,b)]).length) (h:=(hx++[ay.arr 62 [I a,I b]]).set id ay.dead++[ay.arr 62 (bN (ps++[(a,b)]))]) ?_
  (hk _ _ (((hex.push _).set dQ _).push _) (by have:=hex.1;omega) (by rw [getElem?_append_right (by simp)];simp))
 simp only [cO,e2,e3]
 simp only [sl,I7]
 rw [if_pos ⟨trivial,trivial,by omega,by omega,by unfold maxLen;omega⟩,if_neg (by omega),JB]
 simp
theorem Ez {kk f:Int} {h:ad} {K:Value->ad->Prop} (h0:0<=kk) (h1:kk<256)
  (hk:∀(n:Nat) ps id hx,1<=n->n<=6->eO n ps=true->EX h hx->h.length<=id->hx[id]?=some (.arr 62 (bN ps))->K (.tuple #[I n,sl 62 id 0 ps.length]) hx):
  az Tryd.prog 12 [.agg #[.int .u8 kk,.int .u16 f]] h K:=by
 refine f12 ?_
 obtain ⟨kk,rfl⟩:∃j:Nat,kk=j:=⟨kk.toNat,by omega⟩
 have e1:kc 39 h (.agg #[.int .u8 kk,.int .u16 f])=some (pt h.length 0,h++[.arr 39 [.int .u8 kk,.int .u16 f]]):=rfl
 simp only [tF,e1,ca,jm,add_zero,aq]
 have l0:aw false 1 (h++[.arr 39 [.int .u8 kk,.int .u16 f]]) (pt h.length 0)=some (.int .u8 kk):=kX rfl
 have l1:aw false 1 (h++[.arr 39 [.int .u8 kk,.int .u16 f]]) (pt h.length 1)=some (.int .u16 f):=kX rfl
 have x1:EX h (h++[.arr 39 [.int .u8 kk,.int .u16 f]]):=EX.append _ _
 generalize vp:h++[ay.arr 39 [.int .u8 kk,.int .u16 f]]=h1 at*
 simp only [l0,aq,lE]
 rw [wrap64 (by omega) (by omega),show (.int .i64 6:Value)=.int .i64 ((6:Nat):Int) from rfl,DS _ _ _ (by omega)]
 have hr:kk%6<6:=Nat.mod_lt _ (by omega)
 simp only [aq,cM,dA (kk%6) (by omega)]
 obtain ⟨n,hn⟩:∃n,n=kk%6+1:=⟨_,rfl⟩
 rw [<-hn]
 have hn1:1<=n:=by omega
 have bK:n<=6:=by omega
 have e2:bR 62 0 [.int .i64 0,.int .i64 0] h1 []=some (sl 62 h1.length 0 0,h1++[.arr 62 []]):=rfl
 simp only [e2,ca]
 let V:List (Int×Int)->Prop:=λps=>∀p∈ps,0<=p.2/\p.2<p.1/\p.1<n
 refine eM (σ:=List (Int×Int)×Nat×Nat×Nat×ad) (λs=>[sl 62 s.2.1 0 s.1.length,I s.2.2.1,I s.2.2.2.1]) (λs=>s.2.2.2.2)
  (λs=>V s.1/\EX h1 s.2.2.2.2/\h1.length<=s.2.1/\s.2.2.2.2[s.2.1]?=some (.arr 62 (bN s.1))/\s.1.length<=s.2.2.1/\s.2.2.1<=5*s.2.2.2.1/\s.2.2.2.1<=n) (λs=>n-s.2.2.2.1)
  ([],h1.length,0,0,h1++[.arr 62 []]) rfl rfl ⟨λp hp=>by simp at hp,EX.append _ _,le_refl _,by simp [bN],by simp,by simp,by simp⟩ ?_
 rintro ⟨ps,id,at_,i,hx⟩ ⟨hv,hex,dQ,hg,hlen,ve,hi⟩ L hL
 simp only at hv hex dQ hg hlen ve hi hL⊢
 rw [LU]
 simp only [dT,aq,c9]
 refine ⟨λhlt=>?_,λeI=>?_⟩
 ·simp only [cM,aq,dA i (by omega)]
  refine eM (σ:=List (Int×Int)×Nat×Nat×Nat×ad) (λs=>[sl 62 s.2.1 0 s.1.length,I s.2.2.1,I s.2.2.2.1]) (λs=>s.2.2.2.2)
   (λs=>V s.1/\EX h1 s.2.2.2.2/\h1.length<=s.2.1/\s.2.2.2.2[s.2.1]?=some (.arr 62 (bN s.1))/\s.1.length<=s.2.2.1/\s.2.2.1+(i+1)<=5*i+s.2.2.2.1/\i<s.2.2.2.1/\s.2.2.2.1<=n) (λs=>n-s.2.2.2.1)
   (ps,id,at_,i+1,hx) rfl rfl ⟨hv,hex,dQ,hg,hlen,by show at_+(i+1)<=5*i+(i+1);omega,by show i<i+1;omega,by show i+1<=n;omega⟩ ?_
  rintro ⟨qs,jd,bt,j,hy⟩ ⟨hv,hex,dQ,hg,hlen,ve,gh,hj⟩ L2 iC
  simp only at hv hex dQ hg hlen ve gh hj iC⊢
  rw [LN]
  simp only [dT,aq,c9]
  refine ⟨λhlt2=>?_,λBe=>?_⟩
  ·have K0:=EX.load hex l1
   simp only [jm,zero_add,aq,K0]
   have es:∃z,au .shr (.int .u16 f) (I bt)=some (.int .u16 z):=by
    refine ⟨f.fdiv (2^(min ((bt:Int)).toNat IntKind.u16.bits)),?_⟩
    simp only [au,mm]
    rw [if_neg (by omega)]
   obtain ⟨z,es⟩:=es
   simp only [es,aq]
   have ea:∃w,au .and (.int .u16 z) (.int .u16 1)=some (.int .u16 w):=⟨_,rfl⟩
   obtain ⟨w,ea⟩:=ea
   simp only [ea,aq,mV]
   have next:∀(rs:List (Int×Int)) (iP:Nat) (hz:ad),V rs->EX h1 hz->h1.length<=iP->hz[iP]?=some (.arr 62 (bN rs))->rs.length<=bt+1->so Tryd.prog K (pt h.length 0) (I n) (sl 62 iP 0 rs.length) (I bt) (I i) (I j) L L2 hz:=by
    intro rs iP hz q1 q2 q3 q4 q5
    simp only [LO,LP,cM,aq,dA bt (by omega),dA j (by omega),true_and]
    exact iC (rs,iP,bt+1,j+1,hz) ⟨q1,q2,q3,q4,q5,by show bt+1+(i+1)<=5*i+(j+1);omega,by show i<j+1;omega,by show j+1<=n;omega⟩ (by show n-(j+1)<n-j;omega)
   simp only [c9]
   refine ⟨λ_=>?_,λ_=>next qs jd hy hv hex dQ hg (by omega)⟩
   refine F1 (a:=j) (b:=i) hex dQ hg (by omega) ?_
   intro iP hz q2 q3 q4
   refine next _ iP hz ?_ q2 q3 q4 (by simp;omega)
   intro p hp
   rcases mem_append.1 hp with hp | hp
   ·exact hv p hp
   ·rw [mem_singleton] at hp
    subst hp
    show 0<=(i:Int)/\(i:Int)<(j:Int)/\(j:Int)<(n:Int)
    omega
  ·have:j=n:=by omega
   subst this
   simp only [LR,cM,aq,dA i (by omega),true_and]
   exact hL (qs,jd,bt,i+1,hy) ⟨hv,hex,dQ,hg,hlen,by show bt<=5*(i+1);omega,by show i+1<=j;omega⟩ (by show j-(i+1)<j-i;omega)
 ·have:i=n:=by omega
  subst this
  rw [LS]
  have ht:eO i ps=true:=by
   simp only [eO,sY,Bool.and_eq_true,decide_eq_true_eq,List.all_eq_true]
   refine ⟨λp hp=>?_,⟨by omega,by omega⟩,by omega⟩
   have:=hv p hp
   simp only [sy,Bool.and_eq_true,decide_eq_true_eq,Bool.not_eq_true',decide_eq_false_iff_not]
   omega
  exact hk i ps id hx hn1 bK ht (x1.trans hex) (by have:=x1.1;omega) hg
theorem Ey {kk f:Int} {h:ad} {K:Value->ad->Prop} (h0:0<=kk) (h1:kk<256) (hk:∀(n:Nat) ps,1<=n->n<=6->eO n ps=true->K (.tuple #[I n,sl 62 h.length 0 ps.length]) (h++[.arr 62 (bN ps)])):
  az Tryd.prog 12 [.agg #[.int .u8 kk,.int .u16 f]] h K:=
 G9 (Ez h0 h1 λn ps id _ a1 a2 a3 a4 a5 a6=>⟨a4,id,.arr 62 (bN ps),λj=>.tuple #[I n,sl 62 j 0 ps.length],a5,a6,LG ps,
  Ren.tuple (l:=[λ_=>I n,λj=>sl 62 j 0 ps.length]) (.cons (Ren.bn rfl) (.cons (Ren.sl _ _ _) .nil)),rfl,hk n ps a1 a2 a3⟩)
end
section
theorem oM (ps:List (Int×Int)) (a b:UInt8):aG ps a b=aG ps b a:=by
 unfold aG
 refine ot λp _=>?_
 unfold hit
 rw [Bool.or_comm]
theorem Lb {n:Nat} {s:List UInt8} (hn:n<=6) (h:letters n s):s.any (gb n)=false:=by
 rw [any_eq_false]
 intro c hc
 obtain ⟨a,ha,rfl⟩:=h c hc
 have:=iS (a:=a) (by omega)
 simp only [gb,this]
 simp
 omega
theorem xX {n:Nat} {ps:List (Int×Int)} {ls:List (List UInt8)} {most:Nat} (hn:n<=6) (ht:eO n ps=true) (h:∀s∈ls,letters n s/\s.length<=most):cT n ps ls most=0:=by
 unfold cT jC
 rw [ht,if_pos rfl]
 have h1:ls.any (λs=>decide (most<s.length))=false:=by
  rw [any_eq_false];intro s hs;have:=(h s hs).2;simp;omega
 have h2:ls.any (λs=>s.any (gb n))=false:=by
  rw [any_eq_false];intro s hs;rw [Lb hn (h s hs).1];simp
 rw [h1,h2]
 rfl
theorem kh {n m:Nat} (h:n<=m) {s:List UInt8} (hs:letters n s):letters m s:=λc hc=>let ⟨a,h1,h2⟩:=hs c hc;⟨a,by omega,h2⟩
theorem qA {ps:List (Int×Int)} {s:List UInt8} (ls:letters 6 s):letters 6 (eT ps s)/\(eT ps s).length=s.length:=r5 ls rfl
theorem Ln {fr:UInt8->UInt8->Bool} {n:Nat} {s t:List UInt8} (ls:letters n s) (h:bj fr n s t):∀c∈s,c∈t:=by
 intro c hc
 obtain ⟨a,ha,rfl⟩:=ls c hc
 exact Lo ha h hc
theorem La {fr:UInt8->UInt8->Bool} {n:Nat} {s t:List UInt8} (ls:letters 6 s) (ed:letters n t) (h:bj fr 6 s t):letters n s:=λc hc=>ed c (Ln ls h c hc)
theorem FU {ps:List (Int×Int)} {s:List UInt8} (ls:letters 6 s):bj (aG ps) 6 (eT ps s) s:=uI (oM ps) ls
theorem y6 {ps:List (Int×Int)} {n:Nat} {s:List UInt8} (hn:n<=6) (ls:letters n s):letters n (eT ps s):=
 La (qA (kh hn ls)).1 ls (FU (kh hn ls))
theorem Io {ps:List (Int×Int)} {s:List UInt8} {b:Nat} (hs:letters 6 s) (hb:b<6):aO (fe (bE ps)) (lt b) s 0=aO (aG ps) (lt b) s 0:=
 uU λc hc=>by obtain ⟨a,ha,rfl⟩:=hs c hc;exact uY ps (by omega) (by omega)
theorem Ip {fr:UInt8->UInt8->Bool} {x:UInt8} {s:List UInt8} (h:first fr x s):x∈s:=by
 obtain ⟨i,hi⟩:=h
 obtain ⟨u,v,e,_,_⟩:=lL hi
 rw [e];simp
end
section
def eP (fr:UInt8->UInt8->Bool):Nat->List UInt8->Nat
 | 0,_=>1
 | f+1,s=>((List.range 6).map λa=>match aO fr (lt a) s 0 with | some i=>eP fr f (bX fr 6 f (bf s i)) | none=>0).sum
def gY (fr:UInt8->UInt8->Bool) (f:Nat) (s:List UInt8) (a:Nat):Nat:=match aO fr (lt a) s 0 with | some i=>eP fr f (bX fr 6 f (bf s i)) | none=>0
def fX (fr:UInt8->UInt8->Bool) (f:Nat) (s:List UInt8) (b:Nat):Nat:=((List.range b).map (gY fr f s)).sum
theorem xT (fr:UInt8->UInt8->Bool) (f:Nat) (s:List UInt8):eP fr (f+1) s=fX fr f s 6:=rfl
theorem xU (fr:UInt8->UInt8->Bool) (f:Nat) (s:List UInt8) (b:Nat):fX fr f s (b+1)=fX fr f s b+gY fr f s b:=by
 unfold fX
 rw [List.range_succ,List.map_append,List.sum_append]
 simp
theorem xN {m:Nat}:∀{l:List Nat},(∀x∈l,x<=m)->l.sum<=l.length*m
 | [],_=>by simp
 | x::l,h=>by
  have:=xN (l:=l) λy hy=>h y (by simp [hy])
  have:=h x (by simp)
  simp only [List.sum_cons,length_cons,Nat.add_mul]
  omega
theorem te (fr:UInt8->UInt8->Bool):∀(f:Nat) (s:List UInt8),eP fr f s<=6^f
 | 0,s=>by simp [eP]
 | f+1,s=>by
  have:eP fr (f+1) s<=((List.range 6).map (gY fr f s)).length*6^f:=by
   rw [xT]
   refine xN ?_
   intro x hx
   obtain ⟨a,_,rfl⟩:=List.mem_map.1 hx
   unfold gY
   split
   ·exact te fr f _
   ·exact zero_le _
  have h6:6^(f+1)=6*6^f:=by rw [Nat.pow_succ,Nat.mul_comm]
  rw [h6]
  simpa using this
theorem Oc (fr:UInt8->UInt8->Bool) (f:Nat) (s:List UInt8) {b:Nat} (hb:b<=6):fX fr f s b<=6*6^f:=by
 have:fX fr f s b<=((List.range b).map (gY fr f s)).length*6^f:=by
  refine xN ?_
  intro x hx
  obtain ⟨a,_,rfl⟩:=List.mem_map.1 hx
  unfold gY
  split
  ·exact te fr f _
  ·exact zero_le _
 rw [length_map,List.length_range] at this
 exact Nat.le_trans this (Nat.mul_le_mul_right _ hb)
theorem LJ {f:Nat} (h:f<=16):6^f<=2821109907456:=by
 have:6^f<=6^16:=Nat.pow_le_pow_right (by omega) h
 simpa using this
theorem uS (k k':ByteArray) (v:Value):∀es:List (ByteArray×Value),dr k (fy k' v es)=if k=k' then some v else dr k es
 | []=>by
  simp only [fy,dr]
 | (k2,v2)::es=>by
  simp only [fy]
  by_cases h:k'=k2
  ·subst h
   rw [if_pos rfl]
   simp only [dr]
   by_cases hk:k=k'
   ·rw [if_pos hk,if_pos hk]
   ·rw [if_neg hk,if_neg hk,if_neg hk]
  ·rw [if_neg h]
   simp only [dr]
   rw [uS k k' v es]
   by_cases hk:k=k2
   ·subst hk
    rw [if_pos rfl,if_pos rfl,if_neg (λhe=>h he.symm)]
   ·rw [if_neg hk,if_neg hk]
def MG (fr:UInt8->UInt8->Bool) (es:List (ByteArray×Value)):Prop:=∀(l:List UInt8) v,dr ⟨l.toArray⟩ es=some v->v=I (eP fr l.length l)
theorem key_inj {l m:List UInt8} (h:(⟨l.toArray⟩:ByteArray)=⟨m.toArray⟩):l=m:=by
 have:=congrArg (λb:ByteArray=>b.data.toList) h
 simpa using this
theorem MG.set {fr:UInt8->UInt8->Bool} {es:List (ByteArray×Value)} (h:MG fr es) {s:List UInt8} {n:Nat} (hn:n=eP fr s.length s):MG fr (fy ⟨s.toArray⟩ (I n) es):=by
 intro l v hv
 rw [uS] at hv
 split at hv
 ·rename_i hk
  obtain rfl:=key_inj hk
  rw [<-hn]
  exact (Option.some.inj hv).symm
 ·exact h l v hv
section
variable {ps : List (Int × Int)} {pv : Value} {h : ad} {i : Nat}
abbrev dv (h:ad) (i:Nat) (es:List (ByteArray×Value)):ad:=h.set i (.smap es)
theorem Bm (hi:i<h.length) (es:List (ByteArray×Value)):(dv h i es)[i]?=some (.smap es):=by simp [dv,hi]
theorem Jo (es lH:List (ByteArray×Value)):(dv h i es).set i (.smap lH)=dv h i lH:=by simp [dv]
theorem Lg (hi:i<h.length) (es:List (ByteArray×Value)) (s:List UInt8):mj true (.int .i64 0) (dv h i es) (.map (some i)) (S s)=some (.tuple #[(dr ⟨s.toArray⟩ es).getD (I 0),B (dr ⟨s.toArray⟩ es).isSome]):=by
 simp only [mj,S,Bm hi]
 rfl
theorem Ob (hi:i<h.length) (es:List (ByteArray×Value)) (s:List UInt8) (v:Value):nQ (dv h i es) (.map (some i)) (S s) v=some (undef,dv h i (fy ⟨s.toArray⟩ v es)):=by
 simp only [nQ,nH,S,Bm hi,Jo]
 rfl
theorem At {F:FuncId} {cap:Array Value} {args:List Value} {K:Value->ad->Prop} (hF:gF Tryd.prog F=true) (hc:az Tryd.prog F (args++cap.toList) h K):jK Tryd.prog (.func (.func F) #[] cap) args h K:=by
 rw [iu] at hc
 exact ⟨⟨hF,by simpa using hc⟩⟩
theorem CF:gF Tryd.prog 34=true:=by kernel_rfl
theorem Oe {fr:UInt8->UInt8->Bool} {f n:Nat} {s:List UInt8} (ls:letters n s) (_:n<=6) {a:Nat} (ha:n<=a) (jZ:a<6):gY fr f s a=0:=by
 unfold gY
 cases h:aO fr (lt a) s 0 with
 | none=>rfl
 | some i=>
  obtain ⟨b,hb,e⟩:=ls _ (Ip ⟨i,h⟩)
  have:=Lj (by omega) (by omega) e
  omega
theorem Od {fr:UInt8->UInt8->Bool} {f n:Nat} {s:List UInt8} (ls:letters n s) (hn:n<=6):fX fr f s n=fX fr f s 6:=by
 have:∀k,n+k<=6->fX fr f s (n+k)=fX fr f s n:=by
  intro k
  induction k with
  | zero=>intro _;rfl
  | succ k ih=>
   intro hk
   rw [show n+(k+1)=(n+k)+1 by omega,xU,Oe ls hn (by omega) (by omega),ih (by omega)]
   rfl
 have:=this (6-n) (by omega)
 rw [show n+(6-n)=6 by omega] at this
 exact this.symm
theorem yy {n kn tc w:Nat} {tv:Value} (hi:i<h.length) (vu:∀es,aw false 1 (dv h i es) (pt kn 0)=some (.map (some i))) (hl2:∀es,aw false 1 (dv h i es) (pt tc 0)=some tv)
  (rF:∀es,aw false 1 (dv h i es) (pt w 0)=some (.func (.func 34) #[] #[pt kn 0,pt tc 0,pt w 0])) (fo:∀es,TH (dv h i es) tv n (bE ps)) (bK:n<=6):
  ∀(f:Nat) {s:List UInt8} {es:List (ByteArray×Value)} {K:Value->ad->Prop},letters n s->s.length=f->f<=16->MG (aG ps) es->dr ⟨#[]⟩ es≠none->
  (∀lH,MG (aG ps) lH->dr ⟨#[]⟩ lH≠none->K (I (eP (aG ps) f s)) (dv h i lH))->az Tryd.prog 34 [S s,pt kn 0,pt tc 0,pt w 0] (dv h i es) K
 | f,s,es,K,ls,hs,A5,hm,hz,hk=>by
  refine f34 ?_
  simp only [tO,vu,aq,Lg hi,gI,iU,iV]
  cases hf:dr ⟨s.toArray⟩ es with
  | some v=>
   have:=hm s v hf
   subst this
   simp only [Option.isSome_some,gC,Option.getD_some]
   rw [hs]
   exact hk es hm hz
  | none=>
   simp only [Option.isSome_none,fa,hl2,aq]
   match f,hs,A5,hk with
   | 0,hs,_,_=>
    have:s=[]:=length_eq_zero_iff.1 hs
    subst this
    exact absurd hf hz
   | f+1,hs,A5,hk=>
    obtain ⟨ti,J8,hc⟩:=fo es
    have o9:aw false 1 (dv h i es) (pt ti 0)=some (I n):=by simp [aw,hc,cY,bo]
    rw [J8]
    simp only [pL,aq,jm,zero_add,o9]
    refine eM (σ:=Nat×List (ByteArray×Value)) (λp=>[I (fX (aG ps) f s p.1),I p.1]) (λp=>dv h i p.2) (λp=>p.1<=n/\MG (aG ps) p.2/\dr ⟨#[]⟩ p.2≠none) (λp=>n-p.1) (0,es) rfl rfl ⟨by simp,hm,hz⟩ ?_
    rintro ⟨b,uJ⟩ ⟨hb,rH,jv⟩ L hL
    simp only at hb rH jv hL⊢
    rw [Md]
    have Pu:=LJ (f:=f) (by omega)
    have hS:=Oc (aG ps) f s (show b<=6 by omega)
    simp only [dT,aq,c9]
    refine ⟨λhlt=>?_,λeI=>?_⟩
    ·have du:b<n:=by omega
     simp only [hl2,aq,lE,cM]
     rw [iZ (n:=(b:Int)) (by omega) (by omega),iZ (by omega) (by omega)]
     have oJ:(.int .u8 (97+(b:Int)):Value)=cv (lt b):=by rw [oH (by omega)];congr 1
     rw [oJ]
     have s6:=kh bK ls
     refine yz (fo uJ) (by omega) s6 (by omega) ?_
     rw [Io s6 (by omega)]
     have next:∀lI (m:Nat),MG (aG ps) lI->dr ⟨#[]⟩ lI≠none->m=gY (aG ps) f s b->sq Tryd.prog K (S s) (pt kn 0) (pt tc 0) (pt w 0) (I ((fX (aG ps) f s b+m:Nat):Int)) (I n) (I b) L (dv h i lI):=by
      intro lI m vz hz2 hn
      rw [Me]
      simp only [cM,aq,dA b (by omega),true_and]
      have:=hL (b+1,lI) ⟨by show b+1<=n;omega,vz,hz2⟩ (by show n-(b+1)<n-b;omega)
      rw [xU,<-hn] at this
      exact this
     have hT:gY (aG ps) f s b=match aO (aG ps) (lt b) s 0 with | some i=>eP (aG ps) f (bX (aG ps) 6 f (bf s i)) | none=>0:=rfl
     simp only [jN,aq]
     cases h1:aO (aG ps) (lt b) s 0 with
     | none=>
      rw [dp (show ¬(0:Int)<=kY none by simp [kY])]
      simp only [fa]
      rw [h1] at hT
      have:=next uJ 0 rH jv hT.symm
      simpa using this
     | some j=>
      rw [gG (show (0:Int)<=kY (some j) by simp [kY])]
      simp only [gC,kY,rF,hl2,aq,true_and]
      rw [h1] at hT
      simp only at hT
      have hj:=(AT h1).1
      have hw:=gu hj
      have nF:(bf s j).length=f:=by omega
      refine yA hj (by omega) ?_
      simp only [rF,hl2,true_and]
      have lw:=gU ls j
      refine qi (k:=n) (fo uJ) bK (by omega) lw ?_
      rw [qz bK lw]
      have eL:eT ps (bf s j)=bX (aG ps) 6 f (bf s j):=by unfold eT;rw [nF]
      obtain ⟨q1,q2⟩:=qA (ps:=ps) (kh bK lw)
      have q3:=y6 (ps:=ps) bK lw
      rw [<-eL] at hT
      simp only [rF,true_and]
      refine At CF ?_
      refine yy hi vu hl2 rF fo bK f q3 (by omega) (by omega) rH jv ?_
      intro lI vz hz2
      simp only [cM,aq]
      have hN:=te (aG ps) f (eT ps (bf s j))
      have e:IntKind.wrap .i64 ((fX (aG ps) f s b:Int)+(eP (aG ps) f (eT ps (bf s j)):Int))=((fX (aG ps) f s b+eP (aG ps) f (eT ps (bf s j)):Nat):Int):=by
       rw [wrap64 (by omega) (by omega)];omega
      rw [e]
      exact next lI _ vz hz2 hT.symm
    ·have:b=n:=by omega
     subst this
     simp only [Mf,vu,aq,Ob hi,ca]
     rw [Od ls bK,<-xT]
     refine hk _ (rH.set (by rw [hs])) ?_
     rw [uS]
     split
     ·simp
     ·exact jv
end
end
end Go.Proofs.YtlpdhfdpnakgdaaDoor
