/-
  Jobs and pairs that are made of bytes: always valid.
-/
import Derived.Test.YtelmdbpaoifmoaaMgm
import Derived.Test.YtelmdbpaoifmoaaMeK
import Derived.Test.YtelmdbpaoifmoaaShM
namespace Go.Proofs.Ytelmdbpaoifmoaa
open Go.Sim

/-- What one more pair in an owned slice does. -/
theorem app_p2 {hx : Heap} {e : TypeId} {id : Nat} {ps : List (Int × Int)} {a b : Int} {K : Value → Heap → Prop} (hg : hx[id]? = some (.arr e (pcells ps))) (hl : ps.length ≤ 1000)
    (hk : ∀ id' hx', hx.length ≤ id' → XM id hx hx' → hx'[id']? = some (.arr e (pcells (ps ++ [(a, b)]))) → K (sl e id' 0 (ps ++ [(a, b)]).length) hx') :
    OH (iMkSl e 1 [.int .i64 0, .int .i64 0] hx [(0, 2, .agg #[I a, I b])]) fun x37 h_1 => OH (iApp e 2 16 h_1 (sl e id 0 ps.length) x37) K := by
  have e1 : iMkSl e 1 [.int .i64 0, .int .i64 0] hx [(0, 2, .agg #[I a, I b])] = some (sl e hx.length 0 1, hx ++ [.arr e [I a, I b]]) := rfl
  simp only [e1, OH_some]
  have e2 : sliceCells (hx ++ [.arr e [I a, I b]]) 2 (sl e hx.length 0 1) = some [I a, I b] := by simp [sliceCells, sl, objCells]
  have e3 : lenOfSl (sl e hx.length 0 1) = some 1 := rfl
  have hlt := (List.getElem?_eq_some_iff.1 hg).1
  have hg' : (hx ++ [.arr e [I a, I b]])[id]? = some (.arr e (pcells ps)) := by rw [List.getElem?_append_left hlt]; exact hg
  have hpl := pcells_length ps
  have hpp : pcells (ps ++ [(a, b)]) = pcells ps ++ [I a, I b] := by simp [pcells]
  refine OH_of (v := sl e (hx.length + 1) 0 (ps ++ [(a, b)]).length) (h := (hx ++ [IObj.arr e [I a, I b]]).set id IObj.dead ++ [IObj.arr e (pcells (ps ++ [(a, b)]))]) ?_
    (hk _ _ (by omega) (((XM.ex (EX.append _ _)).set _).trans (XM.ex (EX.append _ _))) (by rw [List.getElem?_append_right (by simp)]; simp))
  simp only [iApp, e2, e3]
  simp only [sl, hg']
  rw [if_pos ⟨trivial, trivial, by omega, by omega, by unfold maxLen; omega⟩, if_neg (by omega), hpp]
  simp

theorem bld (a b : Int) : iBuild [(.int .i64 (0)), (.int .i64 (0))] [(0, 1, I a), (1, 1, I b)] = some (.agg #[I a, I b]) := rfl

theorem rem_pos (k : IntKind) {a b : Int} (ha : 0 ≤ a) (hb : 0 < b) : iBin .rem (.int k a) (.int k b) = some (.int k (a % b)) := by
  simp only [iBin, iInt, if_true]
  rw [if_neg (by omega), Int.tmod_eq_emod_of_nonneg ha]

theorem bcells_get : ∀ {ps : List (Int × Int)} {k : Nat} {p : Int × Int}, ps[k]? = some p → (bcells ps)[2 * k]? = some (.int .u8 p.1) ∧ (bcells ps)[2 * k + 1]? = some (.int .u8 p.2)
  | [], k, p, h => by simp at h
  | q :: ps, 0, p, h => by simp at h; subst h; simp [bcells]
  | q :: ps, k + 1, p, h => by
    have := bcells_get (ps := ps) (k := k) (p := p) (by simpa using h)
    rw [show 2 * (k + 1) = 2 * k + 1 + 1 by omega]
    simpa [bcells] using this

theorem bcells_len (ps : List (Int × Int)) : (bcells ps).length = ps.length * 2 := by
  induction ps with
  | nil => rfl
  | cons p ps ih =>
    have : bcells (p :: ps) = .int .u8 p.1 :: .int .u8 p.2 :: bcells ps := rfl
    rw [this]; simp only [List.length_cons, ih]; omega

theorem IS.byte {h : Heap} {v : Value} {ps : List (Int × Int)} (p : IS h 51 2 v (bcells ps) ps.length) {i : Nat} (hi : i < ps.length) :
    ∃ b o, iAdrSl 2 v (I i) = some (pt b o) ∧ iLoad false 1 h (pt b o) = some (.int .u8 ps[i].1) ∧ iLoad false 1 h (pt b (o + 1)) = some (.int .u8 ps[i].2) := by
  rcases p.2 with ⟨rfl, h0⟩ | ⟨b, rfl, hc⟩
  · omega
  · have hc := hc.resolve_left (by omega)
    obtain ⟨g1, g2⟩ := bcells_get (List.getElem?_eq_getElem hi)
    refine ⟨b, i * 2, ?_, ?_, ?_⟩
    · have : (0 : Int) ≤ (i : Int) ∧ (i : Int) < (ps.length : Int) := by omega
      simp [iAdrSl, sl, this]
    · rw [Nat.mul_comm]; simp [iLoad, hc, iPart, g1]
    · rw [Nat.mul_comm]; simp [iLoad, hc, iPart, g2]

def jobM (least : Int) (p : Int × Int) : Int × Int := (p.1 % 50 + 1, p.2 % (51 - least) + least)
def madeJ (xs : List (Int × Int)) (most : Nat) (least : Int) : List (Int × Int) := if xs.take most = [] then [(1, 1)] else (xs.take most).map (jobM least)
def pairM (n : Nat) (p : Int × Int) : Option (Int × Int) :=
  if p.1 % n = p.2 % n then none else if 7 * (p.1 % n) % 11 < 7 * (p.2 % n) % 11 then some (p.1 % n, p.2 % n) else some (p.2 % n, p.1 % n)
def madeP (ys : List (Int × Int)) (n : Nat) : List (Int × Int) := (ys.take 20).filterMap (pairM n)

theorem madeJ_len (xs : List (Int × Int)) {most : Nat} (least : Int) (h1 : 1 ≤ most) (h : most ≤ 10) : 1 ≤ (madeJ xs most least).length ∧ (madeJ xs most least).length ≤ 10 := by
  unfold madeJ
  split
  · simp
  · rename_i hne
    have : 0 < (xs.take most).length := by
      cases e : xs.take most with
      | nil => exact absurd e hne
      | cons => simp
    rw [List.length_map]
    rw [List.length_take] at *
    omega

theorem IPS.arr {h : Heap} {e : TypeId} {i : Nat} {ps : List (Int × Int)} (hg : h[i]? = some (.arr e (pcells ps))) : IPS h e (sl e i 0 ps.length) ps :=
  ⟨by rw [pcells_length]; omega, .inr ⟨i, rfl, .inr (by simp [objCells, hg])⟩⟩

theorem C10 {vx vy : Value} {xs ys : List (Int × Int)} {most least : Nat} {h : Heap} {K : Value → Heap → Prop} (hx : IS h 51 2 vx (bcells xs) xs.length) (bx : byte2 xs) (hy : IS h 51 2 vy (bcells ys) ys.length) (by2 : byte2 ys) (h1 : 1 ≤ most) (hm : most ≤ 10) (hl : least ≤ 1)
    (hk : ∀ v w h', EX h h' → IPS h' 35 v (madeJ xs most least) → IPS h' 54 w (madeP ys (madeJ xs most least).length) → K (.tuple #[v, w]) h') : CallP Try.prog 10 [vx, vy, I most, I least] h K := by
  refine f10 ?_
  have m0 : ∀ (t : TypeId) (g : Heap), iMkSl t 0 [(.int .i64 (0)), (.int .i64 (0))] g [] = some (sl t g.length 0 0, g ++ [.arr t []]) := fun _ _ => rfl
  simp only [T10, m0, OH_some]
  have xa : EX h (h ++ [.arr 35 []]) := EX.append _ _
  have ka : (h ++ [IObj.arr 35 []])[h.length]? = some (.arr 35 []) := get_last
  have la : (h ++ [IObj.arr 35 []]).length = h.length + 1 := by simp
  rw [la]
  generalize h ++ [IObj.arr 35 []] = ga at xa ka la ⊢
  have xb : EX ga (ga ++ [.arr 54 []]) := EX.append _ _
  have kb : (ga ++ [IObj.arr 54 []])[h.length + 1]? = some (.arr 54 []) := by rw [← la]; exact get_last
  generalize ga ++ [IObj.arr 54 []] = gb at xb kb ⊢
  have kba := xb.get ka
  -- the jobs
  refine loopL (σ := Nat × Nat × Heap) (fun q => [sl 35 q.2.1 0 ((xs.take q.1).map (jobM least)).length, I q.1]) (fun q => q.2.2)
    (fun q => (q.1 ≤ xs.length ∧ q.1 ≤ most) ∧ EX h q.2.2 ∧ h.length ≤ q.2.1 ∧ q.2.1 ≠ h.length + 1 ∧ q.2.2[q.2.1]? = some (.arr 35 (pcells ((xs.take q.1).map (jobM least)))) ∧ q.2.2[h.length + 1]? = some (.arr 54 [])) (fun q => xs.length - q.1)
    (0, h.length, gb) rfl rfl ⟨⟨Nat.zero_le _, Nat.zero_le _⟩, xa.trans xb, Nat.le_refl _, by show h.length ≠ h.length + 1; omega, kba, kb⟩ ?_
  rintro ⟨i, id, g⟩ ⟨⟨hi, him⟩, xg, hid, hne, kj, kp⟩ L hL
  simp only at hi him xg hid hne kj kp hL ⊢
  rw [q10z6]
  simp only [hx.len, OP_some, bin_lss]
  rw [q10z10]
  have go : i < xs.length → i < most → p10z12 Try.prog K vx vy (I most) (I least) (sl 35 id 0 ((xs.take i).map (jobM least)).length) (sl 54 (h.length + 1) 0 0) (I i) (B true) (B true) L g := by
    intro hlt hlt2
    rw [q10z12]
    obtain ⟨b, o, g1, g2, g3⟩ := IS.byte (hx.mono xg) hlt
    obtain ⟨⟨z1, z2⟩, z3, z4⟩ := bx _ (List.getElem_mem hlt)
    have a0 : iAdrArr 2 1 (pt b o) (.int .i64 (0)) = some (pt b o) := by simp [iAdrArr]
    have a1 : iAdrArr 2 1 (pt b o) (.int .i64 (1)) = some (pt b (o + 1)) := by simp [iAdrArr]
    have wl : IntKind.wrap .i64 (51 - (least : Int)) = 51 - (least : Int) := wrap64 (by omega) (by omega)
    have wc : ∀ z : Int, 0 ≤ z → z < 256 → IntKind.wrap .i64 z = z := fun z h1 h2 => wrap64 (by omega) (by omega)
    have e1 : iBin .rem (I xs[i].1) (.int .i64 50) = some (I (xs[i].1 % 50)) := rem_pos .i64 z1 (by decide)
    have e2 : iBin .rem (I xs[i].2) (I (51 - (least : Int))) = some (I (xs[i].2 % (51 - (least : Int)))) := rem_pos .i64 z3 (by omega)
    have w1 : IntKind.wrap .i64 (xs[i].1 % 50 + 1) = xs[i].1 % 50 + 1 := wrap64 (by omega) (by omega)
    have hb0 := Int.emod_nonneg xs[i].2 (show 51 - (least : Int) ≠ 0 by omega)
    have hb1 := Int.emod_lt_of_pos xs[i].2 (show 0 < 51 - (least : Int) by omega)
    have w2 : IntKind.wrap .i64 (xs[i].2 % (51 - (least : Int)) + least) = xs[i].2 % (51 - (least : Int)) + least := wrap64 (by omega) (by omega)
    simp only [iPick_t, OP_some, IfP_true, g1, a0, g2, true_and, conv_int, wc _ z1 z2, e1, bin_add, w1, a1, g3, wc _ z3 z4, bin_sub, wl, e2, w2, bld]
    have hle : ((xs.take i).map (jobM least)).length ≤ 1000 := by rw [List.length_map, List.length_take]; omega
    refine app_p2 kj hle ?_
    intro id' g' hid' x' k'
    have hti : (xs.take (i + 1)).map (jobM least) = (xs.take i).map (jobM least) ++ [(xs[i].1 % 50 + 1, xs[i].2 % (51 - (least : Int)) + least)] := by
      rw [List.take_succ_eq_append_getElem hlt, List.map_append]; rfl
    rw [← hti] at k' ⊢
    have hlg := (List.getElem?_eq_some_iff.1 kp).1
    simp only [OP_some, inc i (by omega), true_and]
    exact hL (i + 1, id', g') ⟨⟨by show i + 1 ≤ _; omega, by show i + 1 ≤ most; omega⟩, x'.toE xg hid, by show h.length ≤ id'; omega, by show id' ≠ h.length + 1; omega, k', x'.get (fun e => hne e.symm) kp⟩ (by show xs.length - (i + 1) < xs.length - i; omega)
  -- behind the jobs
  have after : (xs.take i).map (jobM least) = (xs.take most).map (jobM least) → p10z15 Try.prog K vy (sl 35 id 0 ((xs.take i).map (jobM least)).length) (sl 54 (h.length + 1) 0 0) g := by
    intro hall
    rw [q10z15]
    have rest : ∀ (id : Nat) (g : Heap), EX h g → h.length ≤ id → id ≠ h.length + 1 → g[id]? = some (.arr 35 (pcells (madeJ xs most least))) → g[h.length + 1]? = some (.arr 54 []) → p10z18 Try.prog K vy (sl 35 id 0 (madeJ xs most least).length) (sl 54 (h.length + 1) 0 0) g := by
      intro id g xg hid hne kj kp
      have hjl := madeJ_len xs (least : Int) h1 hm
      rw [q10z18]
      generalize madeJ xs most least = J at *
      refine loopL (σ := Nat × Nat × Heap) (fun q => [sl 54 q.2.1 0 ((ys.take q.1).filterMap (pairM J.length)).length, I q.1]) (fun q => q.2.2)
        (fun q => (q.1 ≤ ys.length ∧ q.1 ≤ 20) ∧ EX h q.2.2 ∧ h.length ≤ q.2.1 ∧ id ≠ q.2.1 ∧ q.2.2[q.2.1]? = some (.arr 54 (pcells ((ys.take q.1).filterMap (pairM J.length)))) ∧ q.2.2[id]? = some (.arr 35 (pcells J))) (fun q => ys.length - q.1)
        (0, h.length + 1, g) rfl rfl ⟨⟨Nat.zero_le _, Nat.zero_le _⟩, xg, by show h.length ≤ h.length + 1; omega, hne, kp, kj⟩ ?_
      rintro ⟨i, ip, g⟩ ⟨⟨hi, hi20⟩, xg, hip, hne2, kp, kj⟩ L hL
      simp only at hi hi20 xg hip hne2 kp kj hL ⊢
      have hnl : (ys.take i).length ≤ 20 := by rw [List.length_take]; omega
      have hfl : ((ys.take i).filterMap (pairM J.length)).length ≤ 20 := Nat.le_trans (List.length_filterMap_le ..) hnl
      have done : i = ys.length ∨ i = 20 → p10z36 Try.prog K (sl 35 id 0 J.length) (sl 54 ip 0 ((ys.take i).filterMap (pairM J.length)).length) g := by
        intro h2
        rw [q10z36]
        have e : ys.take i = ys.take 20 := by
          rcases h2 with h2 | h2
          · rw [h2, List.take_length, List.take_of_length_le (by omega)]
          · rw [h2]
        have e2 : (ys.take i).filterMap (pairM J.length) = madeP ys J.length := by unfold madeP; rw [e]
        rw [e2] at kp ⊢
        exact hk _ _ g xg (IPS.arr kj) (IPS.arr kp)
      rw [q10z22]
      simp only [hy.len, OP_some, bin_lss]
      rw [q10z26]
      by_cases hlt : i < ys.length
      rotate_left
      · rw [decide_eq_false (show ¬ (i : Int) < (ys.length : Int) by omega)]
        simp only [GdP_ft]
        rw [q10z28]
        simp only [iPick_f, OP_some, IfP_false]
        exact done (.inl (by omega))
      rw [decide_eq_true (show (i : Int) < (ys.length : Int) by omega)]
      simp only [GdP_tt, bin_lss, OP_some]
      rw [q10z28]
      by_cases hlt2 : i < 20
      rotate_left
      · rw [decide_eq_false (show ¬ (i : Int) < 20 by omega)]
        simp only [iPick_t, OP_some, IfP_false]
        exact done (.inr (by omega))
      rw [decide_eq_true (show (i : Int) < 20 by omega)]
      obtain ⟨b, o, g1, g2, g3⟩ := IS.byte (hy.mono xg) hlt
      obtain ⟨⟨z1, z2⟩, z3, z4⟩ := by2 _ (List.getElem_mem hlt)
      have a0 : iAdrArr 2 1 (pt b o) (.int .i64 (0)) = some (pt b o) := by simp [iAdrArr]
      have a1 : iAdrArr 2 1 (pt b o) (.int .i64 (1)) = some (pt b (o + 1)) := by simp [iAdrArr]
      have wc : ∀ z : Int, 0 ≤ z → z < 256 → IntKind.wrap .i64 z = z := fun z h1 h2 => wrap64 (by omega) (by omega)
      have lenJ : iLenSl (sl 35 id 0 J.length) = some (I J.length) := rfl
      have e1 : iBin .rem (I ys[i].1) (I (J.length : Int)) = some (I (ys[i].1 % (J.length : Int))) := rem_pos .i64 z1 (by omega)
      have e2 : iBin .rem (I ys[i].2) (I (J.length : Int)) = some (I (ys[i].2 % (J.length : Int))) := rem_pos .i64 z3 (by omega)
      have hti : (ys.take (i + 1)).filterMap (pairM J.length) = (ys.take i).filterMap (pairM J.length) ++ (pairM J.length ys[i]).toList := by
        rw [List.take_succ_eq_append_getElem hlt, List.filterMap_append]
        congr 1
      have hpm : pairM J.length ys[i] = if ys[i].1 % (J.length : Int) = ys[i].2 % (J.length : Int) then none else if 7 * (ys[i].1 % (J.length : Int)) % 11 < 7 * (ys[i].2 % (J.length : Int)) % 11 then some (ys[i].1 % (J.length : Int), ys[i].2 % (J.length : Int)) else some (ys[i].2 % (J.length : Int), ys[i].1 % (J.length : Int)) := rfl
      have ba0 := Int.emod_nonneg ys[i].1 (show (J.length : Int) ≠ 0 by omega)
      have ba1 := Int.emod_lt_of_pos ys[i].1 (show 0 < (J.length : Int) by omega)
      have bc0 := Int.emod_nonneg ys[i].2 (show (J.length : Int) ≠ 0 by omega)
      have bc1 := Int.emod_lt_of_pos ys[i].2 (show 0 < (J.length : Int) by omega)
      simp only [iPick_t, OP_some, IfP_true, g1, a0, g2, true_and, conv_int, wc _ z1 z2, lenJ, e1, a1, g3, wc _ z3 z4, e2]
      generalize ys[i].1 % (J.length : Int) = a at *
      generalize ys[i].2 % (J.length : Int) = c at *
      simp only [bin_eql, OP_some]
      by_cases hac : a = c
      · rw [decide_eq_true hac]
        simp only [IfP_true]
        rw [q10z35]
        simp only [bin_add, OP_some, inc i (by omega), true_and]
        rw [hpm, if_pos hac] at hti
        simp only [Option.toList_none, List.append_nil] at hti
        have := hL (i + 1, ip, g) ⟨⟨by show i + 1 ≤ _; omega, by show i + 1 ≤ 20; omega⟩, xg, hip, hne2, by
          show g[ip]? = some (.arr 54 (pcells ((ys.take (i + 1)).filterMap (pairM J.length))))
          rw [hti]; exact kp, kj⟩ (by show ys.length - (i + 1) < ys.length - i; omega)
        simp only [hti] at this
        exact this
      rw [decide_eq_false hac]
      have w7a : IntKind.wrap .i64 (7 * a) = 7 * a := wrap64 (by omega) (by omega)
      have w7c : IntKind.wrap .i64 (7 * c) = 7 * c := wrap64 (by omega) (by omega)
      have ra : iBin .rem (I (7 * a)) (.int .i64 11) = some (I (7 * a % 11)) := rem_pos .i64 (by omega) (by decide)
      have rc : iBin .rem (I (7 * c)) (.int .i64 11) = some (I (7 * c % 11)) := rem_pos .i64 (by omega) (by decide)
      simp only [IfP_false, bin_mul, OP_some, w7a, ra, w7c, rc, bin_lss]
      have nx : ∀ u w : Int, pairM J.length ys[i] = some (u, w) → OH (iMkSl 54 1 [.int .i64 0, .int .i64 0] g [(0, 2, .agg #[I u, I w])]) fun x101 h_1 => OH (iApp 54 2 16 h_1 (sl 54 ip 0 ((ys.take i).filterMap (pairM J.length)).length) x101) fun x102 h_2 =>
          p10z35 Try.prog K vy (sl 35 id 0 J.length) x102 (I i) L h_2 := by
        intro u w hp
        rw [hp] at hti
        simp only [Option.toList_some] at hti
        refine app_p2 kp (by omega) ?_
        intro id' g' hid' x' k'
        rw [← hti] at k' ⊢
        have hlg := (List.getElem?_eq_some_iff.1 kj).1
        rw [q10z35]
        simp only [bin_add, OP_some, inc i (by omega), true_and]
        exact hL (i + 1, id', g') ⟨⟨by show i + 1 ≤ _; omega, by show i + 1 ≤ 20; omega⟩, x'.toE xg hip, by show h.length ≤ id'; have := xg.1; omega, by show id ≠ id'; omega, k', x'.get hne2 kj⟩ (by show ys.length - (i + 1) < ys.length - i; omega)
      rw [if_neg hac] at hpm
      by_cases hlt7 : 7 * a % 11 < 7 * c % 11
      · rw [decide_eq_true hlt7]
        simp only [IfP_true, bld, OP_some]
        exact nx a c (by rw [hpm, if_pos hlt7])
      · rw [decide_eq_false hlt7]
        simp only [IfP_false, bld, OP_some]
        exact nx c a (by rw [hpm, if_neg hlt7])
    have lj : iLenSl (sl 35 id 0 ((xs.take i).map (jobM least)).length) = some (I ((xs.take i).map (jobM least)).length) := rfl
    simp only [lj, OP_some, bin_eql]
    by_cases h0 : xs.take most = []
    · have e0 : (xs.take i).map (jobM least) = [] := by rw [hall, h0]; rfl
      rw [e0] at kj ⊢
      rw [decide_eq_true (show (([] : List (Int × Int)).length : Int) = 0 from rfl)]
      simp only [IfP_true, bld, OP_some]
      refine app_p2 (ps := []) kj (by simp) ?_
      intro id' g' hid' x' k'
      have hlg := (List.getElem?_eq_some_iff.1 kp).1
      have eJ : madeJ xs most least = [] ++ [(1, 1)] := by unfold madeJ; rw [if_pos h0]; rfl
      rw [← eJ] at k' ⊢
      exact rest id' g' (x'.toE xg hid) (by omega) (by omega) k' (x'.get (fun e => hne e.symm) kp)
    · have eJ : madeJ xs most least = (xs.take i).map (jobM least) := by unfold madeJ; rw [if_neg h0, hall]
      have hne0 : ¬ ((((xs.take i).map (jobM least)).length : Int) = 0) := by
        intro h9
        have : ((xs.take i).map (jobM least)).length = 0 := by omega
        rw [hall, List.length_map] at this
        exact h0 (List.length_eq_zero_iff.1 this)
      rw [decide_eq_false hne0]
      simp only [IfP_false]
      rw [← eJ] at kj ⊢
      exact rest id g xg hid hne kj kp
  by_cases hlt : i < xs.length
  · rw [decide_eq_true (show (i : Int) < (xs.length : Int) by omega)]
    simp only [GdP_tt, bin_lss, OP_some]
    by_cases hlt2 : i < most
    · rw [decide_eq_true (show (i : Int) < (most : Int) by omega)]
      exact go hlt hlt2
    · rw [decide_eq_false (show ¬ (i : Int) < (most : Int) by omega)]
      rw [q10z12]
      simp only [iPick_t, OP_some, IfP_false]
      exact after (by rw [show i = most by omega])
  · rw [decide_eq_false (show ¬ (i : Int) < (xs.length : Int) by omega)]
    simp only [GdP_ft]
    rw [q10z12]
    simp only [iPick_f, OP_some, IfP_false]
    exact after (by rw [show i = xs.length by omega, List.take_length, List.take_of_length_le (by omega)])

/-! ### What is made is valid -/

theorem perm_inj {a c : Int} (ha : 0 ≤ a) (ha2 : a < 10) (hc : 0 ≤ c) (hc2 : c < 10) (h : 7 * a % 11 = 7 * c % 11) : a = c := by omega

theorem madeP_rank {ys : List (Int × Int)} {n : Nat} (h1 : 1 ≤ n) (h10 : n ≤ 10) : ∀ p ∈ madeP ys n, ((0 ≤ p.1 ∧ p.1 < n) ∧ 0 ≤ p.2 ∧ p.2 < n) ∧ 7 * p.1 % 11 < 7 * p.2 % 11 := by
  intro p hp
  obtain ⟨q, _, hq⟩ := List.mem_filterMap.1 hp
  have a0 := Int.emod_nonneg q.1 (show (n : Int) ≠ 0 by omega)
  have a1 := Int.emod_lt_of_pos q.1 (show 0 < (n : Int) by omega)
  have c0 := Int.emod_nonneg q.2 (show (n : Int) ≠ 0 by omega)
  have c1 := Int.emod_lt_of_pos q.2 (show 0 < (n : Int) by omega)
  unfold pairM at hq
  generalize q.1 % (n : Int) = a at *
  generalize q.2 % (n : Int) = c at *
  split at hq
  · cases hq
  · rename_i hne
    split at hq
    · rename_i hlt
      injection hq with hq
      subst hq
      exact ⟨⟨⟨a0, a1⟩, c0, c1⟩, hlt⟩
    · rename_i hge
      injection hq with hq
      subst hq
      have : 7 * a % 11 ≠ 7 * c % 11 := fun e => hne (perm_inj (by omega) (by omega) (by omega) (by omega) e)
      exact ⟨⟨⟨c0, c1⟩, a0, a1⟩, by show 7 * c % 11 < 7 * a % 11; omega⟩

theorem madeP_len (ys : List (Int × Int)) (n : Nat) : (madeP ys n).length ≤ 20 := by
  refine Nat.le_trans (List.length_filterMap_le ..) ?_
  rw [List.length_take]; omega

/-- Pairs that go up by the permutation can be done. -/
theorem valid_of {js ps : List (Int × Int)} (hl : 1 ≤ js.length ∧ js.length ≤ 10) (hp : ps.length ≤ 40) (hj : ∀ j ∈ js, (1 ≤ j.1 ∧ j.1 ≤ 50) ∧ 0 ≤ j.2 ∧ j.2 ≤ 50) {rk : Int → Int} (rk0 : ∀ a, 0 ≤ rk a)
    (hr : ∀ p ∈ ps, ((0 ≤ p.1 ∧ p.1 < js.length) ∧ 0 ≤ p.2 ∧ p.2 < js.length) ∧ rk p.1 < rk p.2) : validB js ps = true := by
  have hpa : ps.all (pairB js.length) = true := by
    rw [List.all_eq_true]
    intro p hp
    obtain ⟨⟨⟨a1, a2⟩, a3, a4⟩, a5⟩ := hr p hp
    unfold pairB
    rw [decide_eq_true (show 0 ≤ min p.1 p.2 by omega), decide_eq_true (show max p.1 p.2 < js.length by omega), decide_eq_false (show ¬ p.1 = p.2 by rintro e; rw [e] at a5; omega)]
    rfl
  have hja : js.all jobB = true := by
    rw [List.all_eq_true]
    intro j hm
    obtain ⟨⟨a1, a2⟩, a3, a4⟩ := hj j hm
    unfold jobB
    rw [decide_eq_true a1, decide_eq_true a2, decide_eq_true a3, decide_eq_true a4]; rfl
  unfold validB formB
  rw [decide_eq_true hl.1, decide_eq_true hl.2, decide_eq_true hp, hpa, hja]
  have ac : acyc (bsOf ps js.length) js.length := by
    refine acyc_rank (fun i : Nat => (rk i).toNat) ?_
    intro i hi j hj
    have hb := (BS.of hpa).bit i hi j
    rw [hj] at hb
    have hm := of_decide_eq_true hb.symm
    obtain ⟨⟨⟨a1, a2⟩, _⟩, a5⟩ := hr _ hm
    have := rk0 (j : Int)
    exact ⟨by simp only at a2; omega, by simp only at a5; show (rk (j : Int)).toNat < (rk (i : Int)).toNat; omega⟩
  rw [rnd_of ac]
  simp

theorem jobM_small {least : Nat} (hl : least ≤ 1) (p : Int × Int) : (1 ≤ (jobM least p).1 ∧ (jobM least p).1 ≤ 50) ∧ (least ≤ (jobM least p).2) ∧ (jobM least p).2 ≤ 50 := by
  have hb0 := Int.emod_nonneg p.2 (show 51 - (least : Int) ≠ 0 by omega)
  have hb1 := Int.emod_lt_of_pos p.2 (show 0 < 51 - (least : Int) by omega)
  unfold jobM
  simp only
  omega

theorem madeJ_small (xs : List (Int × Int)) (most : Nat) {least : Nat} (hl : least ≤ 1) : ∀ j ∈ madeJ xs most least, (1 ≤ j.1 ∧ j.1 ≤ 50) ∧ (least : Int) ≤ j.2 ∧ j.2 ≤ 50 := by
  intro j hj
  unfold madeJ at hj
  split at hj
  · rw [List.mem_singleton.1 hj]; simp only; omega
  · obtain ⟨p, _, rfl⟩ := List.mem_map.1 hj
    exact jobM_small hl p

theorem made_valid (xs ys : List (Int × Int)) {most least : Nat} (h1 : 1 ≤ most) (hm : most ≤ 10) (hl : least ≤ 1) : validB (madeJ xs most least) (madeP ys (madeJ xs most least).length) = true := by
  have hlen := madeJ_len xs (least : Int) h1 hm
  refine valid_of hlen (by have := madeP_len ys (madeJ xs most least).length; omega) (fun j hj => ?_) (rk := fun a => 7 * a % 11) (fun a => by omega) (madeP_rank hlen.1 hlen.2)
  have := madeJ_small xs most hl j hj
  omega

end Go.Proofs.Ytelmdbpaoifmoaa
