/-
  The law of two sets of jobs that nothing joins, as a call answers.
-/
import Derived.Test.YtelmdbpaoifmoaaMe17
import Derived.Test.YtelmdbpaoifmoaaShK
import Derived.Test.YtelmdbpaoifmoaaSq25
namespace Go.Proofs.Ytelmdbpaoifmoaa
open Go.Sim

theorem IS.cells {h : Heap} {e : TypeId} {esz : Nat} {v : Value} {cs : List Value} {n : Nat} (p : IS h e esz v cs n) : sliceCells h esz v = some cs ∧ lenOfSl v = some n := by
  obtain ⟨hl, hv⟩ := p
  rcases hv with ⟨rfl, rfl⟩ | ⟨i, rfl, hc⟩
  · have : cs = [] := List.length_eq_zero_iff.1 (by omega)
    rw [this]; exact ⟨rfl, rfl⟩
  · refine ⟨?_, rfl⟩
    simp only [sliceCells, sl]
    by_cases h0 : n = 0
    · subst h0
      have : cs = [] := List.length_eq_zero_iff.1 (by omega)
      rw [this]; rfl
    · have hc := hc.resolve_left h0
      rw [if_neg h0, hc, Option.bind_some, if_pos (by omega)]
      rw [List.drop_zero, ← hl, List.take_length]

/-- Cells are appended to an owned slice. -/
theorem app_own {h : Heap} {e : TypeId} {esz bytes b n m : Nat} {v : Value} {xs cs : List Value} (hb : h[b]? = some (.arr e xs)) (hx : xs.length = n * esz) (hc : sliceCells h esz v = some cs) (hl : lenOfSl v = some m) (hm0 : m = 0 → cs = []) (h1 : (n + m) * bytes ≤ 140737488355328) (h2 : n + m ≤ maxLen) :
    ∃ i h', iApp e esz bytes h (sl e b 0 n) v = some (sl e i 0 (n + m), h') ∧ (i = b ∨ i = h.length) ∧ XM b h h' ∧ h'[i]? = some (.arr e (xs ++ cs)) := by
  simp only [iApp, hc, hl]
  simp only [sl, hb]
  by_cases h0 : m = 0
  · subst h0
    refine ⟨b, h, ?_, .inl rfl, XM.refl _ _, by rw [hm0 rfl, List.append_nil]; exact hb⟩
    rw [if_pos ⟨trivial, trivial, hx, by simpa using h1, by simpa using h2⟩]
    simp
  · refine ⟨h.length, h.set b .dead ++ [.arr e (xs ++ cs)], ?_, .inr rfl, ((XM.refl b h).set _).trans (XM.ex (EX.append _ _)), by rw [List.getElem?_append_right (by simp)]; simp⟩
    rw [if_pos ⟨trivial, trivial, hx, h1, h2⟩, if_neg h0]

theorem madeJ5 (xs : List (Int × Int)) : (madeJ xs 5 ((0 : Nat) : Int)).length ≤ 5 := by
  unfold madeJ
  split
  · simp
  · rw [List.length_map, List.length_take]; omega

def shp (n : Int) (p : Int × Int) : Int × Int := (p.1 + n, p.2 + n)

theorem C9 {vx vy vz : Value} {xs ys zs : List (Int × Int)} {h : Heap} {K : Value → Heap → Prop} (hx : IS h 51 2 vx (bcells xs) xs.length) (bx : byte2 xs) (hy : IS h 51 2 vy (bcells ys) ys.length) (by2 : byte2 ys) (hz : IS h 51 2 vz (bcells zs) zs.length) (bz : byte2 zs) (hk : ∀ h', K (B true) h') :
    CallP Try.prog 9 [vx, vy, vz] h K := by
  refine f9 (C10 (most := 5) (least := 0) hx bx hz bz (by decide) (by decide) (by decide) ?_)
  intro v w g x0 hv hw
  simp only [ext_tuple, pair0, pair1, OP_some]
  refine C10 (most := 5) (least := 0) (hy.mono x0) by2 (hz.mono x0) bz (by decide) (by decide) (by decide) ?_
  intro v2 w2 g0 x1 hv2 hw2
  have hvalA := made_valid xs zs (most := 5) (least := 0) (by decide) (by decide) (by decide)
  have hvalB := made_valid ys zs (most := 5) (least := 0) (by decide) (by decide) (by decide)
  have smA := madeJ_small xs 5 (least := 0) (by decide)
  have smB := madeJ_small ys 5 (least := 0) (by decide)
  have lA := madeJ_len xs ((0 : Nat) : Int) (show 1 ≤ 5 by decide) (by decide)
  have lB := madeJ_len ys ((0 : Nat) : Int) (show 1 ≤ 5 by decide) (by decide)
  have l5A := madeJ5 xs
  have l5B := madeJ5 ys
  have rkA := madeP_rank (ys := zs) lA.1 lA.2
  have rkB := madeP_rank (ys := zs) lB.1 lB.2
  have pA := madeP_len zs (madeJ xs 5 ((0 : Nat) : Int)).length
  have pB := madeP_len zs (madeJ ys 5 ((0 : Nat) : Int)).length
  generalize madeJ xs 5 ((0 : Nat) : Int) = A at *
  generalize madeJ ys 5 ((0 : Nat) : Int) = C at *
  generalize madeP zs A.length = P at *
  generalize madeP zs C.length = Q at *
  have hv := IPS.mono x1 hv
  have hw := IPS.mono x1 hw
  have m0 : ∀ (t : TypeId) (g : Heap), iMkSl t 0 [(.int .i64 (0)), (.int .i64 (0))] g [] = some (sl t g.length 0 0, g ++ [.arr t []]) := fun _ _ => rfl
  simp only [ext_tuple, pair0, pair1, OP_some, m0, OH_some]
  -- all jobs
  have xa : EX g0 (g0 ++ [.arr 35 []]) := EX.append _ _
  have ka : (g0 ++ [IObj.arr 35 []])[g0.length]? = some (.arr 35 []) := get_last
  generalize g0 ++ [IObj.arr 35 []] = ga at xa ka ⊢
  obtain ⟨c1, c2⟩ := IS.cells (hv.mono xa)
  obtain ⟨i1, gb, a1, a2, a3, a4⟩ := app_new (bytes := 16) ka c1 c2 (fun h0 => by rw [List.length_eq_zero_iff.1 h0]; rfl) (by omega) (by simp [maxLen]; omega)
  have xb : EX g0 gb := a3.toE xa (Nat.le_refl _)
  have hi1 : g0.length ≤ i1 := by
    rcases a2 with rfl | rfl
    · exact Nat.le_refl _
    · exact xa.1
  simp only [a1, OH_some]
  obtain ⟨d1, d2⟩ := IS.cells (hv2.mono xb)
  obtain ⟨i2, gc, b1, b2, b3, b4⟩ := app_own (n := A.length) (bytes := 16) a4 (by rw [pcells_length]; omega) d1 d2 (fun h0 => by rw [List.length_eq_zero_iff.1 h0]; rfl) (by omega) (by simp [maxLen]; omega)
  have xc : EX g0 gc := b3.toE xb hi1
  have hi2 : g0.length ≤ i2 := by
    rcases b2 with rfl | rfl
    · exact hi1
    · exact xb.1
  simp only [b1, OH_some]
  have eAC : pcells A ++ pcells C = pcells (A ++ C) := by simp [pcells]
  rw [eAC] at b4
  have lAC : A.length + C.length = (A ++ C).length := by simp
  rw [lAC]
  -- all pairs
  have xd : EX gc (gc ++ [.arr 54 []]) := EX.append _ _
  have kd : (gc ++ [IObj.arr 54 []])[gc.length]? = some (.arr 54 []) := get_last
  generalize gc ++ [IObj.arr 54 []] = gd at xd kd ⊢
  have b5 := xd.get b4
  have lt2 := (List.getElem?_eq_some_iff.1 b4).1
  obtain ⟨e1, e2⟩ := IS.cells (hw.mono (xc.trans xd))
  obtain ⟨i3, ge, p1, p2, p3, p4⟩ := app_new (bytes := 16) kd e1 e2 (fun h0 => by rw [List.length_eq_zero_iff.1 h0]; rfl) (by omega) (by simp [maxLen]; omega)
  have xe : EX gc ge := p3.toE xd (Nat.le_refl _)
  have hi3 : gc.length ≤ i3 := by
    rcases p2 with rfl | rfl
    · exact Nat.le_refl _
    · exact xd.1
  have b6 : ge[i2]? = some (.arr 35 (pcells (A ++ C))) := p3.get (by omega) b5
  simp only [p1, OH_some]
  have x0e := xc.trans xe
  refine loopL (σ := Nat × Nat × Heap) (fun q => [sl 54 q.2.1 0 (P ++ (Q.take q.1).map (shp A.length)).length, I q.1]) (fun q => q.2.2)
    (fun q => q.1 ≤ Q.length ∧ EX g0 q.2.2 ∧ g0.length ≤ q.2.1 ∧ i2 ≠ q.2.1 ∧ q.2.2[q.2.1]? = some (.arr 54 (pcells (P ++ (Q.take q.1).map (shp A.length)))) ∧ q.2.2[i2]? = some (.arr 35 (pcells (A ++ C)))) (fun q => Q.length - q.1)
    (0, i3, ge) (by simp) rfl ⟨Nat.zero_le _, x0e, by show g0.length ≤ i3; have := xc.1; omega, by show i2 ≠ i3; omega, by simpa using p4, b6⟩ ?_
  rintro ⟨i, ip, g1⟩ ⟨hi, y1, hip, hne, kp, kj⟩ L hL
  simp only at hi y1 hip hne kp kj hL ⊢
  have hqs := (IPS.ps hw2).mono y1
  have hlg := (List.getElem?_eq_some_iff.1 kj).1
  have lenA : ∀ {g' : Heap}, EX g0 g' → iLenSl v = some (I A.length) := fun x => hv.len
  rw [q9z8]
  simp only [hqs.len, OP_some, bin_lss, IfP_dec]
  refine ⟨fun hlt => ?_, fun hge => ?_⟩
  · have hil : i < Q.length := by omega
    obtain ⟨b, o, r1, r2, r3, _⟩ := hqs.get i hil
    have rb := rkB _ (List.getElem_mem hil)
    have w1 : IntKind.wrap .i64 (Q[i].1 + (A.length : Int)) = Q[i].1 + (A.length : Int) := wrap64 (by omega) (by omega)
    have w2' : IntKind.wrap .i64 (Q[i].2 + (A.length : Int)) = Q[i].2 + (A.length : Int) := wrap64 (by omega) (by omega)
    simp only [r1, OP_some, fadr_pt, Nat.add_zero, r2, r3, true_and, hv.len, bin_add, w1, w2', bld]
    refine app_p2 kp (by rw [List.length_append, List.length_map, List.length_take]; omega) ?_
    intro id' g' hid' x' k'
    have hti : P ++ (Q.take (i + 1)).map (shp A.length) = P ++ (Q.take i).map (shp A.length) ++ [(Q[i].1 + (A.length : Int), Q[i].2 + (A.length : Int))] := by
      rw [List.take_succ_eq_append_getElem hil, List.map_append, ← List.append_assoc]; rfl
    rw [← hti] at k' ⊢
    simp only [OP_some, inc i (by omega), true_and]
    exact hL (i + 1, id', g') ⟨by show i + 1 ≤ _; omega, x'.toE y1 hip, by show g0.length ≤ id'; have := y1.1; omega, by show i2 ≠ id'; omega, k', x'.get hne kj⟩ (by show Q.length - (i + 1) < Q.length - i; omega)
  have hie : i = Q.length := by omega
  rw [hie, List.take_length] at kp ⊢
  have hR : ∀ p ∈ P ++ Q.map (shp A.length), ((0 ≤ p.1 ∧ p.1 < (A ++ C).length) ∧ 0 ≤ p.2 ∧ p.2 < (A ++ C).length) ∧ (if p.1 < (A.length : Int) then 7 * p.1 % 11 else 7 * (p.1 - A.length) % 11) < (if p.2 < (A.length : Int) then 7 * p.2 % 11 else 7 * (p.2 - A.length) % 11) := by
    intro p hp
    rw [List.length_append]
    rcases List.mem_append.1 hp with hp | hp
    · have := rkA p hp
      rw [if_pos (by omega), if_pos (by omega)]
      exact ⟨by omega, this.2⟩
    · obtain ⟨q, hq, rfl⟩ := List.mem_map.1 hp
      have := rkB q hq
      show ((0 ≤ q.1 + (A.length : Int) ∧ q.1 + (A.length : Int) < _) ∧ 0 ≤ q.2 + (A.length : Int) ∧ q.2 + (A.length : Int) < _) ∧ (if q.1 + (A.length : Int) < (A.length : Int) then _ else 7 * (q.1 + (A.length : Int) - A.length) % 11) < (if q.2 + (A.length : Int) < (A.length : Int) then _ else 7 * (q.2 + (A.length : Int) - A.length) % 11)
      rw [if_neg (by omega), if_neg (by omega), show q.1 + (A.length : Int) - A.length = q.1 by omega, show q.2 + (A.length : Int) - A.length = q.2 by omega]
      exact ⟨by omega, this.2⟩
  have hvalU : validB (A ++ C) (P ++ Q.map (shp A.length)) = true := by
    refine valid_of (by rw [List.length_append]; omega) (by rw [List.length_append, List.length_map]; omega) (fun j hj => ?_) (rk := fun a => if a < (A.length : Int) then 7 * a % 11 else 7 * (a - A.length) % 11) (fun a => by show (0 : Int) ≤ (if a < (A.length : Int) then 7 * a % 11 else 7 * (a - A.length) % 11); split <;> omega) hR
    rcases List.mem_append.1 hj with hj | hj
    · have := smA j hj; omega
    · have := smB j hj; omega
  have vA := validB_of hvalA
  have vB := validB_of hvalB
  have vU := validB_of hvalU
  have hlen : (A ++ C).length = A.length + C.length := List.length_append ..
  rw [hlen] at vU
  have hcount : lefts (bsOf (P ++ Q.map (shp A.length)) (A.length + C.length)) (A.length + C.length) 0 = lefts (bsOf P A.length) A.length 0 * lefts (bsOf Q C.length) C.length 0 * shuf A.length C.length := by
    have := blocks (bs1 := bsOf P A.length) (bs2 := bsOf Q C.length) (bs := bsOf (P ++ Q.map (shp A.length)) (A.length + C.length)) (n := A.length) (m := C.length) (fun i hi j => by
        rw [vU.is.bit i (by omega) j, vA.is.bit i hi j, decide_eq_decide, List.mem_append]
        constructor
        · rintro (hm | hm)
          · exact hm
          · obtain ⟨q, hq, e⟩ := List.mem_map.1 hm
            have := rkB q hq
            have e2 : q.2 + (A.length : Int) = (i : Int) := congrArg Prod.snd e
            omega
        · exact .inl) (fun i hi j hj => by
        rw [vA.is.bit i hi j] at hj
        have := rkA _ (of_decide_eq_true hj)
        simp only at this
        omega) (fun i hi j => by
        rw [vU.is.bit _ (by omega) j]
        by_cases hj : A.length ≤ j
        · rw [decide_eq_true hj, Bool.true_and, vB.is.bit i hi, decide_eq_decide, List.mem_append]
          constructor
          · rintro (hm | hm)
            · have := rkA _ hm
              simp only at this
              omega
            · obtain ⟨q, hq, e⟩ := List.mem_map.1 hm
              have e1 : q.1 + (A.length : Int) = (j : Int) := congrArg Prod.fst e
              have e2 : q.2 + (A.length : Int) = ((A.length + i : Nat) : Int) := congrArg Prod.snd e
              have : q = (((j - A.length : Nat) : Int), (i : Int)) := Prod.ext (by show q.1 = _; omega) (by show q.2 = _; omega)
              rw [← this]; exact hq
          · intro hm
            refine .inr (List.mem_map.2 ⟨_, hm, Prod.ext ?_ ?_⟩)
            · show ((j - A.length : Nat) : Int) + (A.length : Int) = (j : Int); omega
            · show (i : Int) + (A.length : Int) = ((A.length + i : Nat) : Int); omega
        · rw [decide_eq_false hj, Bool.false_and]
          refine decide_eq_false fun hm => ?_
          rcases List.mem_append.1 hm with hm | hm
          · have := rkA _ hm
            simp only at this
            omega
          · obtain ⟨q, hq, e⟩ := List.mem_map.1 hm
            have := rkB q hq
            have e1 : q.1 + (A.length : Int) = (j : Int) := congrArg Prod.fst e
            omega) _ 0 (Nat.pow_pos (by decide)) (Nat.le_refl _)
    have z1 : (0 : Nat) % 2 ^ A.length = 0 := Nat.zero_mod _
    have z2 : (0 : Nat) >>> A.length = 0 := Nat.zero_shiftRight _
    rw [z1, z2, cardS_zero, cardS_zero, Nat.sub_zero, Nat.sub_zero] at this
    exact this
  rw [q9z13]
  refine orders_valid (IPS.mono y1 hv) (IPS.mono y1 hw) hvalA ?_
  intro g3 x3
  simp only [ext_tuple, pair0, pair1, OP_some]
  refine orders_valid (IPS.mono (y1.trans x3) hv2) (IPS.mono (y1.trans x3) hw2) hvalB ?_
  intro g4 x4
  have lP : (P ++ Q.map (shp A.length)).length ≤ 40 := by rw [List.length_append, List.length_map]; omega
  have ls : iLenSl (sl 54 ip 0 (P ++ Q.map (shp A.length)).length) = some (I (P ++ Q.map (shp A.length)).length) := rfl
  have em : min ((P ++ Q.map (shp A.length)).length : Int) 40 = ((P ++ Q.map (shp A.length)).length : Int) := by omega
  have es : iSlSl 54 2 (sl 54 ip 0 (P ++ Q.map (shp A.length)).length) none (some (I (P ++ Q.map (shp A.length)).length)) = some (sl 54 ip 0 (P ++ Q.map (shp A.length)).length) := by
    have h1 : (0 : Int) ≤ ((P ++ Q.map (shp A.length)).length : Int) := by omega
    simp only [iSlSl, sl, iBounds, natOf, if_true, if_pos h1, Int.toNat_natCast]
    rw [if_pos ⟨Nat.zero_le _, Nat.le_refl _⟩]
    simp
  simp only [ext_tuple, pair0, pair1, OP_some, ls, min2, em, es]
  have x34 := x3.trans x4
  refine orders_valid (IPS.mono x34 (IPS.arr kj)) (IPS.mono x34 (IPS.arr kp)) hvalU ?_
  intro g5 x5
  rw [hlen, hcount]
  simp only [ext_tuple, pair0, pair1, OP_some]
  have rA := lefts_range (bsOf P A.length) lA.2 (show 0 < 2 ^ A.length from Nat.pow_pos (by decide))
  have rB := lefts_range (bsOf Q C.length) lB.2 (show 0 < 2 ^ C.length from Nat.pow_pos (by decide))
  have hA5 : lefts (bsOf P A.length) A.length 0 ≤ 100000 := by
    have := (lefts_bound (bsOf P A.length) lA.2 5 0 (Nat.pow_pos (by decide)) (by omega)).2
    have e : (10 : Int) ^ 5 = 100000 := by decide
    omega
  have hB5 : lefts (bsOf Q C.length) C.length 0 ≤ 100000 := by
    have := (lefts_bound (bsOf Q C.length) lB.2 5 0 (Nat.pow_pos (by decide)) (by omega)).2
    have e : (10 : Int) ^ 5 = 100000 := by decide
    omega
  have hvl : iLenSl v = some (I A.length) := hv.len
  have hvl2 : iLenSl v2 = some (I C.length) := hv2.len
  generalize hn1 : A.length = n1 at *
  generalize hn2 : C.length = n2 at *
  refine loopL (σ := Nat) (fun i => [I (shuf n1 (i - 1)), I i]) (fun _ => g5) (fun i => 1 ≤ i ∧ i ≤ n2 + 1) (fun i => n2 + 1 - i) 1 (by rw [Nat.sub_self, shuf_zero]; rfl) rfl ⟨Nat.le_refl _, by omega⟩ ?_
  rintro i ⟨hi1, hi2⟩ L2 hL2
  obtain ⟨k, rfl⟩ : ∃ k, i = k + 1 := ⟨i - 1, by omega⟩
  rw [q9z21]
  simp only [hvl2, OP_some, bin_leq, IfP_dec]
  refine ⟨fun hle => ?_, fun hgt => ?_⟩
  · have hst := shuf_step n1 (by omega) k (by omega)
    have hst2 := shuf_step n1 (by omega) (k + 1)
    have e0 : k + 1 - 1 = k := rfl
    have w1 : IntKind.wrap .i64 ((n1 : Int) + ((k + 1 : Nat) : Int)) = (n1 : Int) + ((k : Int) + 1) := by rw [wrap64 (by omega) (by omega)]; omega
    have b1 : 0 ≤ shuf n1 k * ((n1 : Int) + ((k : Int) + 1)) ∧ shuf n1 k * ((n1 : Int) + ((k : Int) + 1)) ≤ 1000 * 100 := by
      refine ⟨Int.mul_nonneg hst.2.1 (by omega), Int.mul_le_mul hst.2.2 (by omega) (by omega) (by omega)⟩
    have w2' : IntKind.wrap .i64 (shuf n1 k * ((n1 : Int) + ((k : Int) + 1))) = shuf n1 (k + 1) * ((k : Int) + 1) := by rw [wrap64 (by omega) (by omega), hst.1]
    have hq : iBin .quo (I (shuf n1 (k + 1) * ((k : Int) + 1))) (I ((k + 1 : Nat) : Int)) = some (I (shuf n1 (k + 1))) := by
      have ek : ((k + 1 : Nat) : Int) = (k : Int) + 1 := by omega
      simp only [iBin, iInt, if_true]
      rw [if_neg (by omega), ek, Int.mul_tdiv_cancel _ (by omega)]
      have hb : -9223372036854775808 ≤ shuf n1 (k + 1) ∧ shuf n1 (k + 1) < 9223372036854775808 := by
        have h9 : 0 ≤ shuf n1 (k + 1) * ((k : Int) + 1) := by rw [hst.1]; exact b1.1
        have h8 : shuf n1 (k + 1) * ((k : Int) + 1) ≤ 100000 := by rw [hst.1]; exact b1.2
        have hge : 0 ≤ shuf n1 (k + 1) := by
          apply Classical.byContradiction
          intro hneg
          have : shuf n1 (k + 1) * ((k : Int) + 1) < 0 := Int.mul_neg_of_neg_of_pos (by omega) (by omega)
          omega
        have hle2 : shuf n1 (k + 1) * 1 ≤ shuf n1 (k + 1) * ((k : Int) + 1) := Int.mul_le_mul_of_nonneg_left (by omega) hge
        omega
      rw [wrap64 hb.1 hb.2]
    simp only [hvl, OP_some, bin_add, w1, e0, bin_mul, w2', hq, inc (k + 1) (by omega), true_and]
    exact hL2 (k + 1 + 1) ⟨by omega, by omega⟩ (by omega)
  · have hke : k = n2 := by omega
    subst hke
    rw [q9z26, show k + 1 - 1 = k from rfl]
    have hs1 : 0 ≤ shuf n1 k ∧ shuf n1 k ≤ 1000 := (shuf_step n1 (by omega) k (by omega)).2
    have r1 : 0 ≤ lefts (bsOf P n1) n1 0 * lefts (bsOf Q k) k 0 ∧ lefts (bsOf P n1) n1 0 * lefts (bsOf Q k) k 0 ≤ 100000 * 100000 :=
      ⟨Int.mul_nonneg rA.1 rB.1, Int.mul_le_mul hA5 hB5 rB.1 (by omega)⟩
    have r2 : 0 ≤ lefts (bsOf P n1) n1 0 * lefts (bsOf Q k) k 0 * shuf n1 k ∧ lefts (bsOf P n1) n1 0 * lefts (bsOf Q k) k 0 * shuf n1 k ≤ 100000 * 100000 * 1000 :=
      ⟨Int.mul_nonneg r1.1 hs1.1, Int.mul_le_mul r1.2 hs1.2 hs1.1 (by omega)⟩
    have v1 : IntKind.wrap .i64 (lefts (bsOf P n1) n1 0 * lefts (bsOf Q k) k 0) = lefts (bsOf P n1) n1 0 * lefts (bsOf Q k) k 0 := wrap64 (by omega) (by omega)
    have v2' : IntKind.wrap .i64 (lefts (bsOf P n1) n1 0 * lefts (bsOf Q k) k 0 * shuf n1 k) = lefts (bsOf P n1) n1 0 * lefts (bsOf Q k) k 0 * shuf n1 k := wrap64 (by omega) (by omega)
    simp only [bin_eql, OP_some, decide_true]
    rw [q9z29]
    simp only [GdP_tt, bin_eql, OP_some, decide_true]
    rw [q9z31]
    simp only [iPick_t, OP_some]
    rw [q9z33]
    simp only [GdP_tt, bin_eql, OP_some, decide_true]
    rw [q9z35]
    simp only [iPick_t, OP_some]
    rw [q9z37]
    simp only [GdP_tt, bin_mul, OP_some, v1, v2', bin_eql, decide_true]
    rw [q9z39]
    simp only [iPick_t, OP_some]
    rw [q9z41]
    simp only [GdP_tt]
    refine C14 ?_
    rw [q9z43]
    simp only [iPick_t, OP_some]
    exact hk _

end Go.Proofs.Ytelmdbpaoifmoaa
