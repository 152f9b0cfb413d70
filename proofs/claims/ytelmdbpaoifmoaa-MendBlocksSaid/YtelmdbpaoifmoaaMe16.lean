/-
  The laws of more pairs and of turned ones, as calls answer.
-/
import Derived.Test.YtelmdbpaoifmoaaMe15
import Derived.Test.YtelmdbpaoifmoaaShP
import Derived.Test.YtelmdbpaoifmoaaShT
import Derived.Test.YtelmdbpaoifmoaaSq23
namespace Go.Proofs.Ytelmdbpaoifmoaa
open Go.Sim

theorem IPS.mono {h h' : Heap} {e : TypeId} {v : Value} {ps : List (Int × Int)} (x : EX h h') (p : IPS h e v ps) : IPS h' e v ps := IS.mono x p

/-- Best and Orders of what is valid. -/
theorem best_valid {vj vp : Value} {js ps : List (Int × Int)} {h : Heap} {K : Value → Heap → Prop} (hj : IPS h 35 vj js) (hp : IPS h 54 vp ps) (hv : validB js ps = true)
    (hk : ∀ v h' l, EX h h' → NS h' v .i64 (l.map fun i : Nat => (i : Int)) → GrP (bsOf ps js.length) js js.length 0 l → l.length = js.length → K (.tuple #[v, I (minS (bsOf ps js.length) js js.length 0), I 0]) h') : CallP Try.prog 11 [vj, vp] h K := by
  have vd := validB_of hv
  have n10 := vd.n10
  have p40 := vd.p40
  refine C11 (IPS.ps hj) (IPS.ps hp) (by omega) (by omega) (fun hc => by rw [hv] at hc; cases hc) fun _ _ v h' l x hl hg hlen => ?_
  have hcost := (hg.ok n10).2.2
  rw [now_zero] at hcost
  rw [hcost]
  exact hk v h' l x hl hg hlen

theorem orders_valid {vj vp : Value} {js ps : List (Int × Int)} {h : Heap} {K : Value → Heap → Prop} (hj : IPS h 35 vj js) (hp : IPS h 54 vp ps) (hv : validB js ps = true)
    (hk : ∀ h', EX h h' → K (.tuple #[I (lefts (bsOf ps js.length) js.length 0), I 0]) h') : CallP Try.prog 18 [vj, vp] h K := by
  have vd := validB_of hv
  have n10 := vd.n10
  have p40 := vd.p40
  exact C18 (IPS.ps hj) (IPS.ps hp) (by omega) (by omega) (fun hc => by rw [hv] at hc; cases hc) fun _ _ h' x => hk h' x

theorem C7 {vx vy : Value} {xs ys : List (Int × Int)} {a b : Int} {h : Heap} {K : Value → Heap → Prop} (hx : IS h 51 2 vx (bcells xs) xs.length) (bx : byte2 xs) (hy : IS h 51 2 vy (bcells ys) ys.length) (by2 : byte2 ys) (ba : 0 ≤ a ∧ a < 256) (bb : 0 ≤ b ∧ b < 256) (hk : ∀ h', K (B true) h') :
    CallP Try.prog 7 [vx, vy, .agg #[.int .u8 a, .int .u8 b]] h K := by
  refine f7 ?_
  have bo : iBox 51 h (.agg #[.int .u8 a, .int .u8 b]) = some (pt h.length 0, h ++ [.arr 51 [.int .u8 a, .int .u8 b]]) := rfl
  simp only [T7, bo, OH_some]
  have x0 : EX h (h ++ [.arr 51 [.int .u8 a, .int .u8 b]]) := EX.append _ _
  have k0 : (h ++ [IObj.arr 51 [.int .u8 a, .int .u8 b]])[h.length]? = some (.arr 51 [.int .u8 a, .int .u8 b]) := get_last
  generalize h ++ [IObj.arr 51 [.int .u8 a, .int .u8 b]] = g at x0 k0 ⊢
  have ldm : ∀ {g' : Heap}, EX g g' → iLoad true 2 g' (pt h.length 0) = some (.agg #[.int .u8 a, .int .u8 b]) := fun x => by simp [iLoad, objCells, x.get k0, iPart]
  refine C10 (most := 10) (least := 0) (hx.mono x0) bx (hy.mono x0) by2 (by decide) (by decide) (by decide) ?_
  intro v w g1 x1 hv hw
  have hval := made_valid xs ys (most := 10) (least := 0) (by decide) (by decide) (by decide)
  have m0 : ∀ g : Heap, iMkSl 51 0 [(.int .u8 (0)), (.int .u8 (0))] g [] = some (sl 51 g.length 0 0, g ++ [.arr 51 []]) := fun _ => rfl
  have m1 : ∀ g : Heap, iMkSl 51 1 [(.int .u8 (0)), (.int .u8 (0))] g [(0, 2, .agg #[.int .u8 a, .int .u8 b])] = some (sl 51 g.length 0 1, g ++ [.arr 51 [.int .u8 a, .int .u8 b]]) := fun _ => rfl
  have ob0 : ∀ {g : Heap} {i : Nat}, g[i]? = some (.arr 51 []) → iObj g (sl 51 i 0 0) = some (.agg #[.int .i64 51]) := by
    intro g i hi
    simp [iObj, idOf, sl, hi, encObj]
  have ob1 : ∀ {g : Heap} {i : Nat}, g[i]? = some (.arr 51 [.int .u8 a, .int .u8 b]) → iObj g (sl 51 i 0 1) = some (.agg #[.int .i64 51, .int .u8 a, .int .u8 b]) := by
    intro g i hi
    simp [iObj, idOf, sl, hi, encObj, noId]
  simp only [ext_tuple, pair0, pair1, OP_some, m0, OH_some]
  have xa : EX g1 (g1 ++ [.arr 51 []]) := EX.append _ _
  have ka : (g1 ++ [IObj.arr 51 []])[g1.length]? = some (.arr 51 []) := get_last
  have la : (g1 ++ [IObj.arr 51 []]).length = g1.length + 1 := by simp
  generalize g1 ++ [IObj.arr 51 []] = ga at xa ka la ⊢
  simp only [ob0 ka, OP_some, true_and, ldm (x1.trans xa), ldm x1, m1, OH_some]
  have xb : EX ga (ga ++ [.arr 51 [.int .u8 a, .int .u8 b]]) := EX.append _ _
  have kb : (ga ++ [IObj.arr 51 [.int .u8 a, .int .u8 b]])[ga.length]? = some (.arr 51 [.int .u8 a, .int .u8 b]) := get_last
  generalize ga ++ [IObj.arr 51 [.int .u8 a, .int .u8 b]] = gb at xb kb ⊢
  have kba := xb.get ka
  have x1b := xa.trans xb
  have hyb := hy.mono (x0.trans (x1.trans x1b))
  have em : min (ys.length : Int) 19 = ((min ys.length 19 : Nat) : Int) := by omega
  simp only [ob1 kb, OP_some, ob0 kba, true_and, hyb.len, min2, em]
  obtain ⟨v', s1, s2, s3⟩ := hyb.part (Nat.min_le_left ys.length 19)
  have htk : (bcells ys).take (min ys.length 19 * 2) = bcells (ys.take (min ys.length 19)) := by
    have key : ∀ (l : List (Int × Int)) (m : Nat), (bcells l).take (m * 2) = bcells (l.take m) := by
      intro l
      induction l with
      | nil => intro m; simp [bcells]
      | cons p l ih =>
        intro m
        cases m with
        | zero => simp [bcells]
        | succ m =>
          have : bcells (p :: l) = .int .u8 p.1 :: .int .u8 p.2 :: bcells l := rfl
          rw [this, show (m + 1) * 2 = m * 2 + 1 + 1 by omega]
          simp only [List.take_succ_cons, ih m]
          rfl
    exact key ys _
  rw [htk] at s2
  obtain ⟨i1, gc, a1, a2, a3, a4⟩ := app_new (bytes := 2) kba s2 s3 (fun h0 => by rw [h0]; rfl) (by omega) (by simp [maxLen]; omega)
  have kbc : gc[ga.length]? = some (.arr 51 [.int .u8 a, .int .u8 b]) := a3.get (by omega) kb
  have xgc : EX g1 gc := a3.toE x1b (Nat.le_refl _)
  have d2 : sliceCells gc 2 (sl 51 ga.length 0 1) = some [.int .u8 a, .int .u8 b] := by simp [sliceCells, sl, objCells, kbc]
  have d3 : lenOfSl (sl 51 ga.length 0 1) = some 1 := rfl
  have ltk : (ys.take (min ys.length 19)).length = min ys.length 19 := by rw [List.length_take]; omega
  have ap : iApp 51 2 2 gc (sl 51 i1 0 (min ys.length 19)) (sl 51 ga.length 0 1) = some (sl 51 gc.length 0 (min ys.length 19 + 1), gc.set i1 .dead ++ [.arr 51 (bcells (ys.take (min ys.length 19)) ++ [.int .u8 a, .int .u8 b])]) := by
    simp only [iApp, d2, d3]
    simp only [sl, a4]
    rw [if_pos ⟨trivial, trivial, by rw [bcells_len, ltk], by omega, by simp [maxLen]; omega⟩, if_neg (by omega)]
  simp only [s1, OP_some, a1, OH_some, ldm (x1.trans xgc), ob1 kbc, true_and, ap]
  have hi1 : g1.length ≤ i1 := by
    rcases a2 with rfl | rfl
    · exact Nat.le_refl _
    · exact x1b.1
  have xgd : EX g1 (gc.set i1 .dead ++ [.arr 51 (bcells (ys.take (min ys.length 19)) ++ [.int .u8 a, .int .u8 b])]) := (xgc.set hi1 _).push _
  have kd : (gc.set i1 .dead ++ [IObj.arr 51 (bcells (ys.take (min ys.length 19)) ++ [.int .u8 a, .int .u8 b])])[gc.length]? = some (.arr 51 (bcells (ys.take (min ys.length 19)) ++ [.int .u8 a, .int .u8 b])) := by
    rw [List.getElem?_append_right (by simp)]; simp
  generalize gc.set i1 .dead ++ [IObj.arr 51 (bcells (ys.take (min ys.length 19)) ++ [.int .u8 a, .int .u8 b])] = gd at xgd kd ⊢
  have eb : bcells (ys.take (min ys.length 19)) ++ [.int .u8 a, .int .u8 b] = bcells (ys.take (min ys.length 19) ++ [(a, b)]) := by simp [bcells]
  have hys : IS gd 51 2 (sl 51 gc.length 0 (min ys.length 19 + 1)) (bcells (ys.take (min ys.length 19) ++ [(a, b)])) (ys.take (min ys.length 19) ++ [(a, b)]).length := by
    refine ⟨bcells_len _, .inr ⟨gc.length, by simp [ltk], .inr ?_⟩⟩
    rw [← eb]
    simp [objCells, kd]
  have bys : byte2 (ys.take (min ys.length 19) ++ [(a, b)]) := by
    intro p hp
    rcases List.mem_append.1 hp with hp | hp
    · exact by2 p (List.mem_of_mem_take hp)
    · rw [List.mem_singleton.1 hp]; exact ⟨ba, bb⟩
  refine C10 (most := 10) (least := 0) (hx.mono (x0.trans (x1.trans xgd))) bx hys bys (by decide) (by decide) (by decide) ?_
  intro v2 w2 g2 x2 hv2 hw2
  have hval2 := made_valid xs (ys.take (min ys.length 19) ++ [(a, b)]) (most := 10) (least := 0) (by decide) (by decide) (by decide)
  have x12 := xgd.trans x2
  have hv' := IPS.mono x12 hv
  have hw' := IPS.mono x12 hw
  have hy2 := hy.mono (x0.trans (x1.trans x12))
  simp only [ext_tuple, pair0, pair1, OP_some, hy2.len, bin_geq]
  have hsmall := (validB_of hval).small
  have hsub : ¬ (20 ≤ ys.length) → ∀ p ∈ madeP ys (madeJ xs 10 ((0 : Nat) : Int)).length, p ∈ madeP (ys.take (min ys.length 19) ++ [(a, b)]) (madeJ xs 10 ((0 : Nat) : Int)).length := by
    intro hlt p hp
    obtain ⟨q, hq, he⟩ := List.mem_filterMap.1 hp
    refine List.mem_filterMap.2 ⟨q, ?_, he⟩
    rw [List.take_of_length_le (by rw [List.length_append, ltk]; simp; omega), show min ys.length 19 = ys.length by omega, List.take_length]
    exact List.mem_append_left _ (List.mem_of_mem_take hq)
  generalize madeJ xs 10 ((0 : Nat) : Int) = J at *
  generalize madeP (ys.take (min ys.length 19) ++ [(a, b)]) J.length = Q at *
  generalize madeP ys J.length = P at *
  have fin : ∀ (wq : Value) (Q : List (Int × Int)), IPS g2 54 wq Q → validB J Q = true → (∀ p ∈ P, p ∈ Q) → p7z6 Try.prog K v w wq g2 := by
    intro wq Q hq hvq hPQ
    have vP := validB_of hval
    have vQ := validB_of hvq
    have hmore := more_pairs vP.small.all vP.n10 vP.ac vQ.ac (fun i hi j hj => by
      rw [vP.is.bit i hi j] at hj
      rw [vQ.is.bit i hi j]
      exact decide_eq_true (hPQ _ (of_decide_eq_true hj)))
    rw [q7z6]
    refine best_valid hv' hw' hval ?_
    intro u1 g3 l1 x3 _ _ _
    simp only [ext_tuple, (trip _ _ _).1, (trip _ _ _).2.1, (trip _ _ _).2.2, OP_some]
    refine best_valid (IPS.mono x3 hv') (IPS.mono x3 hq) hvq ?_
    intro u2 g4 l2 x4 _ _ _
    simp only [ext_tuple, (trip _ _ _).1, (trip _ _ _).2.1, (trip _ _ _).2.2, OP_some]
    have x34 := x3.trans x4
    refine orders_valid (IPS.mono x34 hv') (IPS.mono x34 hw') hval ?_
    intro g5 x5
    simp only [ext_tuple, pair0, pair1, OP_some]
    refine orders_valid (IPS.mono (x34.trans x5) hv') (IPS.mono (x34.trans x5) hq) hvq ?_
    intro g6 x6
    simp only [ext_tuple, pair0, pair1, OP_some, bin_eql, decide_true]
    rw [q7z13]
    simp only [GdP_tt, bin_eql, OP_some, decide_true]
    rw [q7z15]
    simp only [iPick_t, OP_some]
    rw [q7z17]
    simp only [GdP_tt, bin_eql, OP_some, decide_true]
    rw [q7z19]
    simp only [iPick_t, OP_some]
    rw [q7z21]
    simp only [GdP_tt, bin_eql, OP_some, decide_true]
    rw [q7z23]
    simp only [iPick_t, OP_some]
    rw [q7z25]
    simp only [GdP_tt, bin_leq, OP_some, decide_eq_true hmore.1]
    rw [q7z27]
    simp only [iPick_t, OP_some]
    rw [q7z29]
    simp only [GdP_tt, bin_geq, OP_some, decide_eq_true hmore.2.1]
    rw [q7z31]
    simp only [iPick_t, OP_some]
    rw [q7z33]
    simp only [GdP_tt, bin_geq, OP_some, decide_eq_true hmore.2.2]
    rw [q7z35]
    simp only [iPick_t, OP_some]
    rw [q7z37]
    simp only [GdP_tt]
    refine C14 ?_
    rw [q7z39]
    simp only [iPick_t, OP_some]
    exact hk _
  simp only [IfP_dec]
  refine ⟨fun hge => ?_, fun hlt => ?_⟩
  · exact fin w P hw' hval fun p hp => hp
  · exact fin w2 Q hw2 hval2 (hsub (by omega))

def swp (p : Int × Int) : Int × Int := (p.2, p.1)

theorem swp_valid {js ps : List (Int × Int)} (h : validB js ps = true) (hw : ∀ j ∈ js, 1 ≤ j.2) {n : Nat} (hn : js.length = n) (hr : ∀ p ∈ ps, ((0 ≤ p.1 ∧ p.1 < n) ∧ 0 ≤ p.2 ∧ p.2 < n) ∧ 7 * p.1 % 11 < 7 * p.2 % 11) : validB (js.map swp) (ps.map swp) = true := by
  have vd := validB_of h
  have hl1 := vd.n1
  have hl2 := vd.n10
  refine valid_of (by rw [List.length_map]; exact ⟨hl1, hl2⟩) (by rw [List.length_map]; exact vd.p40) (fun j hj => ?_) (rk := fun a => 11 - 7 * a % 11) (fun a => by omega) fun p hp => ?_
  · obtain ⟨q, hq, rfl⟩ := List.mem_map.1 hj
    have := vd.small q hq
    have := hw q hq
    show (1 ≤ q.2 ∧ q.2 ≤ 50) ∧ 0 ≤ q.1 ∧ q.1 ≤ 50
    omega
  · obtain ⟨q, hq, rfl⟩ := List.mem_map.1 hp
    have := hr q hq
    rw [List.length_map, hn]
    show ((0 ≤ q.2 ∧ q.2 < n) ∧ 0 ≤ q.1 ∧ q.1 < n) ∧ 11 - 7 * q.2 % 11 < 11 - 7 * q.1 % 11
    omega

theorem C8 {vx vy : Value} {xs ys : List (Int × Int)} {h : Heap} {K : Value → Heap → Prop} (hx : IS h 51 2 vx (bcells xs) xs.length) (bx : byte2 xs) (hy : IS h 51 2 vy (bcells ys) ys.length) (by2 : byte2 ys) (hk : ∀ h', K (B true) h') :
    CallP Try.prog 8 [vx, vy] h K := by
  refine f8 (C10 (most := 10) (least := 1) hx bx hy by2 (by decide) (by decide) (by decide) ?_)
  intro v w g x0 hv hw
  have hval := made_valid xs ys (most := 10) (least := 1) (by decide) (by decide) (by decide)
  have hsm := madeJ_small xs 10 (least := 1) (by decide)
  have hrk := madeP_rank (ys := ys) (validB_of hval).n1 (validB_of hval).n10
  have m0 : ∀ (t : TypeId) (g : Heap), iMkSl t 0 [(.int .i64 (0)), (.int .i64 (0))] g [] = some (sl t g.length 0 0, g ++ [.arr t []]) := fun _ _ => rfl
  simp only [ext_tuple, pair0, pair1, OP_some, m0, OH_some]
  have hv2 := swp_valid hval (fun j hj => (hsm j hj).2.1) rfl hrk
  generalize madeJ xs 10 ((1 : Nat) : Int) = J at *
  generalize madeP ys J.length = P at *
  have xa : EX g (g ++ [.arr 35 []]) := EX.append _ _
  have ka : (g ++ [IObj.arr 35 []])[g.length]? = some (.arr 35 []) := get_last
  have la : (g ++ [IObj.arr 35 []]).length = g.length + 1 := by simp
  rw [la]
  generalize g ++ [IObj.arr 35 []] = ga at xa ka la ⊢
  have xb : EX ga (ga ++ [.arr 54 []]) := EX.append _ _
  have kb : (ga ++ [IObj.arr 54 []])[g.length + 1]? = some (.arr 54 []) := by rw [← la]; exact get_last
  generalize ga ++ [IObj.arr 54 []] = gb at xb kb ⊢
  have kba := xb.get ka
  have vJ := validB_of hval
  have n10 := vJ.n10
  have p40 := vJ.p40
  refine loopL (σ := Nat × Nat × Heap) (fun q => [sl 35 q.2.1 0 ((J.take q.1).map swp).length, I q.1]) (fun q => q.2.2)
    (fun q => q.1 ≤ J.length ∧ EX g q.2.2 ∧ g.length ≤ q.2.1 ∧ q.2.1 ≠ g.length + 1 ∧ q.2.2[q.2.1]? = some (.arr 35 (pcells ((J.take q.1).map swp))) ∧ q.2.2[g.length + 1]? = some (.arr 54 [])) (fun q => J.length - q.1)
    (0, g.length, gb) rfl rfl ⟨Nat.zero_le _, xa.trans xb, Nat.le_refl _, by show g.length ≠ g.length + 1; omega, kba, kb⟩ ?_
  rintro ⟨i, id, g1⟩ ⟨hi, x1, hid, hne, kj, kp⟩ L hL
  simp only at hi x1 hid hne kj kp hL ⊢
  have hjs := (IPS.ps hv).mono x1
  have hlg := (List.getElem?_eq_some_iff.1 kp).1
  rw [q8z7]
  simp only [hjs.len, OP_some, bin_lss, IfP_dec]
  refine ⟨fun hlt => ?_, fun hge => ?_⟩
  · have hil : i < J.length := by omega
    obtain ⟨b, o, g2, g3, g4, _⟩ := hjs.get i hil
    simp only [g2, OP_some, fadr_pt, Nat.add_zero, g3, g4, true_and, bld]
    refine app_p2 kj (by rw [List.length_map, List.length_take]; omega) ?_
    intro id' g' hid' x' k'
    have hti : (J.take (i + 1)).map swp = (J.take i).map swp ++ [(J[i].2, J[i].1)] := by
      rw [List.take_succ_eq_append_getElem hil, List.map_append]; rfl
    rw [← hti] at k' ⊢
    simp only [bin_add, OP_some, inc i (by omega), true_and]
    exact hL (i + 1, id', g') ⟨by show i + 1 ≤ _; omega, x'.toE x1 hid, by show g.length ≤ id'; omega, by show id' ≠ g.length + 1; omega, k', x'.get (fun e => hne e.symm) kp⟩ (by show J.length - (i + 1) < J.length - i; omega)
  · have hie : i = J.length := by omega
    rw [hie, List.take_length] at kj ⊢
    rw [q8z12]
    refine loopL (σ := Nat × Nat × Heap) (fun q => [sl 54 q.2.1 0 ((P.take q.1).map swp).length, I q.1]) (fun q => q.2.2)
      (fun q => q.1 ≤ P.length ∧ EX g q.2.2 ∧ g.length ≤ q.2.1 ∧ id ≠ q.2.1 ∧ q.2.2[q.2.1]? = some (.arr 54 (pcells ((P.take q.1).map swp))) ∧ q.2.2[id]? = some (.arr 35 (pcells (J.map swp)))) (fun q => P.length - q.1)
      (0, g.length + 1, g1) rfl rfl ⟨Nat.zero_le _, x1, by show g.length ≤ g.length + 1; omega, hne, kp, kj⟩ ?_
    rintro ⟨m, ip, g5⟩ ⟨hm, x5, hip, hne2, kp5, kj5⟩ L2 hL2
    simp only at hm x5 hip hne2 kp5 kj5 hL2 ⊢
    have hps := (IPS.ps hw).mono x5
    have hlg5 := (List.getElem?_eq_some_iff.1 kj5).1
    rw [q8z16]
    simp only [hps.len, OP_some, bin_lss, IfP_dec]
    refine ⟨fun hlt => ?_, fun hge2 => ?_⟩
    · have hml : m < P.length := by omega
      obtain ⟨b, o, g2, g3, g4, _⟩ := hps.get m hml
      simp only [g2, OP_some, fadr_pt, Nat.add_zero, g3, g4, true_and, bld]
      refine app_p2 kp5 (by rw [List.length_map, List.length_take]; omega) ?_
      intro id' g' hid' x' k'
      have hti : (P.take (m + 1)).map swp = (P.take m).map swp ++ [(P[m].2, P[m].1)] := by
        rw [List.take_succ_eq_append_getElem hml, List.map_append]; rfl
      rw [← hti] at k' ⊢
      simp only [bin_add, OP_some, inc m (by omega), true_and]
      exact hL2 (m + 1, id', g') ⟨by show m + 1 ≤ _; omega, x'.toE x5 hip, by show g.length ≤ id'; have := x5.1; omega, by show id ≠ id'; omega, k', x'.get hne2 kj5⟩ (by show P.length - (m + 1) < P.length - m; omega)
    · have hme : m = P.length := by omega
      rw [hme, List.take_length] at kp5 ⊢
      have ij := IPS.arr kj5
      have ip2 := IPS.arr kp5
      have vK := validB_of hv2
      have hlen : (J.map swp).length = J.length := List.length_map ..
      rw [hlen] at vK
      have ht : Turned (bsOf P J.length) (bsOf (P.map swp) J.length) J.length := by
        intro i k hi hk2
        rw [vJ.is.bit i hi k, vK.is.bit k hk2 i, decide_eq_decide]
        constructor
        · intro hm2; exact List.mem_map.2 ⟨_, hm2, rfl⟩
        · intro hm2
          obtain ⟨q, hq, e⟩ := List.mem_map.1 hm2
          have e1 : q.2 = (i : Int) := congrArg Prod.fst e
          have e2 : q.1 = (k : Int) := congrArg Prod.snd e
          have : q = ((k : Int), (i : Int)) := by rw [← e1, ← e2]
          rw [← this]; exact hq
      have hjk : ∀ i, i < J.length → lenJ (J.map swp) i = weiJ J i ∧ weiJ (J.map swp) i = lenJ J i := by
        intro i hi
        have e : (J.map swp).getD i (0, 0) = swp (J.getD i (0, 0)) := by
          simp [List.getD_eq_getElem?_getD, hi]
        unfold lenJ weiJ
        rw [e]
        exact ⟨rfl, rfl⟩
      have heq := turn_min vJ.small.all vK.small.all vJ.n10 vJ.is.lt vK.is.lt ht vJ.ac vK.ac hjk
      have hle := turn_lefts vJ.is.lt vK.is.lt ht
      rw [q8z21]
      refine best_valid (IPS.mono x5 hv) (IPS.mono x5 hw) hval ?_
      intro u1 g6 l1 x6 _ _ _
      simp only [ext_tuple, (trip _ _ _).1, (trip _ _ _).2.1, (trip _ _ _).2.2, OP_some]
      refine best_valid (IPS.mono x6 ij) (IPS.mono x6 ip2) hv2 ?_
      intro u2 g7 l2 x7 _ _ _
      simp only [ext_tuple, (trip _ _ _).1, (trip _ _ _).2.1, (trip _ _ _).2.2, OP_some]
      have x57 := x5.trans (x6.trans x7)
      refine orders_valid (IPS.mono x57 hv) (IPS.mono x57 hw) hval ?_
      intro g8 x8
      simp only [ext_tuple, pair0, pair1, OP_some]
      refine orders_valid (IPS.mono (x6.trans (x7.trans x8)) ij) (IPS.mono (x6.trans (x7.trans x8)) ip2) hv2 ?_
      intro g9 x9
      rw [hlen, heq, hle]
      simp only [ext_tuple, pair0, pair1, OP_some, bin_eql, decide_true]
      rw [q8z28]
      simp only [GdP_tt, bin_eql, OP_some, decide_true]
      rw [q8z30]
      simp only [iPick_t, OP_some]
      rw [q8z32]
      simp only [GdP_tt, bin_eql, OP_some, decide_true]
      rw [q8z34]
      simp only [iPick_t, OP_some]
      rw [q8z36]
      simp only [GdP_tt, bin_eql, OP_some, decide_true]
      rw [q8z38]
      simp only [iPick_t, OP_some]
      rw [q8z40]
      simp only [GdP_tt, bin_eql, OP_some, decide_true]
      rw [q8z42]
      simp only [iPick_t, OP_some]
      rw [q8z44]
      simp only [GdP_tt, bin_eql, OP_some, decide_true]
      rw [q8z46]
      simp only [iPick_t, OP_some]
      rw [q8z48]
      simp only [GdP_tt]
      refine C14 ?_
      rw [q8z50]
      simp only [iPick_t, OP_some]
      exact hk _

end Go.Proofs.Ytelmdbpaoifmoaa
