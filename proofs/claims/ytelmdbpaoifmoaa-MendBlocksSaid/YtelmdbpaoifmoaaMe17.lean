/-
  The law of Smith, as a call answers.
-/
import Derived.Test.YtelmdbpaoifmoaaMe16
import Derived.Test.YtelmdbpaoifmoaaShS
import Derived.Test.YtelmdbpaoifmoaaSq24
namespace Go.Proofs.Ytelmdbpaoifmoaa
open Go.Sim

theorem C3 {vx : Value} {xs : List (Int × Int)} {h : Heap} {K : Value → Heap → Prop} (hx : IS h 51 2 vx (bcells xs) xs.length) (bx : byte2 xs) (hk : ∀ h', K (B true) h') : CallP Try.prog 3 [vx] h K := by
  have nil2 : IS h 51 2 (.slice none 0 0) (bcells []) ([] : List (Int × Int)).length := ⟨rfl, .inl ⟨rfl, rfl⟩⟩
  have nil54 : ∀ g : Heap, IPS g 54 (.slice none 0 0) [] := fun g => ⟨rfl, .inl ⟨rfl, rfl⟩⟩
  refine f3 (C10 (most := 10) (least := 0) hx bx nil2 (fun p hp => by simp at hp) (by decide) (by decide) (by decide) ?_)
  intro v w g x0 hv _
  have hsm := madeJ_small xs 10 (least := 0) (by decide)
  have hval : validB (madeJ xs 10 ((0 : Nat) : Int)) [] = true := valid_of (madeJ_len xs _ (by decide) (by decide)) (by simp) (fun j hj => by have := hsm j hj; omega) (rk := fun _ => 0) (fun _ => Int.le_refl _) (fun p hp => by simp at hp)
  generalize madeJ xs 10 ((0 : Nat) : Int) = J at *
  have vd := validB_of hval
  have n10 := vd.n10
  simp only [ext_tuple, pair0, pair1, OP_some]
  refine best_valid hv (nil54 g) hval ?_
  intro vl g1 l x1 hl hg hlen
  simp only [ext_tuple, (trip _ _ _).1, (trip _ _ _).2.1, (trip _ _ _).2.2, OP_some, bin_neq, decide_true, Bool.not_true]
  obtain ⟨hok, hfull, hcost⟩ := hg.ok n10
  rw [now_zero] at hcost
  have hv1 := IPS.mono x1 hv
  have hj := IPS.ps hv1
  rw [q3z7]
  simp only [GdP_ff]
  refine C12 hj (IPS.ps (nil54 g1)) vd hl (by rw [List.length_map]; omega) ?_
  rw [okI_nat, hok, List.length_map, decide_eq_true hlen, Bool.and_self]
  simp only [un_not, OP_some, Bool.not_true]
  rw [q3z9]
  simp only [iPick_f, OP_some]
  rw [q3z11]
  simp only [GdP_ff]
  refine C13 hj vd.small hl (okO_lt hok) (by omega) ?_
  rw [hcost]
  simp only [bin_neq, OP_some, decide_true, Bool.not_true]
  rw [q3z13]
  simp only [iPick_f, OP_some]
  rw [q3z15]
  simp only [GdP_ff]
  refine C14 ?_
  simp only [un_not, OP_some, Bool.not_true]
  rw [q3z17]
  simp only [iPick_f, OP_some, IfP_false]
  refine loopL (σ := Nat × Heap) (fun q => [I q.1]) (fun q => q.2) (fun q => (1 ≤ q.1 ∧ q.1 ≤ l.length) ∧ EX g1 q.2) (fun q => l.length - q.1) (1, g1) rfl rfl ⟨⟨Nat.le_refl _, by show 1 ≤ l.length; have := vd.n1; omega⟩, EX.refl _⟩ ?_
  rintro ⟨i, g2⟩ ⟨⟨hi1, hi⟩, x2⟩ L hL
  simp only at hi1 hi x2 hL ⊢
  rw [q3z22]
  simp only [(NS.lenN (hl.mono x2)), OP_some, bin_lss, IfP_dec]
  refine ⟨fun hlt => ?_, fun _ => hk _⟩
  obtain ⟨k, rfl⟩ : ∃ k, i = k + 1 := ⟨i - 1, by omega⟩
  have hkl : k + 1 < l.length := by omega
  obtain ⟨s1, s2⟩ := smith vd.small.all n10 vd.ac (fun i hi j => by rw [vd.is.bit i hi j]; simp) hg hkl
  have al : ∀ g : Heap, iAlloc 35 [(.int .i64 (0)), (.int .i64 (0))] g = some (pt g.length 0, g ++ [.arr 35 [I 0, I 0]]) := fun _ => rfl
  have ob : ∀ {g : Heap} {i : Nat}, g[i]? = some (.arr 35 [I 0, I 0]) → iObj g (pt i 0) = some (.agg #[.int .i64 35, I 0, I 0]) := by
    intro g i hi
    simp [iObj, idOf, hi, encObj, noId]
  simp only [al, OH_some]
  have xa : EX g2 (g2 ++ [.arr 35 [I 0, I 0]]) := EX.append _ _
  have ka : (g2 ++ [IObj.arr 35 [I 0, I 0]])[g2.length]? = some (.arr 35 [I 0, I 0]) := get_last
  have la : (g2 ++ [IObj.arr 35 [I 0, I 0]]).length = g2.length + 1 := by simp
  generalize g2 ++ [IObj.arr 35 [I 0, I 0]] = ga at xa ka la ⊢
  have xb : EX ga (ga ++ [.arr 35 [I 0, I 0]]) := EX.append _ _
  have kb : (ga ++ [IObj.arr 35 [I 0, I 0]])[ga.length]? = some (.arr 35 [I 0, I 0]) := get_last
  generalize ga ++ [IObj.arr 35 [I 0, I 0]] = gb at xb kb ⊢
  have kba := xb.get ka
  have xab := xa.trans xb
  obtain ⟨b, o, r1, r2⟩ := NS.getN (hl.mono x2) (show k < l.length by omega)
  obtain ⟨c, q, t1, t2⟩ := NS.getN (hl.mono x2) hkl
  have hlt1 : l[k] < J.length := okO_lt hok _ (List.getElem_mem _)
  have hlt2 : l[k + 1] < J.length := okO_lt hok _ (List.getElem_mem _)
  obtain ⟨b1, o1, u1, u2, u3, u4⟩ := PS.getD (hj.mono x2) hlt1
  obtain ⟨c1, q1, w1, w2, w3, w4⟩ := PS.getD (hj.mono x2) hlt2
  have sb : IntKind.wrap .i64 (((k + 1 : Nat) : Int) - 1) = (k : Int) := by rw [wrap64 (by omega) (by omega)]; omega
  have b2 : b1 < g2.length ∧ c1 < g2.length := by
    have key : ∀ {h : Heap} {i o : Nat} {v : Value}, iLoad true 2 h (pt i o) = some v → i < h.length := by
      intro h i o v hh
      apply Classical.byContradiction
      intro hge
      simp only [iLoad, pt] at hh
      rw [objCells, List.getElem?_eq_none (by omega)] at hh
      cases hh
    exact ⟨key u4, key w4⟩
  have ha := vd.small.all l[k]
  have hd := vd.small.all l[k + 1]
  have eA : (I (J.getD l[k] (0, 0)).1 : Value) = I (lenJ J l[k]) ∧ (I (J.getD l[k] (0, 0)).2 : Value) = I (weiJ J l[k]) := ⟨rfl, rfl⟩
  have eD : (I (J.getD l[k + 1] (0, 0)).1 : Value) = I (lenJ J l[k + 1]) ∧ (I (J.getD l[k + 1] (0, 0)).2 : Value) = I (weiJ J l[k + 1]) := ⟨rfl, rfl⟩
  rw [eA.1, eA.2] at u4
  rw [eD.1, eD.2] at w4
  generalize lenJ J l[k] = la1 at *
  generalize weiJ J l[k] = wa1 at *
  generalize lenJ J l[k + 1] = ld1 at *
  generalize weiJ J l[k + 1] = wd1 at *
  simp only [ob ka, OP_some, true_and, ob kb, ob kba, bin_sub, sb, r1, r2, EX.load xa r2, EX.load xab r2, u1, u4, EX.load xa u4, EX.load xab u4, t1, t2, EX.load xa t2, EX.load xab t2, w1, w4, EX.load xa w4, EX.load xab w4]
  have st : ∀ {g : Heap} {i : Nat} {a b : Int}, g[i]? = some (.arr 35 [I 0, I 0]) → oStore 2 g (pt i 0) (.agg #[I a, I b]) = some (undef, g.set i (.arr 35 [I a, I b])) := by
    intro g i a b hi
    simp [oStore, iStore, hi, noTuple, vcells, Value.cells, setAt]
  have hga : g2.length ≠ ga.length := by omega
  rw [st kba]
  simp only [OH_some]
  have k3 : (gb.set g2.length (.arr 35 [I la1, I wa1]))[g2.length]? = some (.arr 35 [I la1, I wa1]) := set_get kba
  have k4 : (gb.set g2.length (.arr 35 [I la1, I wa1]))[ga.length]? = some (.arr 35 [I 0, I 0]) := by rw [List.getElem?_set_ne hga]; exact kb
  have x3 : EX g2 (gb.set g2.length (.arr 35 [I la1, I wa1])) := xab.set (Nat.le_refl _) _
  generalize gb.set g2.length (.arr 35 [I la1, I wa1]) = gc at k3 k4 x3 ⊢
  simp only [EX.load x3 t2, EX.load x3 w4, true_and]
  rw [st k4]
  simp only [OH_some]
  have k5 : (gc.set ga.length (.arr 35 [I ld1, I wd1]))[g2.length]? = some (.arr 35 [I la1, I wa1]) := by rw [List.getElem?_set_ne (fun e => hga e.symm)]; exact k3
  have k6 : (gc.set ga.length (.arr 35 [I ld1, I wd1]))[ga.length]? = some (.arr 35 [I ld1, I wd1]) := set_get k4
  have x4 : EX g2 (gc.set ga.length (.arr 35 [I ld1, I wd1])) := x3.set (by omega) _
  generalize gc.set ga.length (.arr 35 [I ld1, I wd1]) = gd at k5 k6 x4 ⊢
  have l0 : iLoad false 1 gd (pt g2.length 0) = some (I la1) := by simp [iLoad, objCells, k5, iPart]
  have l1 : iLoad false 1 gd (pt g2.length 1) = some (I wa1) := by simp [iLoad, objCells, k5, iPart]
  have m0 : iLoad false 1 gd (pt ga.length 0) = some (I ld1) := by simp [iLoad, objCells, k6, iPart]
  have m1 : iLoad false 1 gd (pt ga.length 1) = some (I wd1) := by simp [iLoad, objCells, k6, iPart]
  have mm : ∀ {x y : Int}, 0 ≤ x → x ≤ 50 → 0 ≤ y → y ≤ 50 → 0 ≤ x * y ∧ x * y ≤ 2500 := by
    intro x y h1 h2 h3 h4
    have a := Int.mul_nonneg h1 h3
    have b : x * y ≤ 50 * 50 := Int.mul_le_mul h2 h4 h3 (by omega)
    omega
  have p1 := mm ha.2.1 ha.2.2 hd.1.1 hd.1.2
  have p2 := mm hd.2.1 hd.2.2 ha.1.1 ha.1.2
  have v1 : IntKind.wrap .i64 (wa1 * ld1) = wa1 * ld1 := wrap64 (by omega) (by omega)
  have v2 : IntKind.wrap .i64 (wd1 * la1) = wd1 * la1 := wrap64 (by omega) (by omega)
  simp only [fadr_pt, Nat.add_zero, Nat.zero_add, OP_some, l0, l1, m0, m1, true_and, bin_mul, v1, v2, bin_lss, decide_eq_false (show ¬ wa1 * ld1 < wd1 * la1 by omega), GdP_ff, bin_eql]
  have nx : L [I ((k + 1 + 1 : Nat) : Int)] gd := hL (k + 1 + 1, gd) ⟨⟨by show 1 ≤ k + 1 + 1; omega, by show k + 1 + 1 ≤ l.length; omega⟩, x2.trans x4⟩ (by show l.length - (k + 1 + 1) < l.length - (k + 1); omega)
  by_cases he : wa1 * ld1 = wd1 * la1
  · have hle := s2 he
    rw [decide_eq_true he]
    simp only [GdP_tt, bin_sub, sb, OP_some, r1, EX.load x4 r2, t1, EX.load x4 t2, true_and, bin_gtr, iPick_t, iPick_f]
    rw [decide_eq_false (show ¬ ((l[k + 1] : Int) < (l[k] : Int)) by omega)]
    simp only [IfP_false, bin_add, OP_some, inc (k + 1) (by omega), true_and]
    exact nx
  · rw [decide_eq_false he]
    simp only [GdP_ft, GdP_ff, iPick_f, OP_some, IfP_false, bin_add, inc (k + 1) (by omega), true_and]
    exact nx

end Go.Proofs.Ytelmdbpaoifmoaa
