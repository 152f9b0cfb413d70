/-
  Levi's law.
-/
import Derived.Test.YtjdlcokhlphmhaaCt14
namespace Go.Proofs.Ytjdlcokhlphmhaa
open Go.Sim

theorem letters_take {n : Nat} {s : List UInt8} (h : letters n s) (i : Nat) : letters n (s.take i) := fun c hc => h c (List.mem_of_mem_take hc)
theorem letters_drop {n : Nat} {s : List UInt8} (h : letters n s) (i : Nat) : letters n (s.drop i) := fun c hc => h c (List.mem_of_mem_drop hc)

theorem C11 {kk f : Int} {xv0 xv1 : Value} {ns0 ns1 : List Int} {a0 a1 : Int} {h : Heap} {K : Value → Heap → Prop} (hk0 : 0 ≤ kk) (hk1 : kk < 256) (hx0 : NS h xv0 .u8 ns0) (hu0 : U8 ns0) (hx1 : NS h xv1 .u8 ns1) (hu1 : U8 ns1)
    (ha0 : 0 ≤ a0 ∧ a0 < 256) (ha1 : 0 ≤ a1 ∧ a1 < 256) (hk : ∀ h', K (.bool true) h') :
    CallP Try.prog 11 [.agg #[.int .u8 kk, .int .u16 f], .agg #[xv0, xv1], .agg #[.int .u8 a0, .int .u8 a1]] h K := by
  refine f11 ?_
  have e1 : iBox 54 h (.agg #[.int .u8 kk, .int .u16 f]) = some (pt h.length 0, h ++ [.arr 54 [.int .u8 kk, .int .u16 f]]) := rfl
  have e2 : iLoad true 2 (h ++ [.arr 54 [.int .u8 kk, .int .u16 f]]) (pt h.length 0) = some (.agg #[.int .u8 kk, .int .u16 f]) := by simp [iLoad, objCells, iPart]
  simp only [T11, e1, OH_some]
  have x1 : EX h (h ++ [.arr 54 [.int .u8 kk, .int .u16 f]]) := EX.append _ _
  generalize hA : h ++ [IObj.arr 54 [.int .u8 kk, .int .u16 f]] = h1 at *
  have e3 : iBox 83 h1 (.agg #[xv0, xv1]) = some (pt h1.length 0, h1 ++ [.arr 83 [xv0, xv1]]) := rfl
  simp only [e3, OH_some]
  have x2 : EX h1 (h1 ++ [.arr 83 [xv0, xv1]]) := EX.append _ _
  have l0 : iLoad false 1 (h1 ++ [.arr 83 [xv0, xv1]]) (pt h1.length 0) = some xv0 := load_last rfl
  have l1 : iLoad false 1 (h1 ++ [.arr 83 [xv0, xv1]]) (pt h1.length 1) = some xv1 := load_last rfl
  generalize hB : h1 ++ [IObj.arr 83 [xv0, xv1]] = h2 at *
  have e4 : iBox 67 h2 (.agg #[.int .u8 a0, .int .u8 a1]) = some (pt h2.length 0, h2 ++ [.arr 67 [.int .u8 a0, .int .u8 a1]]) := rfl
  simp only [e4, OH_some]
  have x3 : EX h2 (h2 ++ [.arr 67 [.int .u8 a0, .int .u8 a1]]) := EX.append _ _
  have m0 : iLoad false 1 (h2 ++ [.arr 67 [.int .u8 a0, .int .u8 a1]]) (pt h2.length 0) = some (.int .u8 a0) := load_last rfl
  have m1 : iLoad false 1 (h2 ++ [.arr 67 [.int .u8 a0, .int .u8 a1]]) (pt h2.length 1) = some (.int .u8 a1) := load_last rfl
  generalize hC : h2 ++ [IObj.arr 67 [.int .u8 a0, .int .u8 a1]] = h3 at *
  rw [EX.load (x2.trans x3) e2]
  simp only [OP_some]
  refine C30 hk0 hk1 ?_
  intro n ps hn1 hn6 ht
  have x4 : EX h3 (h3 ++ [.arr 98 (pcells ps)]) := EX.append _ _
  obtain ⟨hg, _, _, hl30, _⟩ := threadsOk_good ht
  have hps : PS (h3 ++ [.arr 98 (pcells ps)]) (sl 98 h3.length 0 ps.length) ps := PS.sl (by simp [objCells])
  have ex : EX h (h3 ++ [.arr 98 (pcells ps)]) := ((x1.trans x2).trans x3).trans x4
  have l0 := EX.load (x3.trans x4) l0
  have l1 := EX.load (x3.trans x4) l1
  have m0 := EX.load x4 m0
  have m1 := EX.load x4 m1
  have hx0 := hx0.mono ex
  have hx1 := hx1.mono ex
  simp only [ext_tuple, pair0, pair1, OP_some]
  generalize sl 98 h3.length 0 ps.length = qv at hps ⊢
  generalize h3 ++ [IObj.arr 98 (pcells ps)] = hx at hps l0 l1 m0 m1 hx0 hx1 ⊢
  have d0 : ∀ i, iAdrArr 2 1 (pt i 0) (.int .i64 0) = some (pt i 0) := fun i => rfl
  have d1 : ∀ i, iAdrArr 2 1 (pt i 0) (.int .i64 1) = some (pt i 1) := fun i => rfl
  simp only [d0, d1, OP_some, l0, l1, m0, m1]
  refine C31 (most := 24) hn1 hn6 (by omega) hx0 hu0 ?_
  intro w hw hw24
  simp only [l1, OP_some]
  refine C32e hps hg (by omega) hx1 hu1 hw (by omega) ?_
  intro o ho hol hoe
  simp only [m0, m1, OP_some]
  obtain ⟨i, rfl⟩ : ∃ j : Nat, a0 = j := ⟨a0.toNat, by omega⟩
  obtain ⟨j, rfl⟩ : ∃ j : Nat, a1 = j := ⟨a1.toNat, by omega⟩
  simp only [conv_int, OP_some, lenS_S, bin_add, true_and, m1]
  rw [wrap64 (by omega) (by omega), inc w.length (by omega), rem_nat _ _ _ (by omega)]
  simp only [OP_some]
  rw [wrap64 (by omega) (by omega), rem_nat _ _ _ (by omega)]
  have hi : i % (w.length + 1) ≤ w.length := by have := Nat.mod_lt i (show w.length + 1 > 0 by omega); omega
  have hj : j % (w.length + 1) ≤ o.length := by have := Nat.mod_lt j (show w.length + 1 > 0 by omega); omega
  generalize i % (w.length + 1) = i at hi
  generalize j % (w.length + 1) = j at hj
  simp only [OP_some]
  rw [slS_hi w hi]
  simp only [OP_some]
  rw [slS_lo w hi]
  simp only [OP_some]
  rw [slS_hi o hj]
  simp only [OP_some]
  rw [slS_lo o hj]
  simp only [OP_some]
  have ls := letters_take hw i
  have lt' := letters_drop hw i
  have lu := letters_take ho j
  have lv := letters_drop ho j
  have hst : eqv (freeP ps) 6 (w.take i ++ w.drop i) (o.take j ++ o.drop j) := by
    rw [List.take_append_drop, List.take_append_drop]
    exact hoe.symm
  have hsl : (w.take i).length ≤ 24 := by rw [List.length_take]; omega
  have htl : (w.drop i).length ≤ 24 := by rw [List.length_drop]; omega
  have hul : (o.take j).length ≤ 24 := by rw [List.length_take]; omega
  have hvl : (o.drop j).length ≤ 24 := by rw [List.length_drop]; omega
  generalize w.take i = s at *
  generalize w.drop i = t at *
  generalize o.take j = u at *
  generalize o.drop j = v at *
  refine C47b hps hn6 ht ls lu (by omega) (by omega) ?_
  intro m a b hm
  simp only [siV, ext_tuple, pair0, pair1, OP_some]
  obtain ⟨lm, la, lb⟩ := hm.lettersN ls lu
  obtain ⟨len1, len2⟩ := hm.len (Nat.le_refl 6) (letters_le hn6 ls) (letters_le hn6 lu)
  have lm6 := Lst_letters (ps := ps) hm.lm
  have la6 := Lst_letters (ps := ps) hm.la
  have lb6 := Lst_letters (ps := ps) hm.lb
  have em := Lst_eqv (ps := ps) hm.lm
  have eA := Lst_eqv (ps := ps) hm.la
  have eB := Lst_eqv (ps := ps) hm.lb
  refine C51b hps hn6 ht (Lst_lettersN hn6 lm) ls (by omega) (by omega) hm.la ((em.append (eqv.refl _ _ a)).trans hm.ea) ?_
  simp only [siV, ext_tuple, pair0, pair1, OP_some]
  refine C51b hps hn6 ht (Lst_lettersN hn6 lm) lu (by omega) (by omega) hm.lb ((em.append (eqv.refl _ _ b)).trans hm.eb) ?_
  simp only [siV, ext_tuple, pair0, pair1, OP_some, bin_neq, decide_true, Bool.not_true, q11z13, GdP_ff, q11z15, iPick_f, q11z17, q11z19, q11z21]
  refine C20 ?_
  simp only [un_not, OP_some, Bool.not_true, q11z23, iPick_f, IfP_false]
  have hlev : eqv (freeP ps) 6 (Lst ps a ++ t) (Lst ps b ++ v) := by
    have g1 : eqv (freeP ps) 6 (m ++ (a ++ t)) (m ++ (b ++ v)) := by
      rw [← List.append_assoc, ← List.append_assoc]
      exact ((hm.ea.append (eqv.refl _ _ t)).trans hst).trans (hm.eb.append (eqv.refl _ _ v)).symm
    exact ((eA.append (eqv.refl _ _ t)).trans g1.cancel).trans (eB.append (eqv.refl _ _ v)).symm
  have hap : apartF (freeP ps) 6 (Lst ps a) (Lst ps b) := hm.ap.congr hm.la hm.lb la6.1 lb6.1 eA eB
  obtain ⟨hcom, r, lr, hr1, hr2⟩ := levi (freeP_symm ps) lb6.1 la6.1 (letters_le hn6 lt') (letters_le hn6 lv) hlev hap
  refine C51b hps hn6 ht (Lst_lettersN hn6 lb) lt' (by omega) (by omega) lr hr1 ?_
  simp only [siV, ext_tuple, pair0, pair1, OP_some]
  refine C51b hps hn6 ht (Lst_lettersN hn6 la) lv (by omega) (by omega) lr hr2 ?_
  simp only [siV, ext_tuple, pair0, pair1, OP_some, bin_neq, decide_true, Bool.not_true, q11z30, GdP_ff, q11z32, iPick_f, q11z34, bin_neqS, q11z36, IfP_false]
  have hyl : (Lst ps a).length ≤ 24 := by omega
  have hzl : (Lst ps b).length ≤ 24 := by omega
  generalize Lst ps a = y at *
  generalize Lst ps b = z at *
  refine loopL (σ := Nat) (fun i => [I i]) (fun _ => hx) (fun i => i ≤ y.length) (fun i => y.length - i) 0 rfl rfl (by omega) ?_
  intro i hi L hL
  rw [q11z41]
  simp only [lenS_S, bin_lss, OP_some, IfP_dec]
  refine ⟨fun hlt => ?_, fun _ => hk _⟩
  have hlt' : i < y.length := by omega
  refine loopL (σ := Nat) (fun i => [I i]) (fun _ => hx) (fun i => i ≤ z.length) (fun i => z.length - i) 0 rfl rfl (by omega) ?_
  intro j hj L2 hL2
  rw [q11z48]
  simp only [lenS_S, bin_lss, OP_some, IfP_dec]
  refine ⟨fun hlt2 => ?_, fun _ => ?_⟩
  · have hlt2' : j < z.length := by omega
    rw [idxS_S y hlt', idxS_S z hlt2']
    simp only [OP_some]
    refine C33 hps hg (by omega) ?_
    rw [(hcom _ (List.getElem_mem hlt') _ (List.getElem_mem hlt2')).2]
    simp only [un_not, OP_some, Bool.not_true, IfP_false, true_and, bin_add, inc j (by omega)]
    exact hL2 (j + 1) (by omega) (by omega)
  · simp only [q11z55, bin_add, OP_some, inc i (by omega), true_and]
    exact hL (i + 1) (by omega) (by omega)

end Go.Proofs.Ytjdlcokhlphmhaa
