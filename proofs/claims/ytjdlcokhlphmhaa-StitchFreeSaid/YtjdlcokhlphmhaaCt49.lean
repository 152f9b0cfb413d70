/-
  The law S8.
-/
import Derived.Test.YtjdlcokhlphmhaaCt48
import Derived.Test.YtjdlcokhlphmhaaSp3
namespace Go.Proofs.Ytjdlcokhlphmhaa
open Go.Sim

theorem freeP_mem {ps : List (Int × Int)} {a b : Nat} (ha : a < 6) (hb : b < 6) (h : ((a : Int), (b : Int)) ∈ ps) : freeP ps (lt a) (lt b) = true ∧ freeP ps (lt b) (lt a) = true := by
  have h1 := lt_toNat (show a < 100 by omega)
  have h2 := lt_toNat (show b < 100 by omega)
  unfold freeP
  constructor
  · rw [List.any_eq_true]
    refine ⟨_, h, ?_⟩
    simp [hit, h1, h2]
  · rw [List.any_eq_true]
    refine ⟨_, h, ?_⟩
    simp [hit, h1, h2]

theorem Lst_none {s : List UInt8} (ls : letters 6 s) : Lst [] s = s := leastF_none (fr := freeP []) (fun _ _ => rfl) (Nat.le_refl 6) s ls

theorem cqL_nil {n : Nat} (h1 : 1 ≤ n) (h6 : n ≤ 6) : cqL (cmOf []) n = [1, n] := by
  have : cmOf [] = fun _ _ => false := by funext a b; rfl
  rw [this]
  exact cqL_none h1 h6

theorem pow6 {n m : Nat} (hn : n ≤ 6) (hm : m ≤ 61) : n ^ m < 10000 ^ 199 := by
  refine Nat.lt_of_le_of_lt (Nat.le_trans (Nat.pow_le_pow_left hn m) (Nat.pow_le_pow_right (by decide) hm)) ?_
  decide +kernel

theorem C7 {a0 a1 : Int} {xv yv : Value} {ns ms : List Int} {h : Heap} {K : Value → Heap → Prop} (h0 : 0 ≤ a0 ∧ a0 < 256) (h1 : 0 ≤ a1 ∧ a1 < 256) (hx : NS h xv .u8 ns) (hu : U8 ns) (hy : NS h yv .u8 ms) (hw : U8 ms)
    (hk : ∀ h', K (B true) h') : CallP Try.prog 7 [.agg #[.int .u8 a0, .int .u8 a1], xv, yv] h K := by
  refine f7 ?_
  obtain ⟨kk, rfl⟩ : ∃ j : Nat, a0 = j := ⟨a0.toNat, by omega⟩
  obtain ⟨mm, rfl⟩ : ∃ j : Nat, a1 = j := ⟨a1.toNat, by omega⟩
  have e4 : iBox 67 h (.agg #[.int .u8 (kk : Int), .int .u8 (mm : Int)]) = some (pt h.length 0, h ++ [.arr 67 [.int .u8 (kk : Int), .int .u8 (mm : Int)]]) := rfl
  simp only [T7, e4, OH_some]
  have x1 : EX h (h ++ [.arr 67 [.int .u8 (kk : Int), .int .u8 (mm : Int)]]) := EX.append _ _
  have m0 : iLoad false 1 (h ++ [.arr 67 [.int .u8 (kk : Int), .int .u8 (mm : Int)]]) (pt h.length 0) = some (.int .u8 (kk : Int)) := load_last rfl
  have m1 : iLoad false 1 (h ++ [.arr 67 [.int .u8 (kk : Int), .int .u8 (mm : Int)]]) (pt h.length 1) = some (.int .u8 (mm : Int)) := load_last rfl
  generalize h ++ [IObj.arr 67 [.int .u8 (kk : Int), .int .u8 (mm : Int)]] = hA at *
  have hx := hx.mono x1
  have hy := hy.mono x1
  have d0 : ∀ i, iAdrArr 2 1 (pt i 0) (.int .i64 0) = some (pt i 0) := fun i => rfl
  have d1 : ∀ i, iAdrArr 2 1 (pt i 0) (.int .i64 1) = some (pt i 1) := fun i => rfl
  have hkk : kk < 256 := by omega
  simp only [d0, d1, OP_some, m0, m1, true_and, conv_int]
  rw [wrap64 (n := (kk : Int)) (by omega) (by omega), wrap64 (n := (mm : Int)) (by omega) (by omega), show (.int .i64 6 : Value) = .int .i64 ((6 : Nat) : Int) from rfl, show (.int .i64 61 : Value) = .int .i64 ((61 : Nat) : Int) from rfl, rem_nat _ _ _ (by omega), rem_nat _ _ _ (by omega)]
  have hr6 : kk % 6 < 6 := Nat.mod_lt _ (by omega)
  have hr61 : mm % 61 < 61 := Nat.mod_lt _ (by omega)
  simp only [OP_some, bin_add, inc (kk % 6) (by omega)]
  obtain ⟨n, hn⟩ : ∃ n, n = kk % 6 + 1 := ⟨_, rfl⟩
  rw [← hn]
  have hn1 : 1 ≤ n := by omega
  have hn6 : n ≤ 6 := by omega
  generalize mm % 61 = m at hr61 ⊢
  refine C31 (most := 20) hn1 hn6 (by omega) hx hu ?_
  intro s ls ls20
  refine C31 (most := 20) hn1 hn6 (by omega) hy hw ?_
  intro t lt' lt20
  have ht0 : threadsOk (n : Int) [] = true := by
    simp only [threadsOk, tlOk, List.all_nil, Bool.true_and, List.length_nil, Bool.and_eq_true, decide_eq_true_eq]
    omega
  have ls6 := letters_le hn6 ls
  have lt6 := letters_le hn6 lt'
  refine C18 (PS.nil _) (by simp) (by omega) (by omega) ?_
  have hw0 : whyE n [] [s, t] 40 = 0 := whyE_zero hn6 ht0 (by intro u hu; simp at hu; rcases hu with rfl | rfl; exact ⟨ls, by omega⟩; exact ⟨lt', by omega⟩)
  rw [equalV_ok hw0, Lst_none ls6, Lst_none lt6]
  simp only [ext_tuple, pair0, pair1, OP_some]
  refine C22 (PS.nil _) (by simp) (fun hc => by
    exfalso
    rcases hc with hc | hc | hc
    · rw [ht0] at hc; cases hc
    · omega
    · omega) ?_
  intro n2 m2 hn2 hm2 _ _ _ _ hB xB
  have hnn : n2 = n := by omega
  have hmm : m2 = m := by omega
  subst hnn hmm
  rw [cqL_nil hn1 hn6, cntF_none]
  simp only [ext_tuple, pair0, pair1, OP_some]
  refine C35 (z := 1) (by decide) ?_
  intro r1 hC xC q1
  obtain ⟨u, w, rfl, hu1, hw1⟩ := q1
  have e5 : iAlloc 50 [(.bool false), (.slice none 0 0), (.bool false), (.slice none 0 0)] hC = some (pt hC.length 0, hC ++ [.arr 50 z4]) := rfl
  simp only [e5, OH_some]
  rw [store4 get_last]
  simp only [OH_some]
  have xD : EX hC ((hC ++ [IObj.arr 50 z4]).set hC.length (.arr 50 [B (decide ((1 : Int) < 0)), u, B (decide ((1 : Int) < 0)), w])) := EX.set (EX.append _ _) (Nat.le_refl _) _
  have kD := set_get (o := .arr 50 [B (decide ((1 : Int) < 0)), u, B (decide ((1 : Int) < 0)), w]) (get_last (h := hC) (o := .arr 50 z4))
  refine loopL (σ := Nat × Value × Value × Heap) (fun p => [I p.1]) (fun p => p.2.2.2)
    (fun p => p.1 ≤ m2 ∧ EX hC p.2.2.2 ∧ p.2.2.2[hC.length]? = some (.arr 50 [B (decide (((n2 ^ p.1 : Nat) : Int) < 0)), p.2.1, B (decide ((1 : Int) < 0)), p.2.2.1]) ∧ MagZ p.2.2.2 p.2.1 (n2 ^ p.1) ∧ MagZ p.2.2.2 p.2.2.1 1) (fun p => m2 - p.1)
    (0, u, w, (hC ++ [IObj.arr 50 z4]).set hC.length (.arr 50 [B (decide ((1 : Int) < 0)), u, B (decide ((1 : Int) < 0)), w])) rfl rfl ⟨Nat.zero_le _, xD, kD, hu1.mono xD, hw1.mono xD⟩ ?_
  rintro ⟨i, u, w, g⟩ ⟨hi, xg, kg, hu2, hw2⟩ L hL
  simp only at hi xg kg hu2 hw2 hL ⊢
  have qg : QZ g (.agg #[B (decide (((n2 ^ i : Nat) : Int) < 0)), u, B (decide ((1 : Int) < 0)), w]) ((n2 ^ i : Nat) : Int) 1 := ⟨u, w, rfl, by rw [Int.natAbs_natCast]; exact hu2, hw2⟩
  have hone : (1 : Int).natAbs < bigW := lt_bigW (by decide +kernel)
  have hpb : ∀ j, j ≤ 61 → n2 ^ j < bigW := fun j hj => big201 (Nat.lt_trans (pow6 hn6 hj) (by decide +kernel))
  rw [q7z11]
  simp only [bin_lss, OP_some, IfP_dec]
  refine ⟨fun hlt => ?_, fun hge => ?_⟩
  · rw [load4 kg]
    simp only [OP_some, true_and]
    refine C35 (by omega) ?_
    intro r3 g3 x3 q3
    refine ⟨⟨EX.load x3 (load4 kg), trivial⟩, ?_⟩
    refine C38 (qg.mono x3) q3 (by rw [Int.natAbs_natCast]; exact hpb i (by omega)) hone (by have := hpb 1 (by omega); rw [Nat.pow_one] at this; simpa using this) hone ?_
    intro r4 g4 x4 q4
    have hmul : ((n2 ^ i : Nat) : Int) * (n2 : Int) = ((n2 ^ (i + 1) : Nat) : Int) := by rw [Nat.pow_succ, Int.natCast_mul]
    rw [hmul, show (1 : Int) * 1 = 1 from rfl] at q4
    obtain ⟨u', w', rfl, hu', hw'⟩ := q4
    rw [Int.natAbs_natCast] at hu'
    have k4 := (x3.trans x4).get kg
    rw [store4 k4]
    simp only [OH_some, bin_add, OP_some, inc i (by omega), true_and]
    exact hL (i + 1, u', w', g4.set hC.length (.arr 50 [B (decide (((n2 ^ (i + 1) : Nat) : Int) < 0)), u', B (decide ((1 : Int) < 0)), w'])) ⟨by show i + 1 ≤ m2; omega, ((xg.trans x3).trans x4).set (Nat.le_refl _) _, set_get k4, hu'.setB k4 _, hw'.setB k4 _⟩ (by show m2 - (i + 1) < m2 - i; omega)
  · have hie : i = m2 := by omega
    subst hie
    rw [q7z16]
    have e6 : iBuild [(.int .u8 (0)), (.int .u16 (0))] [(0, 1, (.int .u8 (kk : Int))), (1, 1, (.int .u16 (65535)))] = some (.agg #[.int .u8 (kk : Int), .int .u16 65535]) := rfl
    simp only [e6, OP_some]
    refine C30a hkk ?_
    rw [← hn]
    intro ps id hx2 ht hall x5 hget
    have hps : PS hx2 (sl 98 id 0 ps.length) ps := PS.sl (by simp [objCells, hget])
    simp only [ext_tuple, pair0, pair1, OP_some]
    refine C41b hps hn6 ht ls (by omega) ?_
    have hfree : allFree (freeP ps) n2 := by
      intro a b ha hb hab
      rcases Nat.lt_or_gt_of_ne hab with hlt | hgt
      · exact (freeP_mem (by omega) (by omega) (hall b a hlt hb)).2
      · exact (freeP_mem (by omega) (by omega) (hall a b hgt ha)).1
    have hsrt := leastF_sorted (n := n2) hn6 hfree s.length s ls
    have hle : leastF (freeP ps) n2 s.length s = Lst ps s := leastF_eq hn6 ls fun _ _ _ _ => rfl
    rw [hle] at hsrt
    have hll : (Lst ps s).length = s.length := (leastF_letters ls6 rfl).2
    generalize Lst ps s = l at hsrt hll
    simp only [siV, ext_tuple, pair0, pair1, OP_some, bin_eqlS, eqb_bool, if_true, beq_self_eq_true, Bool.not_true, q7z22, GdP_ff, bin_neq, decide_true, q7z24, iPick_f, q7z26, q7z28, q7z30]
    have k6 := x5.get kg
    rw [load4 k6]
    simp only [OP_some]
    refine C27 (a := ((n2 ^ i : Nat) : Int)) (qg.mono x5) (by rw [Int.natAbs_natCast]; exact pow6 hn6 (by omega)) ?_
    intro hE xE
    simp only [decide_true, un_not, OP_some, Bool.not_true, q7z32, iPick_f, q7z34, GdP_ff, bin_neq, q7z36, q7z38, lenS_S, hll, q7z40, q7z42]
    refine C20 ?_
    simp only [un_not, OP_some, Bool.not_true, q7z44, iPick_f, IfP_false]
    refine loopL (σ := Nat) (fun j => [I ((j + 1 : Nat) : Int)]) (fun _ => hE) (fun j => j ≤ l.length) (fun j => l.length - j) 0 rfl rfl (Nat.zero_le _) ?_
    intro j hj L2 hL2
    rw [q7z49]
    simp only [lenS_S, OP_some, bin_lss, IfP_dec]
    refine ⟨fun hlt => ?_, fun hge => ?_⟩
    · have hj1 : j + 1 < l.length := by omega
      have ej : IntKind.wrap .i64 (((j + 1 : Nat) : Int) - 1) = ((j : Nat) : Int) := by rw [wrap64 (by omega) (by omega)]; omega
      have i1 := idxS_S (a := l) (i := j) (by omega) .i64
      have i2 := idxS_S (a := l) (i := j + 1) hj1 .i64
      have gt1 : iBin .gtr (cv l[j]) (cv l[j + 1]) = some (B (decide ((l[j + 1].toNat : Int) < (l[j].toNat : Int)))) := rfl
      have hord := List.pairwise_iff_getElem.1 hsrt j (j + 1) (by omega) hj1 (by omega)
      simp only [bin_sub, ej, OP_some, i1, i2, gt1, decide_eq_false (show ¬ (l[j + 1].toNat : Int) < (l[j].toNat : Int) by omega), IfP_false, bin_add, inc (j + 1) (by omega), true_and]
      exact hL2 (j + 1) (by show j + 1 ≤ l.length; omega) (by show l.length - (j + 1) < l.length - j; omega)
    · exact hk _

end Go.Proofs.Ytjdlcokhlphmhaa
