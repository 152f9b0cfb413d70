/-
  Part 7 of the texts behind a statement of this seat: Zq1, Ct41, Zq2, Zq3, Zs1, ZMe4, ZM3, Sim33, Zs4.
-/
import Derived.Test.YtelmdbpaoifmoaaGreatProg
import Derived.KernelRfl
import Derived.Test.YtelmdbpaoifmoaaGreatSidneysZ6
namespace Go.Proofs.YtelmdbpaoifmoaaGreat
open Go.Sim

theorem word_big {b : Nat} (h : b < 4294967296) : b < bigW := lt_bigW (Nat.lt_of_lt_of_le h (by decide))

theorem sgn_neg {a b : Nat} : sgn a b < 0 ↔ a < b := by
  unfold sgn
  constructor
  · intro h
    apply Classical.byContradiction
    intro hn
    rw [if_neg hn] at h
    split at h <;> omega
  · intro h; rw [if_pos h]; decide

theorem C130 {va vb : Value} {a b : Nat} {h : Heap} {K : Value → Heap → Prop} (ha : MagV h va a) (hb : MagV h vb b) (la : a < bigW) (b0 : 0 < b) (lb : b < 4294967296) (hk : ∀ q r h', EX h h' → MagV h' q (a / b) → MagV h' r (a % b) → K (.tuple #[q, r]) h') :
    CallP Tryz.prog 130 [va, vb] h K := by
  refine f130 ?_
  unfold T130
  refine C126 ha hb la (word_big lb) ?_
  simp only [bin_lss, OP_some, IfP_dec]
  refine ⟨fun hlt => ?_, fun hge => ?_⟩
  · have hab := sgn_neg.1 hlt
    have ha0 := ha
    obtain ⟨xs, d, c, rfl⟩ := ha
    obtain ⟨s1, s2⟩ := d.cells
    have lx := canW_len c la
    have hq : ∀ g, MagV g (.slice none 0 0) (val 4294967296 xs / b) := fun g => ⟨[], DS.nil _ _ _, ⟨fun x hx => by simp at hx, by simp⟩, by rw [Nat.div_eq_of_lt hab]; rfl⟩
    by_cases h0 : xs.length = 0
    · have e : iApp 177 1 4 h (.slice none 0 0) va = some (.slice none 0 0, h) := by
        simp only [iApp, s1, s2]
        rw [if_pos h0]
      simp only [e, OH_some]
      have : xs = [] := List.length_eq_zero_iff.1 h0
      subst this
      exact hk _ _ h (EX.refl h) (hq h) ⟨[], DS.nil _ _ _, c, by rw [Nat.mod_eq_of_lt hab]⟩
    · have e : iApp 177 1 4 h (.slice none 0 0) va = some (sl 177 h.length 0 xs.length, h ++ [.arr 177 (xs.map fun d : Nat => Value.int .u32 (d : Int))]) := by
        simp only [iApp, s1, s2]
        rw [if_neg h0, if_pos ⟨by omega, by unfold maxLen; omega⟩]
      simp only [e, OH_some]
      refine hk _ _ _ (EX.append _ _) (hq _) ⟨xs, .inr ⟨h.length, rfl, .inr ⟨[], ?_⟩⟩, c, by rw [Nat.mod_eq_of_lt hab]⟩
      simp [objCells]
  · have hab : b ≤ a := by
      apply Classical.byContradiction
      intro hc
      exact hge (sgn_neg.2 (by omega))
    obtain ⟨ys, d, c, hy⟩ := id hb
    have hlen : ys.length = 1 := by
      have h1 : ys.length ≤ 1 := c.len (k := 1) (by decide) (by rw [hy]; simpa using lb)
      have h2 : ys ≠ [] := by rintro rfl; simp [val] at hy; omega
      have : 0 < ys.length := List.length_pos_iff.2 h2
      omega
    obtain ⟨y, rfl⟩ : ∃ y, ys = [y] := by
      match ys, hlen with
      | [y], _ => exact ⟨y, rfl⟩
    have hyb : y = b := by simpa [val] using hy
    subst hyb
    obtain ⟨i, g1, g2⟩ := d.get (j := 0) (by simp)
    have g1' : iAdrSl 1 vb (.int .i64 (0)) = some (pt i 0) := g1
    have lenb : iLenSl vb = some (I 1) := d.len
    simp only [lenb, OP_some, bin_eql, decide_true, IfP_true, g1', g2, List.getElem_cons_zero]
    refine C114 ha la b0 lb ?_
    intro q h2 x2 hq
    have mk : ∀ (g : Heap) (r : Nat), iMkSl 177 1 [(.int .u32 (0))] g [(0, 1, .int .u32 (r : Int))] = some (sl 177 g.length 0 1, g ++ [.arr 177 [.int .u32 (r : Int)]]) := fun _ _ => rfl
    simp only [ext_tuple, pair0, pair1, OP_some, mk, OH_some]
    have x3 : EX h2 (h2 ++ [.arr 177 [.int .u32 ((a % y : Nat) : Int)]]) := EX.append _ _
    have dr : DS 177 .u32 (h2 ++ [.arr 177 [.int .u32 ((a % y : Nat) : Int)]]) (sl 177 h2.length 0 1) [a % y] := .inr ⟨h2.length, rfl, .inr ⟨[], by simp [objCells]⟩⟩
    have hm : a % y < y := Nat.mod_lt _ b0
    refine C118 dr (fun x hx => by rw [List.mem_singleton.1 hx]; omega) (by simp) ?_
    intro v' hv'
    have e : val 4294967296 [a % y] = a % y := by simp [val]
    rw [e] at hv'
    exact hk _ _ _ (x2.trans x3) (hq.mono x3) hv'

theorem C109 {va : Value} {a : Int} {h : Heap} {K : Value → Heap → Prop} (ha : IntV h va a) (hk : ∀ h', EX h h' → K (I (if a = 0 then 0 else if a < 0 then -1 else 1)) h') : CallP Tryz.prog 109 [va] h K := by
  obtain ⟨v, rfl, hv⟩ := ha
  refine f109 ?_
  have e1 : iBox 105 h (.agg #[B (decide (a < 0)), v]) = some (pt h.length 0, h ++ [.arr 105 [B (decide (a < 0)), v]]) := rfl
  have x1 : EX h (h ++ [.arr 105 [B (decide (a < 0)), v]]) := EX.append _ _
  have l1 : iLoad false 1 (h ++ [IObj.arr 105 [B (decide (a < 0)), v]]) (pt h.length 1) = some v := load_last rfl
  have l0 : iLoad false 1 (h ++ [IObj.arr 105 [B (decide (a < 0)), v]]) (pt h.length 0) = some (B (decide (a < 0))) := load_last rfl
  obtain ⟨l, e2, e3⟩ := hv.len0
  simp only [T109, e1, OH_some, fadr_pt, Nat.zero_add, Nat.add_zero, OP_some, l1, l0, e2, bin_eql, IfP_dec]
  refine ⟨fun hz => ?_, fun hz => ⟨fun hn => ?_, fun hn => ?_⟩⟩
  · have := hk _ x1
    rw [if_pos (by omega)] at this
    exact this
  · have := hk _ x1
    rw [if_neg (by omega), if_pos hn] at this
    exact this
  · have := hk _ x1
    rw [if_neg (by omega), if_neg hn] at this
    exact this

theorem C111 {va vb : Value} {a b : Int} {h : Heap} {K : Value → Heap → Prop} (ha : IntV h va a) (hb : IntV h vb b) (la : a.natAbs < bigW) (lb : b.natAbs < bigW) (hk : ∀ h', EX h h' → K (I (if a - b = 0 then 0 else if a - b < 0 then -1 else 1)) h') : CallP Tryz.prog 111 [va, vb] h K := by
  have ha0 := ha
  have hb0 := hb
  obtain ⟨v, rfl, hv⟩ := ha
  obtain ⟨w, rfl, hw⟩ := hb
  refine f111 ?_
  have e1 : ∀ (g : Heap) (s : Bool) (v : Value), iBox 105 g (.agg #[B s, v]) = some (pt g.length 0, g ++ [.arr 105 [B s, v]]) := fun _ _ _ => rfl
  simp only [T111, e1, OH_some]
  have g0 : (h ++ [IObj.arr 105 [B (decide (a < 0)), v]] ++ [IObj.arr 105 [B (decide (b < 0)), w]])[h.length]? = some (.arr 105 [B (decide (a < 0)), v]) := by simp
  have g1 : (h ++ [IObj.arr 105 [B (decide (a < 0)), v]] ++ [IObj.arr 105 [B (decide (b < 0)), w]])[(h ++ [IObj.arr 105 [B (decide (a < 0)), v]]).length]? = some (.arr 105 [B (decide (b < 0)), w]) := get_last
  have x1 : EX h (h ++ [IObj.arr 105 [B (decide (a < 0)), v]] ++ [IObj.arr 105 [B (decide (b < 0)), w]]) := (EX.append _ _).push _
  generalize h ++ [IObj.arr 105 [B (decide (a < 0)), v]] ++ [IObj.arr 105 [B (decide (b < 0)), w]] = h1 at g0 g1 x1 ⊢
  rw [load2 g0, load2 g1]
  simp only [OP_some]
  refine C127 (ha0.mono x1) (hb0.mono x1) la lb ?_
  intro r h2 x2 hr
  exact C109 hr fun h3 x3 => hk h3 (x1.trans (x2.trans x3))

theorem IntV.nat {h : Heap} {v : Value} {n : Nat} (p : MagV h v n) : IntV h (.agg #[B false, v]) (n : Int) := ⟨v, by rw [decide_eq_false (by omega)], by rwa [Int.natAbs_natCast]⟩

theorem C120 {va vb : Value} {a b : Int} {h : Heap} {K : Value → Heap → Prop} (ha : IntV h va a) (hb : IntV h vb b) (la : a.natAbs < bigW) (lb : b.natAbs < 4294967296) (hk : ∀ r h', EX h h' → IntV h' r (Nat.gcd a.natAbs b.natAbs : Nat) → K r h') : CallP Tryz.prog 120 [va, vb] h K := by
  obtain ⟨v, rfl, hv⟩ := ha
  obtain ⟨w, rfl, hw⟩ := hb
  refine f120 ?_
  unfold T120
  refine box2 ?_
  intro h3 x
  simp only [fadr_pt, Nat.zero_add, OP_some, x.a1, x.b1, true_and]
  refine loopL (σ := Value × Value × Nat × Nat × Heap) (fun q => [q.1, q.2.1]) (fun q => q.2.2.2.2) (fun q => (MagV q.2.2.2.2 q.1 q.2.2.1 ∧ MagV q.2.2.2.2 q.2.1 q.2.2.2.1) ∧ (q.2.2.1 < bigW ∧ q.2.2.2.1 < 4294967296) ∧ Nat.gcd q.2.2.1 q.2.2.2.1 = Nat.gcd a.natAbs b.natAbs ∧ EX h3 q.2.2.2.2) (fun q => q.2.2.2.1)
    (v, w, a.natAbs, b.natAbs, h3) rfl rfl ⟨⟨hv.mono x.ex, hw.mono x.ex⟩, ⟨la, lb⟩, rfl, EX.refl _⟩ ?_
  rintro ⟨vx, vy, m, n, g⟩ ⟨⟨hm, hn⟩, ⟨lm, ln⟩, hg, xg⟩ L hL
  simp only at hm hn lm ln hg xg hL ⊢
  rw [q120z5]
  obtain ⟨l, e1, e2⟩ := hn.len0
  simp only [e1, OP_some, bin_gtr, IfP_dec]
  refine ⟨fun hp => ?_, fun hz => ?_⟩
  · have n0 : 0 < n := e2.1 (by omega)
    refine C130 hm hn lm n0 ln ?_
    intro q r g2 x2 hq hr
    simp only [ext_tuple, pair0, pair1, OP_some, true_and]
    have hmod : m % n < n := Nat.mod_lt _ n0
    refine hL (vy, r, n, m % n, g2) ⟨⟨hn.mono x2, hr⟩, ⟨word_big ln, by show m % n < _; omega⟩, ?_, xg.trans x2⟩ hmod
    show Nat.gcd n (m % n) = _
    rw [← hg, Nat.gcd_comm m n, Nat.gcd_rec n m, Nat.gcd_comm]
  · have n0 : n = 0 := by
      apply Classical.byContradiction
      intro hne
      have := e2.2 (by omega)
      omega
    subst n0
    rw [q120z10]
    rw [Nat.gcd_zero_right] at hg
    refine C117 hm ?_
    intro h5 x5
    have g' := (xg.trans x5).get x.out
    rw [Bool.false_and]
    refine fin2 g' (hk _ _ (((x.ex.trans xg).trans x5).set (by omega) _) ?_)
    rw [← hg]
    exact (IntV.nat (hm.mono x5)).setB g' _

end Go.Proofs.YtelmdbpaoifmoaaGreat


namespace Go.Proofs.YtelmdbpaoifmoaaGreat
open Go.Sim

/-- A fraction of the program. -/
def RatV (h : Heap) (val : Value) (a b : Int) : Prop := ∃ u w, val = .agg #[B (decide (a < 0)), u, B (decide (b < 0)), w] ∧ MagV h u a.natAbs ∧ MagV h w b.natAbs

theorem C90 {u w : Value} {s : Bool} {h : Heap} {K : Value → Heap → Prop} (hw : MagV h w 1) (hk : ∀ h', EX h h' → K (B true) h') : CallP Tryz.prog 90 [.agg #[B s, u, B false, w]] h K := by
  refine f90 ?_
  have e1 : iBox 107 h (.agg #[B s, u, B false, w]) = some (pt h.length 0, h ++ [.arr 107 [B s, u, B false, w]]) := rfl
  simp only [T90, e1, OH_some]
  have x1 : EX h (h ++ [IObj.arr 107 [B s, u, B false, w]]) := EX.append _ _
  have l3 : iLoad false 1 (h ++ [IObj.arr 107 [B s, u, B false, w]]) (pt h.length 3) = some w := load_last rfl
  obtain ⟨xs, dx, cx, vx⟩ := hw.mono x1
  have hx1 : xs = [1] := Canon.unique (by decide) cx ⟨fun y hy => by simp at hy; subst hy; decide, by simp⟩ (by rw [vx]; rfl)
  subst hx1
  obtain ⟨i, g1, g2⟩ := dx.get (j := 0) (by simp)
  have g1' : iAdrSl 1 w (I 0) = some (pt i 0) := g1
  simp only [fadr_pt, Nat.zero_add, Nat.add_zero, OP_some, l3, dx.len, List.length_singleton, bin_eql, q90z4]
  rw [decide_eq_true (show ((1 : Nat) : Int) = 1 by rfl)]
  simp only [GdP_tt, l3, OP_some, g1', g2, bin_eql, q90z6, iPick_t]
  exact hk _ x1

end Go.Proofs.YtelmdbpaoifmoaaGreat


namespace Go.Proofs.YtelmdbpaoifmoaaGreat
open Go.Sim

/-- A division that leaves no rest. -/
theorem C121 {va vb : Value} {a b : Int} {h : Heap} {K : Value → Heap → Prop} (ha : IntV h va a) (hb : IntV h vb b) (la : a.natAbs < bigW) (b0 : 0 < b) (lb : b.natAbs < 4294967296) (hd : b ∣ a) (hk : ∀ r s h', EX h h' → IntV h' r (a / b) → IntV h' s 0 → K (.tuple #[r, s]) h') : CallP Tryz.prog 121 [va, vb] h K := by
  obtain ⟨v, rfl, hv⟩ := ha
  obtain ⟨w, rfl, hw⟩ := hb
  have hsb : decide (b < 0) = false := decide_eq_false (by omega)
  obtain ⟨c, rfl⟩ := hd
  have hdiv : b * c / b = c := Int.mul_ediv_cancel_left c (by omega)
  rw [hdiv] at hk
  have hab : (b * c).natAbs = b.natAbs * c.natAbs := Int.natAbs_mul b c
  have hb0 : 0 < b.natAbs := by omega
  have hq : (b * c).natAbs / b.natAbs = c.natAbs := by rw [hab]; exact Nat.mul_div_cancel_left _ hb0
  have hr : (b * c).natAbs % b.natAbs = 0 := by rw [hab]; exact Nat.mul_mod_right _ _
  have hneg : (decide (b * c < 0) && decide (0 < c.natAbs)) = decide (c < 0) := by
    by_cases hc : c < 0
    · rw [decide_eq_true hc, decide_eq_true (show 0 < c.natAbs by omega), decide_eq_true (Int.mul_neg_of_pos_of_neg b0 hc)]; rfl
    · have : 0 ≤ b * c := Int.mul_nonneg (by omega) (by omega)
      rw [decide_eq_false hc, decide_eq_false (by omega)]; rfl
  refine f121 ?_
  have e1 : ∀ (g : Heap) (s : Bool) (v : Value), iBox 105 g (.agg #[B s, v]) = some (pt g.length 0, g ++ [.arr 105 [B s, v]]) := fun _ _ _ => rfl
  have e2 : ∀ (g : Heap), iAlloc 105 [(.bool false), (.slice none 0 0)] g = some (pt g.length 0, g ++ [.arr 105 [(.bool false), (.slice none 0 0)]]) := fun _ => rfl
  have ob : ∀ {g : Heap} {i : Nat}, g[i]? = some (.arr 105 [(.bool false), (.slice none 0 0)]) → iObj g (pt i 0) = some (.agg #[.int .i64 105, .bool false, .slice none 0 0]) := by
    intro g i hi
    simp [iObj, idOf, hi, encObj, noId]
  rw [hsb]
  simp only [T121, e1, e2, OH_some]
  have q0 : EX h (h ++ [.arr 105 [B (decide (b * c < 0)), v]]) := EX.append _ _
  have p0 : (h ++ [IObj.arr 105 [B (decide (b * c < 0)), v]])[h.length]? = some (.arr 105 [B (decide (b * c < 0)), v]) := get_last
  generalize h ++ [IObj.arr 105 [B (decide (b * c < 0)), v]] = ga at q0 p0 ⊢
  have q1 : EX ga (ga ++ [.arr 105 [B false, w]]) := EX.append _ _
  have p1 : (ga ++ [IObj.arr 105 [B false, w]])[ga.length]? = some (.arr 105 [B false, w]) := get_last
  generalize ga ++ [IObj.arr 105 [B false, w]] = gb at q1 p1 ⊢
  have q2 : EX gb (gb ++ [.arr 105 [(.bool false), (.slice none 0 0)]]) := EX.append _ _
  have p2 : (gb ++ [IObj.arr 105 [(.bool false), (.slice none 0 0)]])[gb.length]? = some (.arr 105 [(.bool false), (.slice none 0 0)]) := get_last
  generalize gb ++ [IObj.arr 105 [(.bool false), (.slice none 0 0)]] = gc at q2 p2 ⊢
  have q3 : EX gc (gc ++ [.arr 105 [(.bool false), (.slice none 0 0)]]) := EX.append _ _
  have p3 : (gc ++ [IObj.arr 105 [(.bool false), (.slice none 0 0)]])[gc.length]? = some (.arr 105 [(.bool false), (.slice none 0 0)]) := get_last
  generalize gc ++ [IObj.arr 105 [(.bool false), (.slice none 0 0)]] = gd at q3 p3 ⊢
  have q13 := q1.trans (q2.trans q3)
  have q03 := q0.trans q13
  have k0 := q13.get p0
  have k1 := (q2.trans q3).get p1
  have k2 := q3.get p2
  have la1 : ∀ {g : Heap}, EX gd g → iLoad false 1 g (pt h.length 1) = some v := fun x => by simp [iLoad, objCells, x.get k0, iPart]
  have la0 : ∀ {g : Heap}, EX gd g → iLoad false 1 g (pt h.length 0) = some (B (decide (b * c < 0))) := fun x => by simp [iLoad, objCells, x.get k0, iPart]
  have lb1 : ∀ {g : Heap}, EX gd g → iLoad false 1 g (pt ga.length 1) = some w := fun x => by simp [iLoad, objCells, x.get k1, iPart]
  have lb0 : ∀ {g : Heap}, EX gd g → iLoad false 1 g (pt ga.length 0) = some (B false) := fun x => by simp [iLoad, objCells, x.get k1, iPart]
  simp only [fadr_pt, Nat.zero_add, Nat.add_zero, OP_some, la1 (EX.refl gd), lb1 (EX.refl gd)]
  refine C130 (hv.mono q03) (hw.mono q03) la hb0 lb ?_
  intro q r g5 x5 mq mr
  rw [hq] at mq
  rw [hr] at mr
  simp only [ext_tuple, pair0, pair1, OP_some]
  have y1 : EX g5 (g5 ++ [.arr 105 [(.bool false), (.slice none 0 0)]]) := EX.append _ _
  have s1 : (g5 ++ [IObj.arr 105 [(.bool false), (.slice none 0 0)]])[g5.length]? = some (.arr 105 [(.bool false), (.slice none 0 0)]) := get_last
  have sl1 : (g5 ++ [IObj.arr 105 [(.bool false), (.slice none 0 0)]]).length = g5.length + 1 := by simp
  generalize g5 ++ [IObj.arr 105 [(.bool false), (.slice none 0 0)]] = g6 at y1 s1 sl1 ⊢
  have y2 : EX g6 (g6 ++ [.arr 105 [(.bool false), (.slice none 0 0)]]) := EX.append _ _
  have s2 : (g6 ++ [IObj.arr 105 [(.bool false), (.slice none 0 0)]])[g6.length]? = some (.arr 105 [(.bool false), (.slice none 0 0)]) := get_last
  generalize g6 ++ [IObj.arr 105 [(.bool false), (.slice none 0 0)]] = g7 at y2 s2 ⊢
  have s1' := y2.get s1
  have y12 := y1.trans y2
  have z5 := x5
  have z6 := x5.trans y1
  have z7 := x5.trans y12
  simp only [ob s1, ob s1', ob s2, OP_some, true_and, la0 z5, la0 z6, la0 z7, lb0 z5, lb0 z6, lb0 z7, eqb_bool, if_true]
  have hx : (!(decide (b * c < 0) == false)) = decide (b * c < 0) := by cases decide (b * c < 0) <;> rfl
  rw [hx]
  refine C117 (mq.mono y12) ?_
  intro g8 x8
  rw [hneg]
  simp only [ob (x8.get s1'), ob (x8.get s2), true_and, la0 (z7.trans x8), OP_some]
  refine C117 ((mr.mono y12).mono x8) ?_
  intro g9 x9
  have x89 := x8.trans x9
  have t1 := x89.get s1'
  have t2 := x89.get s2
  have hne : g5.length ≠ g6.length := by omega
  simp only [ob t1, ob t2, true_and, decide_eq_false (show ¬ (0 < 0) by decide), Bool.and_false]
  rw [store2 t1]
  simp only [OH_some]
  have t2' : (g9.set g5.length (.arr 105 [B (decide (c < 0)), q]))[g6.length]? = some (.arr 105 [(.bool false), (.slice none 0 0)]) := by rw [List.getElem?_set_ne hne]; exact t2
  rw [store2 t2']
  simp only [OH_some]
  obtain ⟨l, l1, l2⟩ := mr.len0
  have l0 : l = 0 := by
    apply Classical.byContradiction
    intro hc
    have := l2.1 (by omega)
    omega
  subst l0
  simp only [l1, OP_some, bin_gtr]
  rw [decide_eq_false (show ¬ ((0 : Int) < ((0 : Nat) : Int)) by decide)]
  rw [q121z7]
  simp only [GdP_ft]
  rw [q121z9]
  have pk : iPick (B false) undef (.bool false) = some (B false) := rfl
  simp only [pk, OP_some, IfP_false]
  rw [q121z10]
  have u1 : ((g9.set g5.length (.arr 105 [B (decide (c < 0)), q])).set g6.length (.arr 105 [B false, r]))[g5.length]? = some (.arr 105 [B (decide (c < 0)), q]) := by
    rw [List.getElem?_set_ne (fun e => hne e.symm)]; exact set_get t1
  have u2 : ((g9.set g5.length (.arr 105 [B (decide (c < 0)), q])).set g6.length (.arr 105 [B false, r]))[g6.length]? = some (.arr 105 [B false, r]) := set_get t2'
  have hgd : gd.length ≤ g5.length := x5.1
  have hx0 : EX h ((g9.set g5.length (.arr 105 [B (decide (c < 0)), q])).set g6.length (.arr 105 [B false, r])) :=
    (((q03.trans z7).trans x89).set (by have := q03.1; omega) _).set (by have := q03.1; omega) _
  have lgb : gb.length < gd.length := by
    have := (List.getElem?_eq_some_iff.1 k2).1; exact this
  have lgc : gc.length < gd.length := (List.getElem?_eq_some_iff.1 p3).1
  have w2 : ((g9.set g5.length (.arr 105 [B (decide (c < 0)), q])).set g6.length (.arr 105 [B false, r]))[gb.length]? = some (.arr 105 [(.bool false), (.slice none 0 0)]) := by
    rw [List.getElem?_set_ne (by omega), List.getElem?_set_ne (by omega)]; exact (z7.trans x89).get k2
  have w3 : ((g9.set g5.length (.arr 105 [B (decide (c < 0)), q])).set g6.length (.arr 105 [B false, r]))[gc.length]? = some (.arr 105 [(.bool false), (.slice none 0 0)]) := by
    rw [List.getElem?_set_ne (by omega), List.getElem?_set_ne (by omega)]; exact (z7.trans x89).get p3
  have mqf : MagV ((g9.set g5.length (.arr 105 [B (decide (c < 0)), q])).set g6.length (.arr 105 [B false, r])) q c.natAbs := (((mq.mono y12).mono x89).setB t1 _).setB t2' _
  have mrf : MagV ((g9.set g5.length (.arr 105 [B (decide (c < 0)), q])).set g6.length (.arr 105 [B false, r])) r 0 := (((mr.mono y12).mono x89).setB t1 _).setB t2' _
  generalize (g9.set g5.length (.arr 105 [B (decide (c < 0)), q])).set g6.length (.arr 105 [B false, r]) = gz at u1 u2 hx0 w2 w3 mqf mrf ⊢
  rw [load2 u1, load2 u2]
  simp only [OP_some, true_and]
  rw [store2 w2]
  simp only [OH_some]
  have hbc : gb.length ≠ gc.length := by
    have := (List.getElem?_eq_some_iff.1 p2).1; omega
  have u2' : (gz.set gb.length (.arr 105 [B (decide (c < 0)), q]))[g6.length]? = some (.arr 105 [B false, r]) := by rw [List.getElem?_set_ne (by omega)]; exact u2
  have w3' : (gz.set gb.length (.arr 105 [B (decide (c < 0)), q]))[gc.length]? = some (.arr 105 [(.bool false), (.slice none 0 0)]) := by rw [List.getElem?_set_ne hbc]; exact w3
  rw [load2 u2', store2 w3']
  simp only [true_and, OH_some]
  have n2 : ((gz.set gb.length (.arr 105 [B (decide (c < 0)), q])).set gc.length (.arr 105 [B false, r]))[gb.length]? = some (.arr 105 [B (decide (c < 0)), q]) := by
    rw [List.getElem?_set_ne (fun e => hbc e.symm)]; exact set_get w2
  rw [load2 n2, load2 (set_get w3')]
  simp only [OP_some]
  have hlb : h.length ≤ gb.length := (q0.trans q1).1
  refine hk _ _ _ ((hx0.set hlb _).set (by have := (List.getElem?_eq_some_iff.1 p2).1; omega) _) ⟨q, rfl, (mqf.setB w2 _).setB w3' _⟩ ⟨r, rfl, (mrf.setB w2 _).setB w3' _⟩

theorem RatV.mono {h h' : Heap} {v : Value} {a b : Int} (x : EX h h') (p : RatV h v a b) : RatV h' v a b := let ⟨u, w, e, m, n⟩ := p; ⟨u, w, e, m.mono x, n.mono x⟩
theorem RatV.setB {h : Heap} {v : Value} {a b : Int} {j : Nat} {e : TypeId} {s : Bool} {r : List Value} (p : RatV h v a b) (hj : h[j]? = some (.arr e (.bool s :: r))) (o : IObj) : RatV (h.set j o) v a b :=
  let ⟨u, w, e, m, n⟩ := p; ⟨u, w, e, m.setB hj o, n.setB hj o⟩

/-- Two integers put together, and the place that they go to. -/
theorem endR {h h' : Heap} {j : Nat} {va vb : Value} {a b : Int} {K : Value → Heap → Prop} (ha : IntV h' va a) (hb : IntV h' vb b) (x : EX h h') (hj : h.length ≤ j) (hg : h'[j]? = some (.arr 107 z4)) (hk : ∀ r h', EX h h' → RatV h' r a b → K r h') :
    OP (iBuild [(.bool false), (.slice none 0 0), (.bool false), (.slice none 0 0)] [(0, 2, va), (2, 2, vb)]) fun x25 => OH (oStore 4 h' (pt j 0) x25) fun _ h_6 => OP (iLoad true 4 h_6 (pt j 0)) fun r0 => K r0 h_6 := by
  obtain ⟨v, rfl, hv⟩ := ha
  obtain ⟨w, rfl, hw⟩ := hb
  obtain ⟨xs, dx, _⟩ := id hv
  obtain ⟨ys, dy, _⟩ := id hw
  rw [build4 dx dy]
  simp only [OP_some]
  exact fin4 hg (hk _ _ (x.set hj _) ⟨v, w, rfl, hv.setB hg _, hw.setB hg _⟩)

theorem C75 {n : Int} {h : Heap} {K : Value → Heap → Prop} (h1 : -9223372036854775808 ≤ n) (h2 : n < 9223372036854775808) (hk : ∀ r h', EX h h' → RatV h' r n 1 → K r h') : CallP Tryz.prog 75 [I n] h K := by
  refine f75 ?_
  have e1 : iAlloc 107 [(.bool false), (.slice none 0 0), (.bool false), (.slice none 0 0)] h = some (pt h.length 0, h ++ [.arr 107 z4]) := rfl
  simp only [T75, e1, OH_some]
  have x0 : EX h (h ++ [.arr 107 z4]) := EX.append _ _
  have g0 : (h ++ [IObj.arr 107 z4])[h.length]? = some (.arr 107 z4) := get_last
  generalize h ++ [IObj.arr 107 z4] = ga at x0 g0 ⊢
  refine C105 h1 h2 ?_
  intro r h3 x3 i3
  refine C105 (by decide) (by decide) ?_
  intro s h4 x4 i4
  exact endR (i3.mono x4) i4 (x0.trans (x3.trans x4)) (Nat.le_refl _) ((x3.trans x4).get g0) hk

theorem gcd_small {a b : Int} (b0 : 0 < b) : 0 < (Nat.gcd a.natAbs b.natAbs : Int) ∧ (Nat.gcd a.natAbs b.natAbs : Int) ≤ b := by
  have h1 : 0 < Nat.gcd a.natAbs b.natAbs := Nat.gcd_pos_of_pos_right _ (by omega)
  have h2 : Nat.gcd a.natAbs b.natAbs ≤ b.natAbs := Nat.gcd_le_right _ (by omega)
  omega

/-- A fraction in lowest terms, if the lower number has one digit. -/
theorem C106 {va vb : Value} {a b : Int} {h : Heap} {K : Value → Heap → Prop} (ha : IntV h va a) (hb : IntV h vb b) (la : a.natAbs < bigW) (b0 : 0 < b) (lb : b.natAbs < 4294967296)
    (hk : ∀ r h', EX h h' → RatV h' r (a / (Nat.gcd a.natAbs b.natAbs : Int)) (b / (Nat.gcd a.natAbs b.natAbs : Int)) → K r h') : CallP Tryz.prog 106 [va, vb] h K := by
  obtain ⟨v, rfl, hv⟩ := ha
  obtain ⟨w, rfl, hw⟩ := hb
  have hsb : decide (b < 0) = false := decide_eq_false (by omega)
  obtain ⟨g1p, g1le⟩ := gcd_small (a := a) b0
  have hda : (Nat.gcd a.natAbs b.natAbs : Int) ∣ a := Int.gcd_dvd_left ..
  have hdb : (Nat.gcd a.natAbs b.natAbs : Int) ∣ b := Int.gcd_dvd_right ..
  refine f106 ?_
  have e1 : ∀ (g : Heap) (s : Bool) (v : Value), iBox 105 g (.agg #[B s, v]) = some (pt g.length 0, g ++ [.arr 105 [B s, v]]) := fun _ _ _ => rfl
  have e2 : ∀ (g : Heap), iAlloc 105 [(.bool false), (.slice none 0 0)] g = some (pt g.length 0, g ++ [.arr 105 [(.bool false), (.slice none 0 0)]]) := fun _ => rfl
  have e3 : ∀ (g : Heap), iAlloc 107 [(.bool false), (.slice none 0 0), (.bool false), (.slice none 0 0)] g = some (pt g.length 0, g ++ [.arr 107 z4]) := fun _ => rfl
  simp only [T106, e1, e3, OH_some]
  have q0 : EX h (h ++ [.arr 105 [B (decide (a < 0)), v]]) := EX.append _ _
  have p0 : (h ++ [IObj.arr 105 [B (decide (a < 0)), v]])[h.length]? = some (.arr 105 [B (decide (a < 0)), v]) := get_last
  generalize h ++ [IObj.arr 105 [B (decide (a < 0)), v]] = ga at q0 p0 ⊢
  have q1 : EX ga (ga ++ [.arr 105 [B (decide (b < 0)), w]]) := EX.append _ _
  have p1 : (ga ++ [IObj.arr 105 [B (decide (b < 0)), w]])[ga.length]? = some (.arr 105 [B (decide (b < 0)), w]) := get_last
  generalize ga ++ [IObj.arr 105 [B (decide (b < 0)), w]] = gb at q1 p1 ⊢
  have q2 : EX gb (gb ++ [.arr 107 z4]) := EX.append _ _
  have p2 : (gb ++ [IObj.arr 107 z4])[gb.length]? = some (.arr 107 z4) := get_last
  generalize gb ++ [IObj.arr 107 z4] = gc at q2 p2 ⊢
  have k0 := (q1.trans q2).get p0
  have k1 := q2.get p1
  have x0 := q0.trans (q1.trans q2)
  have hlb : h.length ≤ gb.length := (q0.trans q1).1
  have ldn : ∀ {g : Heap}, EX gc g → iLoad true 2 g (pt h.length 0) = some (.agg #[B (decide (a < 0)), v]) := fun x => load2 (x.get k0)
  have ldd : ∀ {g : Heap}, EX gc g → iLoad true 2 g (pt ga.length 0) = some (.agg #[B (decide (b < 0)), w]) := fun x => load2 (x.get k1)
  have iva : ∀ {g : Heap}, EX gc g → IntV g (.agg #[B (decide (a < 0)), v]) a := fun x => ⟨v, rfl, hv.mono (x0.trans x)⟩
  have ivb : ∀ {g : Heap}, EX gc g → IntV g (.agg #[B (decide (b < 0)), w]) b := fun x => ⟨w, rfl, hw.mono (x0.trans x)⟩
  have l1 : iLoad false 1 gc (pt ga.length 0) = some (B (decide (b < 0))) := by simp [iLoad, objCells, k1, iPart]
  simp only [fadr_pt, Nat.add_zero, OP_some, l1]
  rw [hsb]
  simp only [IfP_false]
  rw [q106z4]
  rw [ldn (EX.refl gc), ldd (EX.refl gc)]
  simp only [OP_some]
  refine C120 (iva (EX.refl gc)) (ivb (EX.refl gc)) la lb ?_
  intro r g3 x3 ir
  simp only [e2, OH_some]
  have y4 : EX g3 (g3 ++ [.arr 105 [(.bool false), (.slice none 0 0)]]) := EX.append _ _
  have s4 : (g3 ++ [IObj.arr 105 [(.bool false), (.slice none 0 0)]])[g3.length]? = some (.arr 105 [(.bool false), (.slice none 0 0)]) := get_last
  generalize g3 ++ [IObj.arr 105 [(.bool false), (.slice none 0 0)]] = g4 at y4 s4 ⊢
  obtain ⟨u, rfl, hu⟩ := ir
  have hu4 := (hu.mono y4).setB s4 (.arr 105 [B (decide ((Nat.gcd a.natAbs b.natAbs : Int) < 0)), u])
  rw [store2 s4]
  simp only [OH_some]
  have hgl : gc.length ≤ g3.length := x3.1
  have x5 : EX gc (g4.set g3.length (.arr 105 [B (decide ((Nat.gcd a.natAbs b.natAbs : Int) < 0)), u])) := (x3.trans y4).set hgl _
  have s5 : (g4.set g3.length (.arr 105 [B (decide ((Nat.gcd a.natAbs b.natAbs : Int) < 0)), u]))[g3.length]? = some (.arr 105 [B (decide ((Nat.gcd a.natAbs b.natAbs : Int) < 0)), u]) := set_get s4
  generalize g4.set g3.length (.arr 105 [B (decide ((Nat.gcd a.natAbs b.natAbs : Int) < 0)), u]) = g5 at x5 s5 hu4 ⊢
  have ig : ∀ {g : Heap}, EX g5 g → IntV g (.agg #[B (decide ((Nat.gcd a.natAbs b.natAbs : Int) < 0)), u]) (Nat.gcd a.natAbs b.natAbs : Int) := fun x => ⟨u, rfl, hu4.mono x⟩
  rw [load2 s5]
  simp only [OP_some, true_and]
  refine C105 (by decide) (by decide) ?_
  intro one g6 x6 i1
  rw [load2 (x6.get s5)]
  simp only [true_and]
  have lgW : ((Nat.gcd a.natAbs b.natAbs : Int)).natAbs < 4294967296 := by rw [Int.natAbs_natCast]; have := Nat.gcd_le_right a.natAbs (show 0 < b.natAbs by omega); omega
  refine C111 (ig x6) i1 (word_big lgW) (by rw [show (1 : Int).natAbs = 1 from rfl]; exact word_big (by decide)) ?_
  intro g7 x7
  have x57 := x6.trans x7
  have xc7 := x5.trans x57
  simp only [bin_eql, OP_some, IfP_dec]
  refine ⟨fun h1 => ?_, fun h1 => ?_⟩
  · have hg1 : (Nat.gcd a.natAbs b.natAbs : Int) = 1 := by
      split at h1
      · omega
      · split at h1 <;> omega
    rw [ldn xc7, ldd xc7]
    simp only [OP_some]
    rw [hg1, Int.ediv_one, Int.ediv_one] at hk
    exact endR (iva xc7) (ivb xc7) (x0.trans xc7) hlb (xc7.get p2) hk
  · rw [ldn xc7, load2 (x57.get s5)]
    simp only [OP_some]
    refine C121 (iva xc7) (ig x57) la g1p lgW hda ?_
    intro rn sn g8 x8 irn isn
    simp only [ext_tuple, pair0, pair1, OP_some, e2, OH_some]
    have y9 : EX g8 (g8 ++ [.arr 105 [(.bool false), (.slice none 0 0)]]) := EX.append _ _
    have s9 : (g8 ++ [IObj.arr 105 [(.bool false), (.slice none 0 0)]])[g8.length]? = some (.arr 105 [(.bool false), (.slice none 0 0)]) := get_last
    generalize g8 ++ [IObj.arr 105 [(.bool false), (.slice none 0 0)]] = g9 at y9 s9 ⊢
    have y10 : EX g9 (g9 ++ [.arr 105 [(.bool false), (.slice none 0 0)]]) := EX.append _ _
    have s10 : (g9 ++ [IObj.arr 105 [(.bool false), (.slice none 0 0)]])[g9.length]? = some (.arr 105 [(.bool false), (.slice none 0 0)]) := get_last
    generalize g9 ++ [IObj.arr 105 [(.bool false), (.slice none 0 0)]] = g10 at y10 s10 ⊢
    have s9' := y10.get s9
    obtain ⟨qn, rfl, hqn⟩ := irn
    obtain ⟨zn, rfl, hzn⟩ := isn
    have h98 : g8.length ≠ g9.length := by have := (List.getElem?_eq_some_iff.1 s9).1; omega
    rw [store2 s9']
    simp only [OH_some]
    have t10 : (g10.set g8.length (.arr 105 [B (decide (a / (Nat.gcd a.natAbs b.natAbs : Int) < 0)), qn]))[g9.length]? = some (.arr 105 [(.bool false), (.slice none 0 0)]) := by rw [List.getElem?_set_ne h98]; exact s10
    have t9 : (g10.set g8.length (.arr 105 [B (decide (a / (Nat.gcd a.natAbs b.natAbs : Int) < 0)), qn]))[g8.length]? = some (.arr 105 [B (decide (a / (Nat.gcd a.natAbs b.natAbs : Int) < 0)), qn]) := set_get s9'
    have x810 := y9.trans y10
    have hqn2 := (hqn.mono x810).setB s9' (.arr 105 [B (decide (a / (Nat.gcd a.natAbs b.natAbs : Int) < 0)), qn])
    have xc8 := xc7.trans x8
    have x58 := x57.trans x8
    have xs1 : EX g8 (g10.set g8.length (.arr 105 [B (decide (a / (Nat.gcd a.natAbs b.natAbs : Int) < 0)), qn])) := x810.set (Nat.le_refl _) _
    generalize g10.set g8.length (.arr 105 [B (decide (a / (Nat.gcd a.natAbs b.natAbs : Int) < 0)), qn]) = g11 at t10 t9 hqn2 xs1 ⊢
    rw [store2 t10]
    simp only [OH_some]
    have t9' : (g11.set g9.length (.arr 105 [B (decide ((0 : Int) < 0)), zn]))[g8.length]? = some (.arr 105 [B (decide (a / (Nat.gcd a.natAbs b.natAbs : Int) < 0)), qn]) := by rw [List.getElem?_set_ne (fun e => h98 e.symm)]; exact t9
    have hqn3 := hqn2.setB t10 (.arr 105 [B (decide ((0 : Int) < 0)), zn])
    have h89 : g8.length ≤ g9.length := by have := (List.getElem?_eq_some_iff.1 s9).1; omega
    have xs2 : EX g8 (g11.set g9.length (.arr 105 [B (decide ((0 : Int) < 0)), zn])) := xs1.set h89 _
    generalize g11.set g9.length (.arr 105 [B (decide ((0 : Int) < 0)), zn]) = g12 at t9' hqn3 xs2 ⊢
    rw [ldd (xc8.trans xs2), load2 ((x58.trans xs2).get s5)]
    simp only [OP_some]
    refine C121 (ivb (xc8.trans xs2)) (ig (x58.trans xs2)) (word_big lb) g1p lgW hdb ?_
    intro rd sd g13 x13 ird isd
    simp only [ext_tuple, pair0, pair1, OP_some]
    have y14 : EX g13 (g13 ++ [.arr 105 [(.bool false), (.slice none 0 0)]]) := EX.append _ _
    have s14 : (g13 ++ [IObj.arr 105 [(.bool false), (.slice none 0 0)]])[g13.length]? = some (.arr 105 [(.bool false), (.slice none 0 0)]) := get_last
    generalize g13 ++ [IObj.arr 105 [(.bool false), (.slice none 0 0)]] = g14 at y14 s14 ⊢
    have y15 : EX g14 (g14 ++ [.arr 105 [(.bool false), (.slice none 0 0)]]) := EX.append _ _
    have s15 : (g14 ++ [IObj.arr 105 [(.bool false), (.slice none 0 0)]])[g14.length]? = some (.arr 105 [(.bool false), (.slice none 0 0)]) := get_last
    generalize g14 ++ [IObj.arr 105 [(.bool false), (.slice none 0 0)]] = g15 at y15 s15 ⊢
    have s14' := y15.get s14
    obtain ⟨qd, rfl, hqd⟩ := ird
    obtain ⟨zd, rfl, hzd⟩ := isd
    have h1314 : g13.length ≠ g14.length := by have := (List.getElem?_eq_some_iff.1 s14).1; omega
    rw [store2 s14']
    simp only [OH_some]
    have x1315 := y14.trans y15
    have t15 : (g15.set g13.length (.arr 105 [B (decide (b / (Nat.gcd a.natAbs b.natAbs : Int) < 0)), qd]))[g14.length]? = some (.arr 105 [(.bool false), (.slice none 0 0)]) := by rw [List.getElem?_set_ne h1314]; exact s15
    have t14 : (g15.set g13.length (.arr 105 [B (decide (b / (Nat.gcd a.natAbs b.natAbs : Int) < 0)), qd]))[g13.length]? = some (.arr 105 [B (decide (b / (Nat.gcd a.natAbs b.natAbs : Int) < 0)), qd]) := set_get s14'
    have hqd2 := (hqd.mono x1315).setB s14' (.arr 105 [B (decide (b / (Nat.gcd a.natAbs b.natAbs : Int) < 0)), qd])
    have xs3 : EX g13 (g15.set g13.length (.arr 105 [B (decide (b / (Nat.gcd a.natAbs b.natAbs : Int) < 0)), qd])) := x1315.set (Nat.le_refl _) _
    generalize g15.set g13.length (.arr 105 [B (decide (b / (Nat.gcd a.natAbs b.natAbs : Int) < 0)), qd]) = g16 at t15 t14 hqd2 xs3 ⊢
    rw [store2 t15]
    simp only [OH_some]
    have t14' : (g16.set g14.length (.arr 105 [B (decide ((0 : Int) < 0)), zd]))[g13.length]? = some (.arr 105 [B (decide (b / (Nat.gcd a.natAbs b.natAbs : Int) < 0)), qd]) := by rw [List.getElem?_set_ne (fun e => h1314 e.symm)]; exact t14
    have hqd3 := hqd2.setB t15 (.arr 105 [B (decide ((0 : Int) < 0)), zd])
    have h13 : g13.length ≤ g14.length := by have := (List.getElem?_eq_some_iff.1 s14).1; omega
    have xs4 : EX g13 (g16.set g14.length (.arr 105 [B (decide ((0 : Int) < 0)), zd])) := xs3.set h13 _
    generalize g16.set g14.length (.arr 105 [B (decide ((0 : Int) < 0)), zd]) = g17 at t14' hqd3 xs4 ⊢
    rw [load2 ((x13.trans xs4).get t9'), load2 t14']
    simp only [OP_some]
    have xfin := xc8.trans (xs2.trans (x13.trans xs4))
    exact endR ⟨qn, rfl, hqn3.mono (x13.trans xs4)⟩ ⟨qd, rfl, hqd3⟩ (x0.trans xfin) hlb (xfin.get p2) hk

end Go.Proofs.YtelmdbpaoifmoaaGreat


namespace Go.Proofs.YtelmdbpaoifmoaaGreat
open Go.Sim

/-- The quotient of two fractions. -/
theorem C77 {va vb : Value} {a b c d : Int} {h : Heap} {K : Value → Heap → Prop} (ha : RatV h va a b) (hb : RatV h vb c d) (la : a.natAbs < bigW) (lb : b.natAbs < bigW) (lc : c.natAbs < bigW) (ld : d.natAbs < bigW) (lad : (a * d).natAbs < bigW) (b0 : 0 < b * c) (lbc : (b * c).natAbs < 4294967296)
    (hk : ∀ r h', EX h h' → RatV h' r (a * d / (Nat.gcd (a * d).natAbs (b * c).natAbs : Int)) (b * c / (Nat.gcd (a * d).natAbs (b * c).natAbs : Int)) → K r h') : CallP Tryz.prog 77 [va, vb] h K := by
  obtain ⟨u, w, rfl, hu, hw⟩ := ha
  obtain ⟨u2, w2, rfl, hu2, hw2⟩ := hb
  refine f77 ?_
  have e1 : ∀ (g : Heap) (s t : Bool) (v w : Value), iBox 107 g (.agg #[B s, v, B t, w]) = some (pt g.length 0, g ++ [.arr 107 [B s, v, B t, w]]) := fun _ _ _ _ _ => rfl
  have e3 : ∀ (g : Heap), iAlloc 107 [(.bool false), (.slice none 0 0), (.bool false), (.slice none 0 0)] g = some (pt g.length 0, g ++ [.arr 107 z4]) := fun _ => rfl
  simp only [T77, e1, e3, OH_some]
  have q0 : EX h (h ++ [.arr 107 [B (decide (a < 0)), u, B (decide (b < 0)), w]]) := EX.append _ _
  have p0 : (h ++ [IObj.arr 107 [B (decide (a < 0)), u, B (decide (b < 0)), w]])[h.length]? = some (.arr 107 [B (decide (a < 0)), u, B (decide (b < 0)), w]) := get_last
  generalize h ++ [IObj.arr 107 [B (decide (a < 0)), u, B (decide (b < 0)), w]] = ga at q0 p0 ⊢
  have q1 : EX ga (ga ++ [.arr 107 [B (decide (c < 0)), u2, B (decide (d < 0)), w2]]) := EX.append _ _
  have p1 : (ga ++ [IObj.arr 107 [B (decide (c < 0)), u2, B (decide (d < 0)), w2]])[ga.length]? = some (.arr 107 [B (decide (c < 0)), u2, B (decide (d < 0)), w2]) := get_last
  generalize ga ++ [IObj.arr 107 [B (decide (c < 0)), u2, B (decide (d < 0)), w2]] = gb at q1 p1 ⊢
  have q2 : EX gb (gb ++ [.arr 107 z4]) := EX.append _ _
  have p2 : (gb ++ [IObj.arr 107 z4])[gb.length]? = some (.arr 107 z4) := get_last
  generalize gb ++ [IObj.arr 107 z4] = gc at q2 p2 ⊢
  have k0 := (q1.trans q2).get p0
  have k1 := q2.get p1
  have x0 := q0.trans (q1.trans q2)
  have hlb : h.length ≤ gb.length := (q0.trans q1).1
  simp only [fadr_pt, Nat.zero_add, OP_some]
  rw [load4a k0, load4b k1]
  simp only [OP_some, true_and]
  refine C107 (a := a) (b := d) ⟨u, rfl, hu.mono x0⟩ ⟨w2, rfl, hw2.mono x0⟩ la ld ?_
  intro r1 g4 x4 i1
  rw [load4b (x4.get k0), load4a (x4.get k1)]
  simp only [load4b k0, load4a k1, OP_some, true_and]
  refine C107 (a := b) (b := c) ⟨w, rfl, (hw.mono x0).mono x4⟩ ⟨u2, rfl, (hu2.mono x0).mono x4⟩ lb lc ?_
  intro r2 g5 x5 i2
  refine C106 (i1.mono x5) i2 lad b0 lbc ?_
  intro r g6 x6 ir
  have x46 := x4.trans (x5.trans x6)
  have g2 := x46.get p2
  obtain ⟨y, z, rfl, hy, hz⟩ := ir
  exact fin4 g2 (hk _ _ ((x0.trans x46).set hlb _) ⟨y, z, rfl, hy.setB g2 _, hz.setB g2 _⟩)

theorem C90q {u w : Value} {s : Bool} {b : Nat} {h : Heap} {K : Value → Heap → Prop} (hw : MagV h w b) (lb : b < bigW) (hk : ∀ h', EX h h' → K (B (decide (b = 1))) h') : CallP Tryz.prog 90 [.agg #[B s, u, B false, w]] h K := by
  by_cases h1 : b = 1
  · subst h1
    exact C90 hw hk
  rw [decide_eq_false h1] at hk
  refine f90 ?_
  have e1 : iBox 107 h (.agg #[B s, u, B false, w]) = some (pt h.length 0, h ++ [.arr 107 [B s, u, B false, w]]) := rfl
  simp only [T90, e1, OH_some]
  have x1 : EX h (h ++ [IObj.arr 107 [B s, u, B false, w]]) := EX.append _ _
  have l3 : iLoad false 1 (h ++ [IObj.arr 107 [B s, u, B false, w]]) (pt h.length 3) = some w := load_last rfl
  obtain ⟨xs, dx, cx, vx⟩ := hw.mono x1
  simp only [fadr_pt, Nat.zero_add, OP_some, l3, dx.len, bin_eql]
  by_cases hl : xs.length = 1
  · obtain ⟨y, rfl⟩ : ∃ y, xs = [y] := by
      match xs, hl with
      | [y], _ => exact ⟨y, rfl⟩
    have hy : y = b := by simpa [val] using vx
    subst hy
    obtain ⟨i, g1, g2⟩ := dx.get (j := 0) (by simp)
    have g1' : iAdrSl 1 w (.int .i64 (0)) = some (pt i 0) := g1
    rw [decide_eq_true (show ((([y] : List Nat).length : Nat) : Int) = 1 from rfl), q90z4]
    simp only [GdP_tt, fadr_pt, Nat.zero_add, OP_some, l3, g1', g2, List.getElem_cons_zero, bin_eql]
    rw [decide_eq_false (show ¬ ((y : Int) = 1) by omega), q90z6]
    simp only [iPick_t, OP_some]
    exact hk _ x1
  · rw [decide_eq_false (show ¬ ((xs.length : Int) = 1) by omega), q90z4]
    simp only [GdP_ft]
    rw [q90z6]
    simp only [iPick_f, OP_some]
    exact hk _ x1

/-- A fraction as a text. -/
def ratS (a b : Int) : List UInt8 := if b = 1 then numS a else numS a ++ 47 :: decS b.natAbs

theorem numS_len {a : Int} (la : a.natAbs < bigW) : (numS a).length ≤ 1001 := by
  have := (decS_facts la).2.2.1
  unfold numS
  split <;> simp <;> omega

theorem C45q {va : Value} {a b : Int} {h : Heap} {K : Value → Heap → Prop} (ha : RatV h va a b) (b0 : 0 < b) (la : a.natAbs < bigW) (lb : b.natAbs < bigW) (hk : ∀ h', EX h h' → K (.tuple #[S (ratS a b), I 0]) h') : CallP Tryz.prog 45 [va] h K := by
  obtain ⟨u, w, rfl, hu, hw⟩ := ha
  have hsb : decide (b < 0) = false := decide_eq_false (by omega)
  rw [hsb]
  refine f45 ?_
  have e1 : iBox 107 h (.agg #[B (decide (a < 0)), u, B false, w]) = some (pt h.length 0, h ++ [.arr 107 [B (decide (a < 0)), u, B false, w]]) := rfl
  simp only [T45, e1, OH_some]
  have x1 : EX h (h ++ [IObj.arr 107 [B (decide (a < 0)), u, B false, w]]) := EX.append _ _
  have l1 : iLoad false 1 (h ++ [IObj.arr 107 [B (decide (a < 0)), u, B false, w]]) (pt h.length 1) = some u := load_last rfl
  have l0 : iLoad false 1 (h ++ [IObj.arr 107 [B (decide (a < 0)), u, B false, w]]) (pt h.length 0) = some (B (decide (a < 0))) := load_last rfl
  have g0 : (h ++ [IObj.arr 107 [B (decide (a < 0)), u, B false, w]])[h.length]? = some (.arr 107 [B (decide (a < 0)), u, B false, w]) := get_last
  generalize h ++ [IObj.arr 107 [B (decide (a < 0)), u, B false, w]] = h1 at x1 l1 l0 g0 ⊢
  obtain ⟨d1, d2, d3, d4, d5⟩ := decS_facts la
  obtain ⟨c1, c2, c3, c4, c5⟩ := decS_facts lb
  simp only [fadr_pt, Nat.zero_add, Nat.add_zero, OP_some, l1]
  refine C89 (hu.mono x1) la ?_
  intro h2 x2
  simp only [lenS_S, OP_some, bin_gtr, decide_eq_false (show ¬ ((decS a.natAbs).length : Int) > 4000 by omega), IfP_false, EX.load x2 l0]
  have last : p45z8 Tryz.prog K (pt h.length 0) (S (numS a)) h2 := by
    rw [q45z8, load4 (x2.get g0)]
    simp only [OP_some]
    refine C90q ((hw.mono x1).mono x2) lb ?_
    intro h3 x3
    simp only [IfP_dec]
    refine ⟨fun h9 => ?_, fun h9 => ?_⟩
    · have e : ratS a b = numS a := by unfold ratS; rw [if_pos (by omega)]
      rw [← e]
      exact hk _ ((x1.trans x2).trans x3)
    · have l3 : iLoad false 1 h3 (pt h.length 3) = some w := by simp [iLoad, objCells, (x2.trans x3).get g0, iPart]
      simp only [fadr_pt, Nat.zero_add, Nat.add_zero, OP_some, l3]
      refine C89 (((hw.mono x1).mono x2).mono x3) lb ?_
      intro h4 x4
      have nl := numS_len la
      have a1 : iBin .add (S (numS a)) (.string ⟨#[47]⟩) = some (S (numS a ++ [47])) := bin_addS (a := numS a) (b := [47]) (by simp [maxLen]; omega)
      have a2 : iBin .add (S (numS a ++ [47])) (S (decS b.natAbs)) = some (S (numS a ++ [47] ++ decS b.natAbs)) := bin_addS (a := numS a ++ [47]) (b := decS b.natAbs) (by simp [maxLen]; omega)
      simp only [lenS_S, OP_some, bin_gtr, decide_eq_false (show ¬ ((decS b.natAbs).length : Int) > 4000 by omega), IfP_false, a1, a2]
      have e : ratS a b = numS a ++ [47] ++ decS b.natAbs := by unfold ratS; rw [if_neg (by omega)]; simp
      rw [← e]
      exact hk _ ((x1.trans x2).trans (x3.trans x4))
  by_cases hneg : a < 0
  · rw [decide_eq_true hneg]
    have : numS a = 45 :: decS a.natAbs := by unfold numS; rw [if_pos hneg]
    have ad : iBin .add (.string ⟨#[45]⟩) (S (decS a.natAbs)) = some (S (numS a)) := by
      rw [this]
      exact bin_addS (a := [45]) (b := decS a.natAbs) (by simp [maxLen]; omega)
    simp only [IfP_true, ad, OP_some]
    exact last
  · rw [decide_eq_false hneg]
    have : numS a = decS a.natAbs := by unfold numS; rw [if_neg hneg]
    rw [this] at last
    simp only [IfP_false]
    exact last

end Go.Proofs.YtelmdbpaoifmoaaGreat


namespace Go.Proofs.YtelmdbpaoifmoaaGreat
open Go.Sim

theorem C54 {va vb : Value} {a b : Int} {h : Heap} {K : Value → Heap → Prop} (ha : ZV h va a) (hb : ZV h vb b) (b0 : 0 ≤ b) (hk : ∀ r h', EX h h' → QZ h' r a b → K r h') : CallP Tryz.prog 54 [va, vb] h K := by
  obtain ⟨v, rfl, hv⟩ := ha
  obtain ⟨w, rfl, hw⟩ := hb
  have hsb : decide (b < 0) = false := decide_eq_false (by omega)
  refine f54 ?_
  have e1 : ∀ (g : Heap) (s : Bool) (v : Value), iBox 35 g (.agg #[B s, v]) = some (pt g.length 0, g ++ [.arr 35 [B s, v]]) := fun _ _ _ => rfl
  have e3 : ∀ (g : Heap), iAlloc 37 [(.bool false), (.slice none 0 0), (.bool false), (.slice none 0 0)] g = some (pt g.length 0, g ++ [.arr 37 z4]) := fun _ => rfl
  simp only [T54, e1, e3, OH_some]
  have q0 : EX h (h ++ [.arr 35 [B (decide (a < 0)), v]]) := EX.append _ _
  have p0 : (h ++ [IObj.arr 35 [B (decide (a < 0)), v]])[h.length]? = some (.arr 35 [B (decide (a < 0)), v]) := get_last
  generalize h ++ [IObj.arr 35 [B (decide (a < 0)), v]] = ga at q0 p0 ⊢
  have q1 : EX ga (ga ++ [.arr 35 [B (decide (b < 0)), w]]) := EX.append _ _
  have p1 : (ga ++ [IObj.arr 35 [B (decide (b < 0)), w]])[ga.length]? = some (.arr 35 [B (decide (b < 0)), w]) := get_last
  generalize ga ++ [IObj.arr 35 [B (decide (b < 0)), w]] = gb at q1 p1 ⊢
  have q2 : EX gb (gb ++ [.arr 37 z4]) := EX.append _ _
  have p2 : (gb ++ [IObj.arr 37 z4])[gb.length]? = some (.arr 37 z4) := get_last
  generalize gb ++ [IObj.arr 37 z4] = gc at q2 p2 ⊢
  have k0 := (q1.trans q2).get p0
  have k1 := q2.get p1
  have x0 := q0.trans (q1.trans q2)
  have l1 : iLoad false 1 gc (pt ga.length 0) = some (B (decide (b < 0))) := by simp [iLoad, objCells, k1, iPart]
  simp only [fadr_pt, Nat.add_zero, OP_some, l1]
  rw [hsb]
  simp only [IfP_false]
  rw [q54z4, load2 k0, load2 k1]
  simp only [OP_some]
  have iva : ZV gc (.agg #[B (decide (a < 0)), v]) a := ⟨v, rfl, hv.mono x0⟩
  have ivb : ZV gc (.agg #[B (decide (b < 0)), w]) b := ⟨w, rfl, hw.mono x0⟩
  obtain ⟨xs, dx, _⟩ := id (hv.mono x0)
  obtain ⟨ys, dy, _⟩ := id (hw.mono x0)
  rw [build4 dx dy]
  simp only [OP_some]
  exact fin4 p2 (hk _ _ (x0.set (q0.trans q1).1 _) ⟨v, w, rfl, (hv.mono x0).setB p2 _, (hw.mono x0).setB p2 _⟩)

theorem pow18 : (1000000000000000000 : Nat) < 10000 ^ 199 := by decide +kernel

/-- A fraction out of two small numbers. -/
theorem C17 {w n : Int} {h : Heap} {K : Value → Heap → Prop} (hw : w.natAbs < 1000000000000000000) (n0 : 0 < n) (hn : n.natAbs < 1000000000000000000) (hk : ∀ r h', EX h h' → QZ h' r (w / (Nat.gcd w.natAbs n.natAbs : Int)) (n / (Nat.gcd w.natAbs n.natAbs : Int)) → K r h') : CallP Tryz.prog 17 [I w, I n] h K := by
  refine f17 ?_
  have e3 : iAlloc 37 [(.bool false), (.slice none 0 0), (.bool false), (.slice none 0 0)] h = some (pt h.length 0, h ++ [.arr 37 z4]) := rfl
  simp only [T17, e3, OH_some]
  have x0 : EX h (h ++ [.arr 37 z4]) := EX.append _ _
  have g0 : (h ++ [IObj.arr 37 z4])[h.length]? = some (.arr 37 z4) := get_last
  generalize h ++ [IObj.arr 37 z4] = ga at x0 g0 ⊢
  refine C55 hw ?_
  intro r1 h1 x1 z1
  refine C55 hn ?_
  intro r2 h2 x2 z2
  refine C54 (z1.mono x2) z2 (by omega) ?_
  intro q h3 x3 qz
  have p18 := pow18
  refine C25 qz n0 (by omega) (by omega) ?_
  intro r h4 x4 qr
  have x14 := (x1.trans x2).trans (x3.trans x4)
  have g4 := x14.get g0
  obtain ⟨y, z, rfl, my, mz⟩ := qr
  exact fin4 g4 (hk _ _ ((x0.trans x14).set (Nat.le_refl _) _) ⟨y, z, rfl, my.setB g4 _, mz.setB g4 _⟩)

theorem decS_one {n : Nat} (hn : n < bigW) (h : decS n = [49]) : n = 1 := by
  have := (decS_facts hn).2.2.2.2
  rw [h] at this
  simpa [valB] using this.symm

theorem C53q {va : Value} {a b : Int} {h : Heap} {K : Value → Heap → Prop} (ha : QZ h va a b) (b0 : 0 < b) (la : a.natAbs < 10000 ^ 199) (lb : b.natAbs < 10000 ^ 199) (hk : ∀ h', EX h h' → K (.tuple #[S (ratS (a / (Nat.gcd a.natAbs b.natAbs : Int)) (b / (Nat.gcd a.natAbs b.natAbs : Int))), B true]) h') : CallP Tryz.prog 53 [va] h K := by
  have ha0 := ha
  obtain ⟨u, w, rfl, hu, hw⟩ := ha
  refine f53 ?_
  have e1 : iBox 37 h (.agg #[B (decide (a < 0)), u, B (decide (b < 0)), w]) = some (pt h.length 0, h ++ [.arr 37 [B (decide (a < 0)), u, B (decide (b < 0)), w]]) := rfl
  simp only [T53, e1, OH_some]
  have x1 : EX h (h ++ [IObj.arr 37 [B (decide (a < 0)), u, B (decide (b < 0)), w]]) := EX.append _ _
  have k1 : (h ++ [IObj.arr 37 [B (decide (a < 0)), u, B (decide (b < 0)), w]])[h.length]? = some (.arr 37 [B (decide (a < 0)), u, B (decide (b < 0)), w]) := get_last
  generalize h ++ [IObj.arr 37 [B (decide (a < 0)), u, B (decide (b < 0)), w]] = h1 at x1 k1 ⊢
  rw [load4 k1]
  simp only [OP_some]
  refine C25 (ha0.mono x1) b0 la lb ?_
  intro r h2 x2 q2
  have hg0 : 0 < Nat.gcd a.natAbs b.natAbs := Nat.gcd_pos_of_pos_right _ (by omega)
  have hgle : Nat.gcd a.natAbs b.natAbs ≤ b.natAbs := Nat.gcd_le_right _ (by omega)
  have hda : (Nat.gcd a.natAbs b.natAbs : Int) ∣ a := Int.gcd_dvd_left ..
  have hdb : (Nat.gcd a.natAbs b.natAbs : Int) ∣ b := Int.gcd_dvd_right ..
  generalize hG : Nat.gcd a.natAbs b.natAbs = G at *
  have la' : (a / (G : Int)).natAbs < 10000 ^ 199 := by
    obtain ⟨c, rfl⟩ := hda
    rw [Int.mul_ediv_cancel_left c (by omega)]
    have : c.natAbs ≤ ((G : Int) * c).natAbs := by rw [Int.natAbs_mul]; exact Nat.le_mul_of_pos_left _ (by omega)
    omega
  have b1 : 0 < b / (G : Int) ∧ (b / (G : Int)).natAbs < 10000 ^ 199 := by
    obtain ⟨c, rfl⟩ := hdb
    rw [Int.mul_ediv_cancel_left c (by omega)]
    have hc : 0 < c := by
      apply Classical.byContradiction
      intro hneg
      have := Int.mul_nonpos_of_nonneg_of_nonpos (show (0 : Int) ≤ (G : Int) by omega) (show c ≤ 0 by omega)
      omega
    have : c.natAbs ≤ ((G : Int) * c).natAbs := by rw [Int.natAbs_mul]; exact Nat.le_mul_of_pos_left _ (by omega)
    exact ⟨hc, by omega⟩
  generalize a / (G : Int) = A at *
  generalize b / (G : Int) = D at *
  obtain ⟨D0, lD⟩ := b1
  obtain ⟨u', w', rfl, hu', hw'⟩ := q2
  have hsD : decide (D < 0) = false := decide_eq_false (by omega)
  have k2 := x2.get k1
  rw [store4 k2]
  simp only [OH_some]
  have x3 : EX h (h2.set h.length (.arr 37 [B (decide (A < 0)), u', B (decide (D < 0)), w'])) := (x1.trans x2).set (Nat.le_refl _) _
  have k3 := set_get (o := .arr 37 [B (decide (A < 0)), u', B (decide (D < 0)), w']) k2
  have hu3 := hu'.setB k2 (.arr 37 [B (decide (A < 0)), u', B (decide (D < 0)), w'])
  have hw3 := hw'.setB k2 (.arr 37 [B (decide (A < 0)), u', B (decide (D < 0)), w'])
  generalize h2.set h.length (.arr 37 [B (decide (A < 0)), u', B (decide (D < 0)), w']) = h3 at x3 k3 hu3 hw3 ⊢
  have p201 : (10000 : Nat) ^ 199 < 10000 ^ 201 := by decide +kernel
  have hb := big201 (n := A.natAbs) (by omega)
  have hD := big201 (n := D.natAbs) (by omega)
  simp only [fadr_pt, Nat.add_zero, Nat.zero_add, load4a k3, OP_some, true_and]
  refine C94 (⟨u', rfl, hu3⟩ : ZV h3 _ A) ?_
  intro ua h4 x4 m4
  refine C93 m4.toZ hb ?_
  intro h5 x5
  have ld0 : ∀ {g}, EX h3 g → iLoad false 1 g (pt h.length 0) = some (B (decide (A < 0))) := fun y => EX.load y (by simp [iLoad, objCells, k3, iPart])
  simp only [load4b k3, EX.load x4 (load4b k3), EX.load (x4.trans x5) (load4b k3), OP_some, true_and]
  have hw5 : MagZ h5 w' D.natAbs := (hw3.mono x4).mono x5
  have zD : ZV h5 (.agg #[B (decide (D < 0)), w']) ((D.natAbs : Nat) : Int) := ⟨w', by rw [hsD, decide_eq_false (by omega)], by rwa [Int.natAbs_natCast]⟩
  refine C93 (n := D.natAbs) zD hD ?_
  intro h6 x6
  obtain ⟨d1, d2, d3, d4, d5⟩ := decS_facts hb
  obtain ⟨c1, c2, c3, c4, c5⟩ := decS_facts hD
  have xx := (x4.trans x5).trans x6
  have nl := numS_len hb
  simp only [lenS_S, OP_some, bin_gtr, decide_eq_false (show ¬ ((decS A.natAbs).length : Int) > 4000 by omega), q53z7, GdP_ff, decide_eq_false (show ¬ ((decS D.natAbs).length : Int) > 4000 by omega)]
  simp only [q53z9, iPick_f, OP_some, IfP_false, fadr_pt, Nat.add_zero, ld0 xx]
  have fin : p53z13 Tryz.prog K (S (numS A)) (S (decS D.natAbs)) h6 := by
    rw [q53z13]
    have : iBin .neq (S (decS D.natAbs)) (.string ⟨#[49]⟩) = some (B (!decide (decS D.natAbs = [49]))) := by
      show iBin .neq (S (decS D.natAbs)) (S [49]) = _
      rw [bin_neqS]
    simp only [this, OP_some]
    by_cases h1 : D = 1
    · subst h1
      have e : ratS A 1 = numS A := by unfold ratS; rw [if_pos rfl]
      have one : decS (1 : Int).natAbs = [49] := by decide +kernel
      rw [one]
      simp only [decide_true, Bool.not_true, IfP_false, q53z16]
      rw [← e]
      exact hk _ (x3.trans xx)
    · have e : ratS A D = numS A ++ ([47] ++ decS D.natAbs) := by unfold ratS; rw [if_neg h1]; rfl
      have hne : decS D.natAbs ≠ [49] := fun h9 => h1 (by have := decS_one hD h9; omega)
      have a1 : iBin .add (.string ⟨#[47]⟩) (S (decS D.natAbs)) = some (S ([47] ++ decS D.natAbs)) := bin_addS (a := [47]) (b := decS D.natAbs) (by simp [maxLen]; omega)
      have a2 : iBin .add (S (numS A)) (S ([47] ++ decS D.natAbs)) = some (S (numS A ++ ([47] ++ decS D.natAbs))) := bin_addS (a := numS A) (b := [47] ++ decS D.natAbs) (by simp [maxLen]; omega)
      rw [decide_eq_false hne]
      simp only [Bool.not_false, IfP_true, a1, a2, OP_some, q53z16]
      rw [← e]
      exact hk _ (x3.trans xx)
  by_cases hneg : A < 0
  · have hs : numS A = 45 :: decS A.natAbs := by unfold numS; rw [if_pos hneg]
    have ad : iBin .add (.string ⟨#[45]⟩) (S (decS A.natAbs)) = some (S (numS A)) := by
      rw [hs]
      exact bin_addS (a := [45]) (b := decS A.natAbs) (by simp [maxLen]; omega)
    rw [decide_eq_true hneg]
    simp only [IfP_true, ad, OP_some]
    exact fin
  · have hs : numS A = decS A.natAbs := by unfold numS; rw [if_neg hneg]
    rw [decide_eq_false hneg, ← hs]
    simp only [IfP_false]
    exact fin

theorem C16q {va : Value} {a b : Int} {s : List UInt8} {h : Heap} {K : Value → Heap → Prop} (ha : QZ h va a b) (b0 : 0 < b) (la : a.natAbs < 10000 ^ 199) (lb : b.natAbs < 10000 ^ 199) (hk : ∀ h', EX h h' → K (B (decide (s = ratS (a / (Nat.gcd a.natAbs b.natAbs : Int)) (b / (Nat.gcd a.natAbs b.natAbs : Int))))) h') : CallP Tryz.prog 16 [S s, va] h K := by
  have ha0 := ha
  obtain ⟨u, w, rfl, hu, hw⟩ := ha
  refine f16 ?_
  have e1 : iBox 37 h (.agg #[B (decide (a < 0)), u, B (decide (b < 0)), w]) = some (pt h.length 0, h ++ [.arr 37 [B (decide (a < 0)), u, B (decide (b < 0)), w]]) := rfl
  simp only [T16, e1, OH_some]
  have x1 : EX h (h ++ [IObj.arr 37 [B (decide (a < 0)), u, B (decide (b < 0)), w]]) := EX.append _ _
  rw [load4 get_last]
  simp only [OP_some]
  refine C53q (ha0.mono x1) b0 la lb ?_
  intro h2 x2
  simp only [ext_tuple, pair0, pair1, OP_some, q16z5, GdP_tt, bin_eqlS, q16z7, iPick_t]
  exact hk _ (x1.trans x2)

end Go.Proofs.YtelmdbpaoifmoaaGreat


namespace Go.Proofs.YtelmdbpaoifmoaaGreat
open Go.Sim

theorem passU_sub (bs : List Nat) (s i : Nat) : passU bs s (i + 1) = if subB (bs.getD i 0) (passU bs s i) = true then passU bs s i ||| 2 ^ i else passU bs s i := by
  simp only [passU]
  unfold rdyS
  cases ht : (passU bs s i).testBit i with
  | false => simp
  | true =>
    have e : passU bs s i ||| 2 ^ i = passU bs s i := by
      apply Nat.eq_of_testBit_eq
      intro j
      rw [testBit_or_pow]
      by_cases hij : i = j
      · subst hij; rw [ht]; simp
      · simp [hij]
    simp [e]

theorem formB_split (js ps : List (Int × Int)) : formB js ps = ((js.all jobB && ps.all (pairB js.length)) && ((decide (1 ≤ js.length) && decide (js.length ≤ 10)) && decide (ps.length ≤ 40))) := by
  unfold formB
  rw [Bool.and_comm]

theorem C33 {vj vp : Value} {js ps : List (Int × Int)} {h : Heap} {K : Value → Heap → Prop} (hj : PS h vj js) (hp : PS h vp ps) (hjl : js.length ≤ 1000) (hpl : ps.length ≤ 1000) (hk : K (B (validB js ps)) h) :
    CallP Tryz.prog 33 [vj, vp] h K := by
  refine f33 ?_
  unfold T33
  have stop : formB js ps = false → K (B false) h := by
    intro hf
    have : validB js ps = false := by unfold validB; rw [hf]; rfl
    rw [this] at hk; exact hk
  rw [formB_split] at stop
  generalize hn : js.length = n at *
  refine loopL (σ := Nat) (fun i => [I i]) (fun _ => h) (fun i => i ≤ n ∧ (js.take i).all jobB = true) (fun i => n - i) 0 rfl rfl ⟨Nat.zero_le _, rfl⟩ ?_
  rintro i ⟨hi, hall⟩ L hL
  rw [q33z5]
  simp only [hj.len, hn, OP_some, bin_lss, IfP_dec]
  refine ⟨fun hlt => ?_, fun hge => ?_⟩
  · have hin : i < js.length := by omega
    obtain ⟨b, o, g1, g2, g3, _⟩ := PS.getD hj hin
    have htk : (js.take (i + 1)).all jobB = jobB (js.getD i (0, 0)) := by
      rw [List.take_succ_eq_append_getElem hin, List.all_append, hall]
      simp [List.getD_eq_getElem?_getD, hin]
    have hbad : jobB (js.getD i (0, 0)) = false → js.all jobB = false := by
      intro hb
      rw [← htk] at hb
      rw [← List.take_append_drop (i + 1) js, List.all_append, hb]; rfl
    generalize js.getD i (0, 0) = jb at *
    have stop2 : jobB jb = false → K (B false) h := fun hb => stop (by rw [hbad hb]; rfl)
    simp only [g1, OP_some, fadr_pt, Nat.add_zero, g2]
    refine C46 ?_
    unfold jobB at htk stop2
    cases e1 : (decide (1 ≤ jb.1) && decide (jb.1 ≤ 50)) with
    | false =>
      rw [e1] at stop2
      simp only [un_not, OP_some, Bool.not_false, q33z12, GdP_tf, q33z14, iPick_t, IfP_true]
      exact stop2 rfl
    | true =>
      rw [e1] at htk stop2
      simp only [un_not, OP_some, Bool.not_true, q33z12, GdP_ff, g1, fadr_pt, g3]
      refine C46 ?_
      cases e2 : (decide (0 ≤ jb.2) && decide (jb.2 ≤ 50)) with
      | false =>
        rw [e2] at stop2
        simp only [un_not, OP_some, Bool.not_false, q33z14, iPick_f, IfP_true]
        exact stop2 rfl
      | true =>
        rw [e2] at htk
        simp only [un_not, OP_some, Bool.not_true, q33z14, iPick_f, IfP_false, bin_add, inc i (by omega), true_and]
        exact hL (i + 1) ⟨by omega, htk⟩ (by omega)
  · have hie : i = n := by omega
    have hjall : js.all jobB = true := by rw [hie, ← hn, List.take_length] at hall; exact hall
    rw [hjall, Bool.true_and] at stop
    rw [q33z16]
    refine loopL (σ := Nat) (fun m => [I m]) (fun _ => h) (fun m => m ≤ ps.length ∧ (ps.take m).all (pairB n) = true) (fun m => ps.length - m) 0 rfl rfl ⟨Nat.zero_le _, rfl⟩ ?_
    rintro m ⟨hm, hpall⟩ L2 hL2
    rw [q33z20]
    have e1 : IntKind.wrap .i64 ((n : Int) - 1) = (n : Int) - 1 := wrap64 (by omega) (by omega)
    simp only [hp.len, OP_some, bin_lss, IfP_dec]
    refine ⟨fun hlt => ?_, fun hge2 => ?_⟩
    · have hmp : m < ps.length := by omega
      obtain ⟨b, o, g1, g2, g3, _⟩ := hp.get m hmp
      have htk : ps.take (m + 1) = ps.take m ++ [ps[m]] := List.take_succ_eq_append_getElem hmp
      have htk2 : (ps.take (m + 1)).all (pairB n) = pairB n ps[m] := by rw [htk, List.all_append, hpall]; simp
      have hbad : pairB n ps[m] = false → ps.all (pairB n) = false := by
        intro hb
        rw [← htk2] at hb
        rw [← List.take_append_drop (m + 1) ps, List.all_append, hb]; rfl
      generalize ps[m] = pr at g2 g3 htk2 hbad
      obtain ⟨pa, pb⟩ := pr
      simp only at g2 g3
      have stop2 : pairB n (pa, pb) = false → K (B false) h := fun hb => stop (by rw [hbad hb]; rfl)
      have hpb : pairB n (pa, pb) = (((decide (0 ≤ pa) && decide (pa ≤ (n : Int) - 1)) && (decide (0 ≤ pb) && decide (pb ≤ (n : Int) - 1))) && !decide (pa = pb)) := by
        unfold pairB
        congr 1
        rw [Bool.eq_iff_iff]
        simp only [Bool.and_eq_true, decide_eq_true_eq]
        omega
      simp only [g1, OP_some, fadr_pt, Nat.add_zero, g2, true_and, hj.len, hn, bin_sub, e1]
      refine C46 ?_
      cases d1 : (decide (0 ≤ pa) && decide (pa ≤ (n : Int) - 1)) with
      | false =>
        rw [d1] at hpb
        simp only [true_and, un_not, OP_some, Bool.not_false, GdP_tf, iPick_t, IfP_true]
        exact stop2 (by rw [hpb]; rfl)
      | true =>
        rw [d1] at hpb
        simp only [true_and, un_not, OP_some, Bool.not_true, GdP_ff, g1, fadr_pt, g3, hj.len, hn, bin_sub, e1]
        refine C46 ?_
        cases d2 : (decide (0 ≤ pb) && decide (pb ≤ (n : Int) - 1)) with
        | false =>
          rw [d2] at hpb
          simp only [true_and, un_not, OP_some, Bool.not_false, iPick_f, GdP_tf, iPick_t, IfP_true]
          exact stop2 (by rw [hpb]; rfl)
        | true =>
          rw [d2] at hpb
          simp only [true_and, un_not, OP_some, Bool.not_true, iPick_f, GdP_ff, g1, fadr_pt, Nat.add_zero, g2, g3, bin_eql]
          cases d3 : decide (pa = pb) with
          | true =>
            rw [d3] at hpb
            simp only [IfP_true]
            exact stop2 (by rw [hpb]; rfl)
          | false =>
            rw [d3] at hpb
            simp only [IfP_false, bin_add, OP_some, inc m (by omega), true_and]
            exact hL2 (m + 1) ⟨by omega, by rw [htk2, hpb]; rfl⟩ (by omega)
    · have hme : m = ps.length := by omega
      have hpa : ps.all (pairB n) = true := by rw [hme, List.take_length] at hpall; exact hpall
      rw [hpa, Bool.true_and] at stop
      rw [q33z27]
      simp only [hj.len, hn, OP_some]
      refine C46 ?_
      cases d1 : (decide (1 ≤ (n : Int)) && decide ((n : Int) ≤ 10)) with
      | false =>
        simp only [un_not, OP_some, Bool.not_false, q33z31, GdP_tf, q33z33, iPick_t, IfP_true]
        refine stop ?_
        have : (decide (1 ≤ n) && decide (n ≤ 10)) = false := by
          rw [← d1]; rw [Bool.eq_iff_iff]; simp only [Bool.and_eq_true, decide_eq_true_eq]; omega
        rw [this]; rfl
      | true =>
        rw [Bool.and_eq_true, decide_eq_true_eq, decide_eq_true_eq] at d1
        simp only [un_not, OP_some, Bool.not_true, q33z31, GdP_ff, hp.len, bin_gtr]
        by_cases d2 : ps.length ≤ 40
        rotate_left
        · rw [decide_eq_true (show (40 : Int) < ps.length by omega)]
          simp only [q33z33, iPick_f, OP_some, IfP_true]
          exact stop (by rw [decide_eq_false d2]; simp)
        rw [decide_eq_false (show ¬ (40 : Int) < ps.length by omega)]
        have h2n : (2 : Nat) ^ n ≤ 2 ^ 10 := Nat.pow_le_pow_right (by decide) (by omega)
        have h2p : (0 : Nat) < 2 ^ n := Nat.pow_pos (by decide)
        have e2 : IntKind.wrap .i64 (((2 ^ n : Nat) : Int) - 1) = ((fullS n : Nat) : Int) := by
          rw [wrap64 (by omega) (by omega)]; unfold fullS; omega
        simp only [q33z33, iPick_f, OP_some, IfP_false, hj.len, hn, shlK skI (show n < 11 by omega), bin_sub, e2]
        have hform : formB js ps = true := by
          rw [formB_split, hn, hjall, hpa, decide_eq_true (show 1 ≤ n by omega), decide_eq_true (show n ≤ 10 by omega), decide_eq_true d2]; rfl
        have hval : validB js ps = decide (rndU (bsOf ps n) n n = fullS n) := by unfold validB; rw [hform, hn]; rfl
        rw [hval] at hk
        have hbs := BS.of hpa
        generalize hbe : bsOf ps n = bs at hk hbs
        have hfl := fullS_lt n
        have hdl : ∀ s, difS (fullS n) s < 1024 := fun s => by have := difS_le (fullS n) s; omega
        have start : difS (fullS n) 0 = fullS n := by
          apply Nat.eq_of_testBit_eq
          intro j
          rw [difS_bit]; simp
        refine loopL (σ := Nat) (fun r => [I (difS (fullS n) (rndU bs n r)), I r]) (fun _ => h) (fun r => r ≤ n) (fun r => n - r) 0 (by rw [show rndU bs n 0 = 0 from rfl, start]; rfl) rfl (Nat.zero_le _) ?_
        intro r hr L3 hL3
        rw [q33z39]
        simp only [hj.len, hn, bin_lss, OP_some, IfP_dec]
        have hru := rndU_lt bs n r
        refine ⟨fun hlt3 => ?_, fun hge3 => ?_⟩
        · refine loopL (σ := Nat) (fun i => [I (difS (fullS n) (passU bs (rndU bs n r) i)), I i]) (fun _ => h) (fun i => i ≤ n) (fun i => n - i) 0 rfl rfl (Nat.zero_le _) ?_
          intro i hi2 L4 hL4
          rw [q33z46]
          simp only [hj.len, hn, bin_lss, OP_some, IfP_dec]
          have hpu := passU_lt (bs := bs) hru hi2
          refine ⟨fun hlt4 => ?_, fun hge4 => ?_⟩
          · have hin : i < n := by omega
            have hp2 : (2 : Nat) ^ i < 1024 := Nat.lt_of_lt_of_le (Nat.pow_lt_pow_right (by decide) (show i < 10 by omega)) (by decide)
            refine C79 hp hpl hpa (by omega) hin ?_
            rw [hbe]
            have hb1 := hbs.getD_lt i
            have nx := hL4 (i + 1) (by omega) (by omega)
            rw [passU_sub] at nx
            simp only [andK skI (show bs.getD i 0 < 1024 by omega) (hdl (passU bs (rndU bs n r) i)), OP_some, bin_eql]
            by_cases hs : subB (bs.getD i 0) (passU bs (rndU bs n r) i) = true
            · rw [if_pos hs] at nx
              rw [(left_and (n := n) hb1).2 hs]
              have e0 : decide (((0 : Nat) : Int) = 0) = true := rfl
              simp only [e0, IfP_true, shlK skI (show i < 11 by omega), OP_some, andNotD skI (hdl (passU bs (rndU bs n r) i)) hp2, left_step, q33z52, bin_add, inc i (by omega), true_and]
              exact nx
            · rw [if_neg hs] at nx
              have hne : ¬ (bs.getD i 0 &&& difS (fullS n) (passU bs (rndU bs n r) i) = 0) := fun h0 => hs ((left_and (n := n) hb1).1 h0)
              rw [decide_eq_false (show ¬ (((bs.getD i 0 &&& difS (fullS n) (passU bs (rndU bs n r) i) : Nat) : Int) = 0) by omega)]
              simp only [IfP_false, q33z52, bin_add, OP_some, inc i (by omega), true_and]
              exact nx
          · have hie2 : i = n := by omega
            subst hie2
            simp only [q33z53, bin_add, OP_some, inc r (by omega), true_and]
            exact hL3 (r + 1) (by omega) (by omega)
        · have hre : r = n := by omega
          subst hre
          rw [q33z54]
          simp only [bin_eql, OP_some]
          have e : decide (((difS (fullS r) (rndU bs r r) : Nat) : Int) = 0) = decide (rndU bs r r = fullS r) := by
            rw [decide_eq_decide, ← left_zero hru]; omega
          rw [e]
          exact hk

end Go.Proofs.YtelmdbpaoifmoaaGreat


namespace Go.Proofs.YtelmdbpaoifmoaaGreat
open Go.Sim
variable (P : Program) (K : VK)
/-! F7: pommel/pommellaw06.MendSidneys -/
noncomputable def c7z19 : ICode := .ops none [⟨(some 52), .p (.pick (.tmp 50) (.tmp 51) (.const (.bool false)))⟩,
 ⟨(some 2), .p (.mv (.tmp 52))⟩]
noncomputable def c7z17 : ICode := .seq (.ops (some (50, true)) [⟨(some 51), .call 14 []⟩])
 (.cut [50, 51] c7z19)
noncomputable def c7z15 : ICode := .seq (.ops none [⟨(some 49), .p (.pick (.tmp 46) (.tmp 48) (.const (.bool false)))⟩,
 ⟨(some 50), .p (.mv (.tmp 49))⟩])
 (.cut [50] c7z17)
noncomputable def c7z13 : ICode := .seq (.ops (some (46, true)) [⟨(some 47), .p (.mv (.tmp 8))⟩,
 ⟨(some 48), .p (.bin .eql (.tmp 47) (.const (.int .i64 (1))))⟩])
 (.cut [46, 48] c7z15)
noncomputable def c7z11 : ICode := .seq (.ops none [⟨(some 45), .p (.pick (.tmp 42) (.tmp 44) (.const (.bool false)))⟩,
 ⟨(some 46), .p (.mv (.tmp 45))⟩])
 (.cut [8, 46] c7z13)
noncomputable def c7z9 : ICode := .seq (.ops (some (42, true)) [⟨(some 43), .p (.mv (.tmp 6))⟩,
 ⟨(some 44), .p (.bin .eql (.tmp 43) (.const (.int .i64 (1))))⟩])
 (.cut [8, 42, 44] c7z11)
noncomputable def c7z7 : ICode := .ret
noncomputable def c7z38 : ICode := .ops none [⟨(some 78), .p (.pick (.tmp 75) (.const (.bool true)) (.tmp 77))⟩]
noncomputable def c7z36 : ICode := .seq (.ops (some (75, false)) [⟨(some 76), .call 14 []⟩,
 ⟨(some 77), .p (.un .not (.tmp 76))⟩])
 (.cut [3, 7, 9, 75, 77] c7z38)
noncomputable def c7z34 : ICode := .seq (.ops none [⟨(some 74), .p (.pick (.tmp 71) (.const (.bool true)) (.tmp 73))⟩,
 ⟨(some 75), .p (.mv (.tmp 74))⟩])
 (.cut [3, 7, 9, 75] c7z36)
noncomputable def c7z32 : ICode := .seq (.ops (some (71, false)) [⟨(some 72), .p (.mv (.tmp 8))⟩,
 ⟨(some 73), .p (.bin .neq (.tmp 72) (.const (.int .i64 (0))))⟩])
 (.cut [3, 7, 9, 71, 73] c7z34)
noncomputable def c7z30 : ICode := .seq (.ops none [⟨(some 70), .p (.pick (.tmp 64) (.const (.bool true)) (.tmp 69))⟩,
 ⟨(some 71), .p (.mv (.tmp 70))⟩])
 (.cut [3, 7, 8, 9, 71] c7z32)
noncomputable def c7z28 : ICode := .seq (.ops (some (64, false)) [⟨(some 65), .p (.mv (.tmp 7))⟩,
 ⟨(some 66), .p (.lenSl (.tmp 65))⟩,
 ⟨(some 67), .p (.mv (.tmp 9))⟩,
 ⟨(some 68), .p (.lenSl (.tmp 67))⟩,
 ⟨(some 69), .p (.bin .neq (.tmp 66) (.tmp 68))⟩])
 (.cut [3, 7, 8, 9, 64, 69] c7z30)
noncomputable def c7z26 : ICode := .seq (.ops none [⟨(some 63), .p (.pick (.tmp 60) (.const (.bool true)) (.tmp 62))⟩,
 ⟨(some 64), .p (.mv (.tmp 63))⟩])
 (.cut [3, 7, 8, 9, 64] c7z28)
noncomputable def c7z24 : ICode := .seq (.ops (some (60, false)) [⟨(some 61), .p (.mv (.tmp 6))⟩,
 ⟨(some 62), .p (.bin .neq (.tmp 61) (.const (.int .i64 (0))))⟩])
 (.cut [3, 7, 8, 9, 60, 62] c7z26)
noncomputable def c7z22 : ICode := .cond (.tmp 78) (.seq (.ops none [⟨(some 2), .p (.mv (.const (.bool false)))⟩])
 (.ret))
 (.skip)
noncomputable def c7z52 : ICode := .seq (.seq (.ops none [⟨(some 85), .p (.mv (.tmp 12))⟩,
 ⟨(some 86), .p (.mv (.tmp 9))⟩,
 ⟨(some 87), .p (.mv (.tmp 10))⟩,
 ⟨(some 88), .p (.adrSl 1 (.tmp 86) (.tmp 87))⟩,
 ⟨(some 89), .l (.load false 1 (.tmp 88))⟩,
 ⟨(some 90), .p (.lenSl (.tmp 89))⟩,
 ⟨(some 91), .p (.bin .lss (.tmp 85) (.tmp 90))⟩])
 (.cond (.tmp 91) (.skip)
 (.exit 2)))
 (.seq (.block 3 (.ops none [⟨(some 94), .p (.mv (.tmp 11))⟩,
 ⟨(some 95), .p (.mv (.tmp 9))⟩,
 ⟨(some 96), .p (.mv (.tmp 10))⟩,
 ⟨(some 97), .p (.adrSl 1 (.tmp 95) (.tmp 96))⟩,
 ⟨(some 98), .l (.load false 1 (.tmp 97))⟩,
 ⟨(some 99), .p (.mv (.tmp 12))⟩,
 ⟨(some 100), .p (.adrSl 1 (.tmp 98) (.tmp 99))⟩,
 ⟨(some 101), .l (.load false 1 (.tmp 100))⟩,
 ⟨(some 102), .p (.bin .shl (.const (.int .i64 (1))) (.tmp 101))⟩,
 ⟨(some 103), .p (.bin .or (.tmp 94) (.tmp 102))⟩,
 ⟨(some 11), .p (.mv (.tmp 103))⟩]))
 (.ops none [⟨(some 92), .p (.mv (.tmp 12))⟩,
 ⟨(some 93), .p (.bin .add (.tmp 92) (.const (.int .i64 (1))))⟩,
 ⟨(some 12), .p (.mv (.tmp 93))⟩]))
noncomputable def c7z57 : ICode := .seq (.ops none [⟨(some 105), .p (.mv (.tmp 3))⟩,
 ⟨(some 106), .p (.mv (.tmp 11))⟩,
 ⟨(some 107), .call 36 [(.tmp 105), (.tmp 106)]⟩,
 ⟨(some 104), .p (.mv (.tmp 107))⟩,
 ⟨(some 108), .p (.ext (.tmp 104) 0)⟩,
 ⟨(some 109), .p (.ext (.tmp 104) 1)⟩,
 ⟨(some 13), .p (.mv (.tmp 108))⟩,
 ⟨(some 14), .p (.mv (.tmp 109))⟩])
 (.seq (.dops [(none, [⟨(some 110), .p (.mv (.tmp 7)), 0⟩,
 ⟨(some 111), .p (.mv (.tmp 10)), 0⟩,
 ⟨(some 112), .p (.adrSl 1 (.tmp 110) (.tmp 111)), 3⟩,
 ⟨(some 113), .l (.load false 1 (.tmp 112)), 7⟩,
 ⟨(some 114), .p (.mv (.tmp 13)), 0⟩,
 ⟨(some 115), .p (.mv (.tmp 14)), 0⟩,
 ⟨(some 116), .call 17 [(.tmp 114), (.tmp 115)], 48⟩,
 ⟨(some 117), .call 16 [(.tmp 113), (.tmp 116)], 127⟩,
 ⟨(some 118), .p (.un .not (.tmp 117)), 255⟩])])
 (.cond (.tmp 118) (.seq (.ops none [⟨(some 2), .p (.mv (.const (.bool false)))⟩])
 (.ret))
 (.skip)))
noncomputable def c7z49 : ICode := .cut [3, 7, 9, 10, 11] c7z57
noncomputable def c7z61 : ICode := .ops none [⟨(some 83), .p (.mv (.tmp 10))⟩,
 ⟨(some 84), .p (.bin .add (.tmp 83) (.const (.int .i64 (1))))⟩,
 ⟨(some 10), .p (.mv (.tmp 84))⟩]
noncomputable def c7z46 : ICode := .cut [3, 7, 9, 10] c7z61
noncomputable def c7z43 : ICode := .seq (.seq (.ops none [⟨(some 79), .p (.mv (.tmp 10))⟩,
 ⟨(some 80), .p (.mv (.tmp 9))⟩,
 ⟨(some 81), .p (.lenSl (.tmp 80))⟩,
 ⟨(some 82), .p (.bin .lss (.tmp 79) (.tmp 81))⟩])
 (.cond (.tmp 82) (.skip)
 (.exit 0)))
 (.seq (.block 1 (.seq (.ops none [⟨(some 11), .p (.mv (.const (.int .i64 (0))))⟩])
 (.seq (.seq (.ops none [⟨(some 12), .p (.mv (.const (.int .i64 (0))))⟩])
 (.block 2 (.loop [3, 7, 9, 10] [11, 12] c7z52))) c7z49))) c7z46)
noncomputable def c7z40 : ICode := .seq (.ops none [⟨(some 2), .p (.mv (.const (.bool true)))⟩])
 (.ret)
noncomputable def c7z21 : ICode := .seq (.seq (.ops none [⟨(some 10), .p (.mv (.const (.int .i64 (0))))⟩])
 (.block 0 (.loop [3, 7, 9] [10] c7z43))) c7z40
noncomputable def c7z5 : ICode := .seq (.ops none [⟨(some 53), .p (.mv (.tmp 3))⟩,
 ⟨(some 54), .p (.mv (.tmp 4))⟩,
 ⟨(some 55), .call 34 [(.tmp 53), (.tmp 54)]⟩,
 ⟨(some 9), .p (.mv (.tmp 55))⟩])
 (.seq (.seq (.seq (.ops none [⟨(some 56), .p (.mv (.tmp 5))⟩,
 ⟨(some 57), .p (.mv (.tmp 9))⟩,
 ⟨(some 58), .call 35 [(.tmp 56), (.tmp 57)]⟩,
 ⟨(some 59), .p (.un .not (.tmp 58))⟩,
 ⟨(some 60), .p (.mv (.tmp 59))⟩])
 (.cut [3, 6, 7, 8, 9, 60] c7z24)) c7z22) c7z21)
noncomputable def c7 : ICode := .seq (.ops none [⟨(some 1), .e (.box 71 (.tmp 0))⟩,
 ⟨(some 2), .p (.mv (.const (.bool false)))⟩])
 (.seq (.ops none [⟨(some 16), .l (.load true 2 (.tmp 1))⟩,
 ⟨(some 17), .call 30 [(.tmp 16), (.const (.int .i64 (10)))]⟩,
 ⟨(some 15), .p (.mv (.tmp 17))⟩,
 ⟨(some 18), .p (.ext (.tmp 15) 0)⟩,
 ⟨(some 19), .p (.ext (.tmp 15) 1)⟩,
 ⟨(some 3), .p (.mv (.tmp 18))⟩,
 ⟨(some 4), .p (.mv (.tmp 19))⟩])
 (.seq (.ops none [⟨(some 21), .p (.mv (.tmp 3))⟩,
 ⟨(some 22), .p (.mv (.tmp 4))⟩,
 ⟨(some 23), .call 31 [(.tmp 21), (.tmp 22)]⟩,
 ⟨(some 20), .p (.mv (.tmp 23))⟩,
 ⟨(some 24), .p (.ext (.tmp 20) 0)⟩,
 ⟨(some 25), .p (.ext (.tmp 20) 1)⟩,
 ⟨(some 5), .p (.mv (.tmp 24))⟩,
 ⟨(some 6), .p (.mv (.tmp 25))⟩])
 (.seq (.ops none [⟨(some 27), .p (.mv (.tmp 3))⟩,
 ⟨(some 28), .p (.mv (.tmp 4))⟩,
 ⟨(some 29), .call 32 [(.tmp 27), (.tmp 28)]⟩,
 ⟨(some 26), .p (.mv (.tmp 29))⟩,
 ⟨(some 30), .p (.ext (.tmp 26) 0)⟩,
 ⟨(some 31), .p (.ext (.tmp 26) 1)⟩,
 ⟨(some 7), .p (.mv (.tmp 30))⟩,
 ⟨(some 8), .p (.mv (.tmp 31))⟩])
 (.seq (.seq (.ops none [⟨(some 32), .p (.mv (.tmp 3))⟩,
 ⟨(some 33), .p (.mv (.tmp 4))⟩,
 ⟨(some 34), .call 33 [(.tmp 32), (.tmp 33)]⟩,
 ⟨(some 35), .p (.un .not (.tmp 34))⟩])
 (.cond (.tmp 35) (.seq (.seq (.ops none [⟨(some 36), .p (.mv (.tmp 5))⟩,
 ⟨(some 37), .p (.lenSl (.tmp 36))⟩,
 ⟨(some 38), .p (.mv (.tmp 7))⟩,
 ⟨(some 39), .p (.lenSl (.tmp 38))⟩,
 ⟨(some 40), .p (.bin .add (.tmp 37) (.tmp 39))⟩,
 ⟨(some 41), .p (.bin .eql (.tmp 40) (.const (.int .i64 (0))))⟩,
 ⟨(some 42), .p (.mv (.tmp 41))⟩])
 (.cut [6, 8, 42] c7z9)) c7z7)
 (.skip))) c7z5))))
theorem k7 : compFn Tryz.prog 7 [[], [], [], [], [], [6, 8, 42], [8, 42, 44], [8, 46], [46, 48], [50], [50, 51], [], [], [], [3, 6, 7, 8, 9, 60], [3, 7, 8, 9, 60, 62], [3, 7, 8, 9, 64], [3, 7, 8, 9, 64, 69], [3, 7, 8, 9, 71], [3, 7, 9, 71, 73], [3, 7, 9, 75], [3, 7, 9, 75, 77], [], [], [], [], [3, 7, 9], [10], [], [], [], [], [3, 7, 9, 10], [11, 12], [], [], [], [3, 7, 9, 10, 11], [], [], [], [3, 7, 9, 10], [], []] = some (119, c7, [.tmp 2]) := by kernel_rfl
def K7z0 (_P : Program) (K : VK) : Kont := bodyP [.tmp 2] K
def K7z5 : Kont := thenK (iwpP P c7z5 (K7z0 P K)) (K7z0 P K)
def K7z7 : Kont := thenK (iwpP P c7z7 (K7z5 P K)) (K7z5 P K)
def K7z21 : Kont := thenK (iwpP P c7z21 (K7z0 P K)) (K7z0 P K)
def K7z22 : Kont := thenK (iwpP P c7z22 (K7z21 P K)) (K7z21 P K)
def K7z40 : Kont := thenK (iwpP P c7z40 (K7z0 P K)) (K7z0 P K)
def K7z42 : Kont := inBlockK 0 (K7z40 P K)
def K7z43 (j3 r7 want9 : Value) (L1 : LK) : Kont := thenK (fun f' h'' => (([3, 7, 9] : List Nat).map f' : List Value) = [j3, r7, want9] ∧ L1 (([10] : List Nat).map f') h'') (K7z42 P K)
def K7z46 (j3 r7 want9 : Value) (L1 : LK) : Kont := thenK (iwpP P c7z46 (K7z43 P K j3 r7 want9 L1)) (K7z43 P K j3 r7 want9 L1)
def K7z47 (j3 r7 want9 : Value) (L1 : LK) : Kont := inBlockK 1 (K7z46 P K j3 r7 want9 L1)
def K7z49 (j3 r7 want9 : Value) (L1 : LK) : Kont := thenK (iwpP P c7z49 (K7z47 P K j3 r7 want9 L1)) (K7z47 P K j3 r7 want9 L1)
def K7z51 (j3 r7 want9 : Value) (L1 : LK) : Kont := inBlockK 2 (K7z49 P K j3 r7 want9 L1)
def K7z52 (j3 r7 want9 i10 : Value) (L1 L2 : LK) : Kont := thenK (fun f' h'' => (([3, 7, 9, 10] : List Nat).map f' : List Value) = [j3, r7, want9, i10] ∧ L2 (([11, 12] : List Nat).map f') h'') (K7z51 P K j3 r7 want9 L1)
def p7z9 (e6 f8 x42 : Value) (h : Heap) : Prop := CutP (iwpP P c7z9 (K7z7 P K)) [6, 8, 42] [e6, f8, x42] h
def p7z11 (f8 x42 x44 : Value) (h : Heap) : Prop := CutP (iwpP P c7z11 (K7z7 P K)) [8, 42, 44] [f8, x42, x44] h
def p7z13 (f8 x46 : Value) (h : Heap) : Prop := CutP (iwpP P c7z13 (K7z7 P K)) [8, 46] [f8, x46] h
def p7z15 (x46 x48 : Value) (h : Heap) : Prop := CutP (iwpP P c7z15 (K7z7 P K)) [46, 48] [x46, x48] h
def p7z17 (x50 : Value) (h : Heap) : Prop := CutP (iwpP P c7z17 (K7z7 P K)) [50] [x50] h
def p7z19 (x50 x51 : Value) (h : Heap) : Prop := CutP (iwpP P c7z19 (K7z7 P K)) [50, 51] [x50, x51] h
def p7z24 (j3 e6 r7 f8 want9 x60 : Value) (h : Heap) : Prop := CutP (iwpP P c7z24 (K7z22 P K)) [3, 6, 7, 8, 9, 60] [j3, e6, r7, f8, want9, x60] h
def p7z26 (j3 r7 f8 want9 x60 x62 : Value) (h : Heap) : Prop := CutP (iwpP P c7z26 (K7z22 P K)) [3, 7, 8, 9, 60, 62] [j3, r7, f8, want9, x60, x62] h
def p7z28 (j3 r7 f8 want9 x64 : Value) (h : Heap) : Prop := CutP (iwpP P c7z28 (K7z22 P K)) [3, 7, 8, 9, 64] [j3, r7, f8, want9, x64] h
def p7z30 (j3 r7 f8 want9 x64 x69 : Value) (h : Heap) : Prop := CutP (iwpP P c7z30 (K7z22 P K)) [3, 7, 8, 9, 64, 69] [j3, r7, f8, want9, x64, x69] h
def p7z32 (j3 r7 f8 want9 x71 : Value) (h : Heap) : Prop := CutP (iwpP P c7z32 (K7z22 P K)) [3, 7, 8, 9, 71] [j3, r7, f8, want9, x71] h
def p7z34 (j3 r7 want9 x71 x73 : Value) (h : Heap) : Prop := CutP (iwpP P c7z34 (K7z22 P K)) [3, 7, 9, 71, 73] [j3, r7, want9, x71, x73] h
def p7z36 (j3 r7 want9 x75 : Value) (h : Heap) : Prop := CutP (iwpP P c7z36 (K7z22 P K)) [3, 7, 9, 75] [j3, r7, want9, x75] h
def p7z38 (j3 r7 want9 x75 x77 : Value) (h : Heap) : Prop := CutP (iwpP P c7z38 (K7z22 P K)) [3, 7, 9, 75, 77] [j3, r7, want9, x75, x77] h
def p7z43 (j3 r7 want9 : Value) (L1 : LK) (xs : List Value) (h : Heap) : Prop := CutP (iwpP P c7z43 (K7z43 P K j3 r7 want9 L1)) ([3, 7, 9] ++ [10]) ([j3, r7, want9] ++ xs) h
def p7z52 (j3 r7 want9 i10 : Value) (L1 L2 : LK) (xs : List Value) (h : Heap) : Prop := CutP (iwpP P c7z52 (K7z52 P K j3 r7 want9 i10 L1 L2)) ([3, 7, 9, 10] ++ [11, 12]) ([j3, r7, want9, i10] ++ xs) h
def p7z57 (j3 r7 want9 i10 set11 : Value) (L1 : LK) (h : Heap) : Prop := CutP (iwpP P c7z57 (K7z47 P K j3 r7 want9 L1)) [3, 7, 9, 10, 11] [j3, r7, want9, i10, set11] h
def p7z61 (j3 r7 want9 i10 : Value) (L1 : LK) (h : Heap) : Prop := CutP (iwpP P c7z61 (K7z43 P K j3 r7 want9 L1)) [3, 7, 9, 10] [j3, r7, want9, i10] h
theorem q7z19 (x50 x51 : Value) (h : Heap) : p7z19 P K x50 x51 h =
 (OP (iPick x50 x51 (.bool false)) fun x52 =>
 K x52 h) := (CutP_def _ _ _ _).trans (by kernel_rfl)
theorem q7z17 (x50 : Value) (h : Heap) : p7z17 P K x50 h =
 (GdP x50 true
 (CallP P 14 [] h fun x51 h_1 =>
 p7z19 P K x50 x51 h_1)
 (p7z19 P K x50 undef h)) := (CutP_def _ _ _ _).trans (by kernel_rfl)
theorem q7z15 (x46 x48 : Value) (h : Heap) : p7z15 P K x46 x48 h =
 (OP (iPick x46 x48 (.bool false)) fun x49 =>
 p7z17 P K x49 h) := (CutP_def _ _ _ _).trans (by kernel_rfl)
theorem q7z13 (f8 x46 : Value) (h : Heap) : p7z13 P K f8 x46 h =
 (GdP x46 true
 (OP (iBin .eql f8 (.int .i64 (1))) fun x48 =>
 p7z15 P K x46 x48 h)
 (p7z15 P K x46 undef h)) := (CutP_def _ _ _ _).trans (by kernel_rfl)
theorem q7z11 (f8 x42 x44 : Value) (h : Heap) : p7z11 P K f8 x42 x44 h =
 (OP (iPick x42 x44 (.bool false)) fun x45 =>
 p7z13 P K f8 x45 h) := (CutP_def _ _ _ _).trans (by kernel_rfl)
theorem q7z9 (e6 f8 x42 : Value) (h : Heap) : p7z9 P K e6 f8 x42 h =
 (GdP x42 true
 (OP (iBin .eql e6 (.int .i64 (1))) fun x44 =>
 p7z11 P K f8 x42 x44 h)
 (p7z11 P K f8 x42 undef h)) := (CutP_def _ _ _ _).trans (by kernel_rfl)
theorem q7z38 (j3 r7 want9 x75 x77 : Value) (h : Heap) : p7z38 P K j3 r7 want9 x75 x77 h =
 (OP (iPick x75 (.bool true) x77) fun x78 =>
 IfP x78
 (K (.bool false) h)
 (LoopP [(.int .i64 (0))] h fun L1 xs hx =>
 p7z43 P K j3 r7 want9 L1 xs hx)) := (CutP_def _ _ _ _).trans (by kernel_rfl)
theorem q7z36 (j3 r7 want9 x75 : Value) (h : Heap) : p7z36 P K j3 r7 want9 x75 h =
 (GdP x75 false
 (CallP P 14 [] h fun x76 h_1 =>
 OP (iUn .not x76) fun x77 =>
 p7z38 P K j3 r7 want9 x75 x77 h_1)
 (p7z38 P K j3 r7 want9 x75 undef h)) := (CutP_def _ _ _ _).trans (by kernel_rfl)
theorem q7z34 (j3 r7 want9 x71 x73 : Value) (h : Heap) : p7z34 P K j3 r7 want9 x71 x73 h =
 (OP (iPick x71 (.bool true) x73) fun x74 =>
 p7z36 P K j3 r7 want9 x74 h) := (CutP_def _ _ _ _).trans (by kernel_rfl)
theorem q7z32 (j3 r7 f8 want9 x71 : Value) (h : Heap) : p7z32 P K j3 r7 f8 want9 x71 h =
 (GdP x71 false
 (OP (iBin .neq f8 (.int .i64 (0))) fun x73 =>
 p7z34 P K j3 r7 want9 x71 x73 h)
 (p7z34 P K j3 r7 want9 x71 undef h)) := (CutP_def _ _ _ _).trans (by kernel_rfl)
theorem q7z30 (j3 r7 f8 want9 x64 x69 : Value) (h : Heap) : p7z30 P K j3 r7 f8 want9 x64 x69 h =
 (OP (iPick x64 (.bool true) x69) fun x70 =>
 p7z32 P K j3 r7 f8 want9 x70 h) := (CutP_def _ _ _ _).trans (by kernel_rfl)
theorem q7z28 (j3 r7 f8 want9 x64 : Value) (h : Heap) : p7z28 P K j3 r7 f8 want9 x64 h =
 (GdP x64 false
 (OP (iLenSl r7) fun x66 =>
 OP (iLenSl want9) fun x68 =>
 OP (iBin .neq x66 x68) fun x69 =>
 p7z30 P K j3 r7 f8 want9 x64 x69 h)
 (p7z30 P K j3 r7 f8 want9 x64 undef h)) := (CutP_def _ _ _ _).trans (by kernel_rfl)
theorem q7z26 (j3 r7 f8 want9 x60 x62 : Value) (h : Heap) : p7z26 P K j3 r7 f8 want9 x60 x62 h =
 (OP (iPick x60 (.bool true) x62) fun x63 =>
 p7z28 P K j3 r7 f8 want9 x63 h) := (CutP_def _ _ _ _).trans (by kernel_rfl)
theorem q7z24 (j3 e6 r7 f8 want9 x60 : Value) (h : Heap) : p7z24 P K j3 e6 r7 f8 want9 x60 h =
 (GdP x60 false
 (OP (iBin .neq e6 (.int .i64 (0))) fun x62 =>
 p7z26 P K j3 r7 f8 want9 x60 x62 h)
 (p7z26 P K j3 r7 f8 want9 x60 undef h)) := (CutP_def _ _ _ _).trans (by kernel_rfl)
theorem q7z52 (j3 r7 want9 i10 : Value) (L1 L2 : LK) (set11 k12 : Value) (h : Heap) : p7z52 P K j3 r7 want9 i10 L1 L2 [set11, k12] h =
 (OP (iAdrSl 1 want9 i10) fun x88 =>
 OP (iLoad false 1 h x88) fun x89 =>
 OP (iLenSl x89) fun x90 =>
 OP (iBin .lss k12 x90) fun x91 =>
 IfP x91
 (OP (iAdrSl 1 want9 i10) fun x97 =>
 OP (iLoad false 1 h x97) fun x98 =>
 OP (iAdrSl 1 x98 k12) fun x100 =>
 OP (iLoad false 1 h x100) fun x101 =>
 OP (iBin .shl (.int .i64 (1)) x101) fun x102 =>
 OP (iBin .or set11 x102) fun x103 =>
 OP (iBin .add k12 (.int .i64 (1))) fun x93 =>
 ([j3, r7, want9, i10] : List Value) = [j3, r7, want9, i10] ∧ L2 [x103, x93] h)
 (p7z57 P K j3 r7 want9 i10 set11 L1 h)) := (CutP_def _ _ _ _).trans (by kernel_rfl)
theorem q7z57 (j3 r7 want9 i10 set11 : Value) (L1 : LK) (h : Heap) : p7z57 P K j3 r7 want9 i10 set11 L1 h =
 (CallP P 36 [j3, set11] h fun x107 h_1 =>
 OP (iExt 0 x107) fun x108 =>
 OP (iExt 1 x107) fun x109 =>
 OP (iAdrSl 1 r7 i10) fun x112 =>
 OP (iLoad false 1 h_1 x112) fun x113 =>
 (True) ∧
 CallP P 17 [x108, x109] h_1 fun x116 h_2 =>
 (iLoad false 1 h_2 x112 = some x113 ∧ True) ∧
 CallP P 16 [x113, x116] h_2 fun x117 h_3 =>
 (True) ∧
 OP (iUn .not x117) fun x118 =>
 IfP x118
 (K (.bool false) h_3)
 (p7z61 P K j3 r7 want9 i10 L1 h_3)) := (CutP_def _ _ _ _).trans (by kernel_rfl)
theorem q7z61 (j3 r7 want9 i10 : Value) (L1 : LK) (h : Heap) : p7z61 P K j3 r7 want9 i10 L1 h =
 (OP (iBin .add i10 (.int .i64 (1))) fun x84 =>
 ([j3, r7, want9] : List Value) = [j3, r7, want9] ∧ L1 [x84] h) := (CutP_def _ _ _ _).trans (by kernel_rfl)
theorem q7z43 (j3 r7 want9 : Value) (L1 : LK) (i10 : Value) (h : Heap) : p7z43 P K j3 r7 want9 L1 [i10] h =
 (OP (iLenSl want9) fun x81 =>
 OP (iBin .lss i10 x81) fun x82 =>
 IfP x82
 (LoopP [(.int .i64 (0)), (.int .i64 (0))] h fun L2 xs hx =>
 p7z52 P K j3 r7 want9 i10 L1 L2 xs hx)
 (K (.bool true) h)) := (CutP_def _ _ _ _).trans (by kernel_rfl)
def T7 (s0 : Value) (h : Heap) : Prop :=
 OH (iBox 71 h s0) fun s1 h_1 =>
 OP (iLoad true 2 h_1 s1) fun x16 =>
 CallP P 30 [x16, (.int .i64 (10))] h_1 fun x17 h_2 =>
 OP (iExt 0 x17) fun x18 =>
 OP (iExt 1 x17) fun x19 =>
 CallP P 31 [x18, x19] h_2 fun x23 h_3 =>
 OP (iExt 0 x23) fun x24 =>
 OP (iExt 1 x23) fun x25 =>
 CallP P 32 [x18, x19] h_3 fun x29 h_4 =>
 OP (iExt 0 x29) fun x30 =>
 OP (iExt 1 x29) fun x31 =>
 CallP P 33 [x18, x19] h_4 fun x34 h_5 =>
 OP (iUn .not x34) fun x35 =>
 IfP x35
 (OP (iLenSl x24) fun x37 =>
 OP (iLenSl x30) fun x39 =>
 OP (iBin .add x37 x39) fun x40 =>
 OP (iBin .eql x40 (.int .i64 (0))) fun x41 =>
 p7z9 P K x25 x31 x41 h_5)
 (CallP P 34 [x18, x19] h_5 fun x55 h_6 =>
 CallP P 35 [x24, x55] h_6 fun x58 h_7 =>
 OP (iUn .not x58) fun x59 =>
 p7z24 P K x18 x25 x30 x31 x55 x59 h_7)
theorem e7 (s0 : Value) (h : Heap) : iwpP P c7 (bodyP [.tmp 2] K) (frame0 [s0]) h = T7 P K s0 h := by kernel_rfl
theorem f7 {K : VK} {s0 : Value} {h : Heap} (H : T7 Tryz.prog K s0 h) : CallP Tryz.prog 7 [s0] h K :=
 callP_intro k7 (Nat.le_of_ble_eq_true rfl) ((e7 Tryz.prog K s0 h).mpr H)
end Go.Proofs.YtelmdbpaoifmoaaGreat

namespace Go.Sim

/-- What of the memory is kept: objects whose first cell is of some kind. -/
def KP (p : Value → Bool) (h h' : Heap) : Prop := ∀ d c r, objCells h d = some (c :: r) → p c = true → objCells h' d = some (c :: r)

theorem KP.refl (p : Value → Bool) (h : Heap) : KP p h h := fun _ _ _ a _ => a
theorem KP.trans {p : Value → Bool} {a b c : Heap} (x : KP p a b) (y : KP p b c) : KP p a c := fun d v r h1 h2 => y d v r (x d v r h1 h2) h2
theorem KP.ex {p : Value → Bool} {a b : Heap} (x : EX a b) : KP p a b := fun _ _ _ h1 _ => x.cells h1
theorem KP.set {p : Value → Bool} {h : Heap} {i : Nat} {e : TypeId} {cs : List Value} (hg : h[i]? = some (.arr e cs)) (hp : ∀ c r, cs = c :: r → p c = false) (o : IObj) : KP p h (h.set i o) := by
  intro d c r h1 h2
  have hne : i ≠ d := by
    rintro rfl
    simp only [objCells, hg] at h1
    cases h1
    rw [hp _ _ rfl] at h2
    cases h2
  simp only [objCells] at h1 ⊢
  rw [List.getElem?_set_ne hne]
  exact h1

/-- Rows of cells in memory. -/
def RS (h : Heap) (e : TypeId) (esz : Nat) (v : Value) (rows : List (List Value)) : Prop :=
  (∀ r ∈ rows, r.length = esz) ∧ ((v = .slice none 0 0 ∧ rows = []) ∨ ∃ i o, v = sl e i o rows.length ∧ (rows = [] ∨ ∃ pre post, objCells h i = some (pre ++ rows.flatten ++ post) ∧ pre.length = o))

section
variable {h h' : Heap} {e : TypeId} {esz : Nat} {v : Value} {rows : List (List Value)}

theorem RS.mono (x : EX h h') (p : RS h e esz v rows) : RS h' e esz v rows :=
  ⟨p.1, p.2.imp id fun ⟨i, o, a, b⟩ => ⟨i, o, a, b.imp id fun ⟨pre, post, c, d⟩ => ⟨pre, post, x.cells c, d⟩⟩⟩

theorem RS.len (p : RS h e esz v rows) : iLenSl v = some (I rows.length) := by
  rcases p.2 with ⟨rfl, rfl⟩ | ⟨i, o, rfl, _⟩ <;> rfl

theorem RS.one (p : RS h e esz v rows) : noTuple v = true ∧ vcells v = [v] := by
  rcases p.2 with ⟨rfl, _⟩ | ⟨i, o, rfl, _⟩ <;> exact ⟨rfl, rfl⟩

theorem flatten_len : ∀ {rows : List (List Value)}, (∀ r ∈ rows, r.length = esz) → rows.flatten.length = rows.length * esz
  | [], _ => by simp
  | r :: rows, h => by
    have ih := flatten_len (rows := rows) fun x hx => h x (List.mem_cons_of_mem _ hx)
    simp only [List.flatten_cons, List.length_append, List.length_cons, h r (List.mem_cons_self ..), ih]
    rw [Nat.succ_mul]; omega

theorem flatten_at : ∀ {rows : List (List Value)}, (∀ r ∈ rows, r.length = esz) → ∀ k (hk : k < rows.length), (rows.flatten.drop (k * esz)).take esz = rows[k]
  | r :: rows, h, 0, _ => by
    have := h r (by simp)
    simp only [List.flatten_cons, Nat.zero_mul, List.drop_zero, List.getElem_cons_zero]
    rw [← this, List.take_left']
    rfl
  | r :: rows, h, k + 1, hk => by
    have hr := h r (by simp)
    have := flatten_at (rows := rows) (fun x hx => h x (by simp [hx])) k (by simpa using hk)
    simp only [List.flatten_cons, List.getElem_cons_succ]
    rw [← this, show (k + 1) * esz = r.length + k * esz by rw [Nat.succ_mul, hr]; omega, List.drop_append, List.drop_eq_nil_of_le (by omega), List.nil_append, show r.length + k * esz - r.length = k * esz by omega]

/-- The place of a row. -/
theorem RS.get (p : RS h e esz v rows) {k : Nat} (hk : k < rows.length) : ∃ i o cs, iAdrSl esz v (I k) = some (pt i o) ∧ objCells h i = some cs ∧ o + esz ≤ cs.length ∧ (cs.drop o).take esz = rows[k] := by
  rcases p.2 with ⟨_, rfl⟩ | ⟨i, o, rfl, rfl | ⟨pre, post, hc, ho⟩⟩
  · simp at hk
  · simp at hk
  have hf := flatten_len p.1
  have hle : (k + 1) * esz ≤ rows.length * esz := Nat.mul_le_mul_right _ hk
  rw [Nat.succ_mul] at hle
  refine ⟨i, o + k * esz, _, ?_, hc, ?_, ?_⟩
  · have : (0 : Int) ≤ (k : Int) ∧ (k : Int) < (rows.length : Int) := by omega
    simp [sl, iAdrSl, this]
  · simp only [List.length_append, hf]; omega
  · rw [← flatten_at p.1 k hk, ← ho, List.append_assoc, List.drop_append, List.drop_eq_nil_of_le (by omega), List.nil_append, show pre.length + k * esz - pre.length = k * esz by omega]
    rw [List.drop_append_of_le_length (by rw [hf]; omega), List.take_append_of_le_length (by rw [List.length_drop, hf]; omega)]

theorem row_all {i o : Nat} {cs row : List Value} (hc : objCells h i = some cs) (hl : o + esz ≤ cs.length) (ht : (cs.drop o).take esz = row) : iLoad true esz h (pt i o) = some (.agg row.toArray) := by
  simp [iLoad, hc, iPart, hl, ht]

theorem RS.nil (h : Heap) (e : TypeId) (esz : Nat) : RS h e esz (.slice none 0 0) [] := ⟨fun r hr => by simp at hr, .inl ⟨rfl, rfl⟩⟩

theorem RS.arr {i : Nat} (hw : ∀ r ∈ rows, r.length = esz) (hg : h[i]? = some (.arr e rows.flatten)) : RS h e esz (sl e i 0 rows.length) rows :=
  ⟨hw, .inr ⟨i, 0, rfl, .inr ⟨[], [], by simp [objCells, hg], rfl⟩⟩⟩

/-- The rows from some place on. -/
theorem RS.from (p : RS h e esz v rows) {k : Nat} (hk : k ≤ rows.length) : ∃ v', iSlSl e esz v (some (I k)) none = some v' ∧ RS h e esz v' (rows.drop k) := by
  have hw : ∀ r ∈ rows.drop k, r.length = esz := fun r hr => p.1 r (List.mem_of_mem_drop hr)
  rcases p.2 with ⟨rfl, rfl⟩ | ⟨i, o, rfl, hc⟩
  · have : k = 0 := by simpa using hk
    subst this
    exact ⟨_, rfl, ⟨hw, .inl ⟨rfl, rfl⟩⟩⟩
  · refine ⟨sl e i (o + k * esz) (rows.length - k), by simp [iSlSl, sl, iBounds, natOf, hk], hw, .inr ⟨i, _, by rw [List.length_drop], ?_⟩⟩
    rcases hc with rfl | ⟨pre, post, hc, ho⟩
    · left; simp
    · right
      refine ⟨pre ++ (rows.take k).flatten, post, ?_, ?_⟩
      · rw [hc]
        have : rows.flatten = (rows.take k).flatten ++ (rows.drop k).flatten := by rw [← List.flatten_append, List.take_append_drop]
        rw [this]; simp
      · rw [List.length_append, ho, flatten_len fun r hr => p.1 r (List.mem_of_mem_take hr), List.length_take, Nat.min_eq_left hk]

/-- Rows that this call has made. -/
def OwnR (b : Nat) (hx : Heap) (e : TypeId) (esz : Nat) (v : Value) (rows : List (List Value)) : Prop :=
  (∀ r ∈ rows, r.length = esz) ∧ ((v = .slice none 0 0 ∧ rows = []) ∨ ∃ i, b ≤ i ∧ v = sl e i 0 rows.length ∧ hx[i]? = some (.arr e rows.flatten))

theorem OwnR.start (b : Nat) (hx : Heap) (e : TypeId) (esz : Nat) : OwnR b hx e esz (.slice none 0 0) [] := ⟨fun r hr => by simp at hr, .inl ⟨rfl, rfl⟩⟩

theorem OwnR.rs {b : Nat} (o : OwnR b h e esz v rows) : RS h e esz v rows := by
  rcases o.2 with ⟨rfl, rfl⟩ | ⟨i, _, rfl, hg⟩
  · exact .nil _ _ _
  · exact .arr o.1 hg

theorem OwnR.keep {b : Nat} (o : OwnR b h e esz v rows) (x : ∀ d n, v = sl e d 0 n → b ≤ d → h'[d]? = h[d]?) : OwnR b h' e esz v rows :=
  ⟨o.1, o.2.imp id fun ⟨i, h1, h2, h3⟩ => ⟨i, h1, h2, by rw [x i _ h2 h1]; exact h3⟩⟩

theorem OwnR.lt {b d n : Nat} (o : OwnR b h e esz v rows) (hv : v = sl e d 0 n) : b ≤ d ∧ d < h.length ∧ h[d]? = some (.arr e rows.flatten) := by
  rcases o.2 with ⟨h1, _⟩ | ⟨i, h1, h2, h3⟩
  · rw [h1] at hv; cases hv
  · rw [h2] at hv
    obtain ⟨rfl, _⟩ := sl_inj hv
    exact ⟨h1, (List.getElem?_eq_some_iff.1 h3).1, h3⟩

theorem OwnR.ex {b : Nat} (o : OwnR b h e esz v rows) (x : EX h h') : OwnR b h' e esz v rows := o.keep fun d _ hv _ => x.2 d (o.lt hv).2.1

theorem OwnR.kp {b : Nat} {p : Value → Bool} (o : OwnR b h e esz v rows) (hp : ∀ c r, rows.flatten = c :: r → p c = false) (hold : ∀ d, d < h.length → (∀ n, v ≠ sl e d 0 n) → h'[d]? = h[d]?) : KP p h h' := by
  intro d c r h1 h2
  have hd : d < h.length := by
    apply Classical.byContradiction
    intro hge
    rw [objCells, List.getElem?_eq_none (by omega)] at h1
    cases h1
  have hne : ∀ n, v ≠ sl e d 0 n := by
    intro n hv
    have := (o.lt hv).2.2
    simp only [objCells, this] at h1
    cases h1' : rows.flatten with
    | nil => rw [h1'] at h1; cases h1
    | cons y ys =>
      rw [h1'] at h1
      cases h1
      rw [hp _ _ h1'] at h2
      cases h2
  simp only [objCells, hold d hd hne] at h1 ⊢
  exact h1

/-- One row more. -/
theorem OwnR.app {h0 : Heap} {bytes : Nat} {x : Value} {row zs : List Value} {K : Value → Heap → Prop} (o : OwnR h0.length h e esz v rows) (hex : EX h0 h) (hz : zs.length = esz) (h1 : noTuple x = true) (h2 : vcells x = row) (hr : row.length = esz)
    (hb : (rows.length + 1) * bytes ≤ 140737488355328) (hm : rows.length + 1 ≤ maxLen)
    (hk : ∀ v' h', EX h0 h' → (∀ d, d < h.length → (∀ n, v ≠ sl e d 0 n) → h'[d]? = h[d]?) → OwnR h0.length h' e esz v' (rows ++ [row]) → K v' h') :
    OH (iMkSl e 1 zs h [(0, esz, x)]) fun a h2 => OH (iApp e esz bytes h2 v a) K := by
  have hw : ∀ r ∈ rows ++ [row], r.length = esz := by
    intro r hr'
    rcases List.mem_append.1 hr' with hr' | hr'
    · exact o.1 r hr'
    · rw [List.mem_singleton.1 hr']; exact hr
  have e1 : iMkSl e 1 zs h [(0, esz, x)] = some (sl e h.length 0 1, h ++ [.arr e row]) := by
    have hzr : zrep zs 1 = zs := by simp [zrep]
    have hs : setAt zs 0 row = row := by
      unfold setAt
      rw [List.take_zero, List.nil_append, List.drop_eq_nil_of_le (by omega), List.append_nil]
    simp only [iMkSl, hzr, fillL, h1, h2, hs]
    rw [if_pos ⟨trivial, hr, by omega⟩]
    rfl
  rw [e1]
  simp only [OH_some]
  have e2 : sliceCells (h ++ [.arr e row]) esz (sl e h.length 0 1) = some row := by
    simp [sliceCells, sl, objCells, hr]
    rw [← hr, List.take_length]
  have e3 : lenOfSl (sl e h.length 0 1) = some 1 := rfl
  rcases o.2 with ⟨rfl, rfl⟩ | ⟨i, hi, rfl, hget⟩
  · refine OH_of (v := sl e (h.length + 1) 0 1) (h := h ++ [.arr e row] ++ [.arr e row]) ?_ (hk _ _ ((hex.push _).push _) (fun d hd _ => by rw [List.getElem?_append_left (by simp; omega), List.getElem?_append_left hd]) ⟨hw, .inr ⟨h.length + 1, by have := hex.1; omega, rfl, by simp⟩⟩)
    have hb' : 1 * bytes ≤ 140737488355328 := by simpa using hb
    have hm' : 1 ≤ maxLen := by simpa using hm
    simp only [iApp, e2, e3]
    rw [if_neg (by omega), if_pos ⟨hb', hm'⟩]
    simp
  · have hlt := (List.getElem?_eq_some_iff.1 hget).1
    have hg : (h ++ [.arr e row])[i]? = some (.arr e rows.flatten) := by rw [List.getElem?_append_left hlt]; exact hget
    refine OH_of (v := sl e (h.length + 1) 0 (rows.length + 1)) (h := (h ++ [IObj.arr e row]).set i IObj.dead ++ [IObj.arr e (rows.flatten ++ row)]) ?_
      (hk _ _ (((hex.push _).set hi _).push _) (fun d hd hne => ?_) ⟨hw, .inr ⟨h.length + 1, by have := hex.1; omega, by simp, ?_⟩⟩)
    · simp only [iApp, e2, e3]
      simp only [sl, hg]
      rw [if_pos ⟨trivial, trivial, flatten_len o.1, hb, hm⟩, if_neg (by omega)]
      simp
    · have hdi : i ≠ d := by rintro rfl; exact hne _ rfl
      rw [List.getElem?_append_left (by simp; omega), List.getElem?_set_ne hdi, List.getElem?_append_left hd]
    · rw [List.getElem?_append_right (by simp)]
      simp

end

end Go.Sim


namespace Go.Proofs.YtelmdbpaoifmoaaGreat
open Go.Sim

/-- Fractions in memory. -/
def RatL (h : Heap) (v : Value) (qs : List (Int × Int)) : Prop :=
  ∃ rows, RS h 107 4 v rows ∧ rows.length = qs.length ∧ ∀ (k : Nat) (row : List Value) (q : Int × Int), rows[k]? = some row → qs[k]? = some q → RatV h (.agg row.toArray) q.1 q.2


theorem RatL.mono {h h' : Heap} {v : Value} {qs : List (Int × Int)} (x : EX h h') (p : RatL h v qs) : RatL h' v qs :=
  let ⟨rows, a, b, c⟩ := p; ⟨rows, a.mono x, b, fun k row q h1 h2 => (c k row q h1 h2).mono x⟩

theorem RatL.len {h : Heap} {v : Value} {qs : List (Int × Int)} (p : RatL h v qs) : iLenSl v = some (I qs.length) := by
  obtain ⟨rows, a, b, _⟩ := p; rw [← b]; exact a.len

theorem RatL.get {h : Heap} {v : Value} {qs : List (Int × Int)} (p : RatL h v qs) {k : Nat} (hk : k < qs.length) : ∃ i o r, iAdrSl 4 v (I k) = some (pt i o) ∧ iLoad true 4 h (pt i o) = some r ∧ RatV h r qs[k].1 qs[k].2 := by
  obtain ⟨rows, a, b, c⟩ := p
  have hk' : k < rows.length := by omega
  obtain ⟨i, o, cs, g1, g2, g3, g4⟩ := a.get hk'
  exact ⟨i, o, _, g1, row_all g2 g3 g4, c k _ _ (List.getElem?_eq_getElem hk') (List.getElem?_eq_getElem hk)⟩

/-- Keeps what begins with a digit of the program's numbers. -/
def isW : Value → Bool
  | .int .u32 _ => true
  | _ => false

theorem DSw.keep {e : TypeId} {h h' : Heap} {v : Value} {xs : List Nat} (x : KP isW h h') (p : DS e .u32 h v xs) : DS e .u32 h' v xs := by
  refine p.imp id fun ⟨i, a, b⟩ => ⟨i, a, ?_⟩
  cases xs with
  | nil => exact .inl rfl
  | cons y ys =>
    obtain ⟨r, c⟩ := b.resolve_left (by simp)
    exact .inr ⟨r, x i _ _ c rfl⟩

theorem MagV.keep {h h' : Heap} {v : Value} {n : Nat} (x : KP isW h h') (p : MagV h v n) : MagV h' v n := let ⟨xs, a, b, c⟩ := p; ⟨xs, DSw.keep x a, b, c⟩
theorem RatV.keep {h h' : Heap} {v : Value} {a b : Int} (x : KP isW h h') (p : RatV h v a b) : RatV h' v a b := let ⟨u, w, e, m, n⟩ := p; ⟨u, w, e, m.keep x, n.keep x⟩

theorem RatV.cells {h : Heap} {v : Value} {a b : Int} (p : RatV h v a b) : noTuple v = true ∧ ∃ s u t w, v = .agg #[B s, u, B t, w] ∧ vcells v = [B s, u, B t, w] := by
  obtain ⟨u, w, rfl, _⟩ := p
  exact ⟨rfl, _, _, _, _, rfl, rfl⟩

/-- Fractions that are being gathered. -/
def OwnQ (b : Nat) (h : Heap) (v : Value) (qs : List (Int × Int)) : Prop :=
  ∃ rows, OwnR b h 107 4 v rows ∧ rows.length = qs.length ∧ (∀ r ∈ rows, ∃ s t, r = .bool s :: t) ∧ ∀ (k : Nat) (row : List Value) (q : Int × Int), rows[k]? = some row → qs[k]? = some q → RatV h (.agg row.toArray) q.1 q.2

theorem OwnQ.start (b : Nat) (h : Heap) : OwnQ b h (.slice none 0 0) [] := ⟨[], OwnR.start .., rfl, fun r hr => by simp at hr, fun k r q h => by simp at h⟩

theorem OwnQ.ratL {b : Nat} {h : Heap} {v : Value} {qs : List (Int × Int)} (o : OwnQ b h v qs) : RatL h v qs := let ⟨rows, a, c, _, d⟩ := o; ⟨rows, a.rs, c, d⟩

theorem OwnQ.ex {b : Nat} {h h' : Heap} {v : Value} {qs : List (Int × Int)} (x : EX h h') (o : OwnQ b h v qs) : OwnQ b h' v qs :=
  let ⟨rows, a, c, e, d⟩ := o; ⟨rows, a.ex x, c, e, fun k r q h1 h2 => (d k r q h1 h2).mono x⟩

theorem flat_bool {rows : List (List Value)} (h : ∀ r ∈ rows, ∃ s t, r = .bool s :: t) : ∀ c r, rows.flatten = c :: r → isW c = false := by
  intro c r hc
  cases rows with
  | nil => simp at hc
  | cons x xs =>
    obtain ⟨s, t, rfl⟩ := h x (by simp)
    simp at hc
    rw [← hc.1]; rfl

theorem OwnQ.app {h0 h : Heap} {v x : Value} {a b : Int} {qs : List (Int × Int)} {zs : List Value} {K : Value → Heap → Prop} (o : OwnQ h0.length h v qs) (hex : EX h0 h) (hx : RatV h x a b) (hz : zs.length = 4) (hl : qs.length ≤ 10000)
    (hk : ∀ v' h', EX h0 h' → KP isW h h' → OwnQ h0.length h' v' (qs ++ [(a, b)]) → K v' h') : OH (iMkSl 107 1 zs h [(0, 4, x)]) fun y h2 => OH (iApp 107 4 64 h2 v y) K := by
  obtain ⟨rows, o1, o2, o3, o4⟩ := o
  obtain ⟨t1, s, u, t, w, e1, e2⟩ := hx.cells
  refine o1.app hex hz t1 e2 rfl (by omega) (by simp [maxLen]; omega) ?_
  intro v' h' x' hold o'
  have kp : KP isW h h' := o1.kp (flat_bool o3) hold
  refine hk v' h' x' kp ⟨_, o', by simp [o2], fun r hr => ?_, fun k row q h1 h2 => ?_⟩
  · rcases List.mem_append.1 hr with hr | hr
    · exact o3 r hr
    · rw [List.mem_singleton.1 hr]; exact ⟨s, _, rfl⟩
  · by_cases hk : k < rows.length
    · rw [List.getElem?_append_left hk] at h1
      rw [List.getElem?_append_left (by omega)] at h2
      exact (o4 k row q h1 h2).keep kp
    · rw [List.getElem?_append_right (by omega)] at h1
      rw [List.getElem?_append_right (by omega), ← o2] at h2
      have h0 : k - rows.length = 0 := by
        have := (List.getElem?_eq_some_iff.1 h1).1
        simp at this; omega
      rw [h0] at h1 h2
      simp only [List.getElem?_cons_zero, Option.some.injEq] at h1 h2
      subst h1 h2
      rw [← e1]
      exact hx.keep kp

/-- Fractions as texts. -/
theorem C78 {v : Value} {qs : List (Int × Int)} {h : Heap} {K : Value → Heap → Prop} (hl : RatL h v qs) (hq : ∀ q ∈ qs, 0 < q.2 ∧ q.1.natAbs < bigW ∧ q.2.natAbs < bigW) (hn : qs.length ≤ 1000)
    (hk : ∀ v' h', EX h h' → SS h' v' (qs.map fun q => ratS q.1 q.2) → K (.tuple #[v', I 0]) h') : CallP Tryz.prog 78 [v] h K := by
  refine f78 ?_
  unfold T78
  simp only [hl.len, OP_some]
  refine loopL (σ := Nat × Value × Heap) (fun q => [q.2.1, I q.1]) (fun q => q.2.2) (fun q => q.1 ≤ qs.length ∧ EX h q.2.2 ∧ OwnS h.length q.2.2 27 q.2.1 ((qs.take q.1).map fun q => S (ratS q.1 q.2))) (fun q => qs.length - q.1)
    (0, .slice none 0 0, h) rfl rfl ⟨Nat.zero_le _, EX.refl _, by simpa using .inl ⟨rfl, rfl⟩⟩ ?_
  rintro ⟨i, vo, g⟩ ⟨hi, xg, own⟩ L hL
  simp only at hi xg own hL ⊢
  rw [q78z6]
  simp only [bin_lss, OP_some, IfP_dec]
  refine ⟨fun hlt => ?_, fun hge => ?_⟩
  · have hil : i < qs.length := by omega
    obtain ⟨b, o, r, g1, g2, g3⟩ := (hl.mono xg).get hil
    obtain ⟨_, s, u, t, w, er, ec⟩ := g3.cells
    have al : iAlloc 107 [(.bool false), (.slice none 0 0), (.bool false), (.slice none 0 0)] g = some (pt g.length 0, g ++ [.arr 107 z4]) := rfl
    simp only [g1, OP_some, g2, al, OH_some]
    have x1 : EX g (g ++ [.arr 107 z4]) := EX.append _ _
    have k1 : (g ++ [IObj.arr 107 z4])[g.length]? = some (.arr 107 z4) := get_last
    have g3' := g3.mono x1
    generalize g ++ [IObj.arr 107 z4] = ga at x1 k1 g3' ⊢
    rw [er, store4 k1]
    simp only [OH_some]
    rw [load4 (set_get k1), ← er]
    simp only [OP_some]
    have x2 : EX g (ga.set g.length (.arr 107 [B s, u, B t, w])) := x1.set (Nat.le_refl _) _
    have kp : KP isW ga (ga.set g.length (.arr 107 [B s, u, B t, w])) := KP.set k1 (by rintro c r h9; cases h9; rfl) _
    have hqi := hq _ (List.getElem_mem hil)
    refine C45q (g3'.keep kp) hqi.1 hqi.2.1 hqi.2.2 ?_
    intro g4 x4
    simp only [ext_tuple, pair0, pair1, OP_some, bin_neq, decide_true, Bool.not_true, IfP_false]
    refine app1 (own.keep fun d n hv hd => (x2.trans x4).2 d (own.lt hv).2.1) (xg.trans (x2.trans x4)) (by simp; omega) (by simp [maxLen]; omega) rfl rfl ?_
    intro v' g5 x5 own'
    simp only [bin_add, OP_some, inc i (by omega), true_and]
    refine hL (i + 1, v', g5) ⟨by show i + 1 ≤ _; omega, x5, ?_⟩ (by show qs.length - (i + 1) < qs.length - i; omega)
    show OwnS h.length g5 27 v' ((qs.take (i + 1)).map _)
    rw [List.take_succ_eq_append_getElem hil, List.map_append]
    exact own'
  · have hie : i = qs.length := by omega
    subst hie
    rw [List.take_length] at own
    rw [q78z16]
    refine hk vo g xg ?_
    rcases own with ⟨rfl, h2⟩ | ⟨j, _, rfl, h3⟩
    · have : qs = [] := by simpa using h2
      subst this
      exact ⟨rfl, fun k hk => by simp at hk⟩
    · have : SS g (sl 27 j 0 (qs.map fun q => ratS q.1 q.2).length) (qs.map fun q => ratS q.1 q.2) := SS.sl (by simp [objCells, h3, List.map_map, Function.comp_def])
      simpa using this

/-- A ratio in lowest terms. -/
def ratio (js : List (Int × Int)) (s : Nat) : Int × Int := (wS js s / (Nat.gcd (wS js s).natAbs (lS js s).natAbs : Int), lS js s / (Nat.gcd (wS js s).natAbs (lS js s).natAbs : Int))

theorem bigW18 : (1000000000000000000 : Nat) < bigW := by unfold bigW; decide +kernel

theorem gcd_one {w l : Int} (hl : 0 < l) : Nat.gcd (w / (Nat.gcd w.natAbs l.natAbs : Int)).natAbs (l / (Nat.gcd w.natAbs l.natAbs : Int)).natAbs = 1 := by
  have hg : 0 < Nat.gcd w.natAbs l.natAbs := Nat.gcd_pos_of_pos_right _ (by omega)
  have key : ∀ x : Int, (Nat.gcd w.natAbs l.natAbs : Int) ∣ x → (x / (Nat.gcd w.natAbs l.natAbs : Int)).natAbs = x.natAbs / Nat.gcd w.natAbs l.natAbs := by
    intro x hx
    obtain ⟨c, rfl⟩ := hx
    rw [Int.mul_ediv_cancel_left c (by omega), Int.natAbs_mul, Int.natAbs_natCast, Nat.mul_div_cancel_left _ hg]
  rw [key w (Int.gcd_dvd_left ..), key l (Int.gcd_dvd_right ..)]
  exact Nat.gcd_div_gcd_div_gcd_of_pos_right (by omega)

/-- Ratios of the decomposition. -/
theorem C32 {vj vp : Value} {js ps : List (Int × Int)} {h : Heap} {K : Value → Heap → Prop} (hj : PS h vj js) (hp : PS h vp ps) (hjl : js.length ≤ 1000) (hpl : ps.length ≤ 1000)
    (hk0 : validB js ps = false → ∀ h', EX h h' → K (.tuple #[.slice none 0 0, I 1]) h')
    (hk : validB js ps = true → ∀ os v h', EX h h' → SidP (bsOf ps js.length) js js.length 0 os → SS h' v (os.map fun s => ratS (ratio js s).1 (ratio js s).2) → K (.tuple #[v, I 0]) h') : CallP Tryz.prog 32 [vj, vp] h K := by
  refine f32 (C59v hj hp hjl hpl (fun hv p g xg => ?_) (fun v hv p g xg hplan => ?_))
  · simp only [ext_tuple, pair0, pair1, OP_some, un_not, Bool.not_false, IfP_true]
    exact hk0 hv g xg
  have hk := hk hv
  have n10 := v.n10
  have P := v.small.pos rfl
  obtain ⟨os, hos⟩ := SidP.ex (bs := bsOf ps js.length) (js := js) P v.n10 v.is.lt (fullS js.length) 0 (Nat.pow_pos (by decide)) (by omega)
  have hlt := SidP.lt (Nat.pow_pos (by decide)) hos
  have hol := sid_len (Nat.pow_pos (by decide)) hos
  have hne : ∀ s ∈ os, s ≠ 0 := by
    have key : ∀ {l : List Nat} {d : Nat}, SidP (bsOf ps js.length) js js.length d l → ∀ s ∈ l, s ≠ 0 := by
      intro l
      induction l with
      | nil => intro d _ s hs; simp at hs
      | cons b l ih =>
        intro d h s hs
        rcases List.mem_cons.1 hs with rfl | hs
        · exact h.1.1.1.ne
        · exact ih h.2 s hs
    exact key hos
  simp only [ext_tuple, pair0, pair1, OP_some, un_not, Bool.not_true, IfP_false]
  refine C73 (os := os) hplan rfl v.n1 v.n10 v.small v.is.len v.is.lt hos ?_
  have ls : iLenSl (sl 131 g.length 0 os.length) = some (I os.length) := rfl
  simp only [ls, OP_some]
  have x1 : EX g (g ++ [.arr 131 (os.map fun b : Nat => U b)]) := EX.append _ _
  have k1 : (g ++ [IObj.arr 131 (os.map fun b : Nat => U b)])[g.length]? = some (.arr 131 (os.map fun b : Nat => U b)) := get_last
  generalize g ++ [IObj.arr 131 (os.map fun b : Nat => U b)] = g1 at x1 k1 ⊢
  have hp1 := hplan.mono x1
  have rfacts : ∀ s ∈ os, 0 < (ratio js s).2 ∧ (ratio js s).1.natAbs < bigW ∧ (ratio js s).2.natAbs < bigW := by
    intro s hs
    have h1 := lS_pos P n10 (hlt s hs) (hne s hs)
    have h2 := lS_le v.small s
    have h3 := wS_le v.small s
    have hW := bigW18
    have hg : 0 < Nat.gcd (wS js s).natAbs (lS js s).natAbs := Nat.gcd_pos_of_pos_right _ (by omega)
    have hd : (Nat.gcd (wS js s).natAbs (lS js s).natAbs : Int) ∣ lS js s := Int.gcd_dvd_right ..
    have hd' : (Nat.gcd (wS js s).natAbs (lS js s).natAbs : Int) ∣ wS js s := Int.gcd_dvd_left ..
    unfold ratio
    generalize Nat.gcd (wS js s).natAbs (lS js s).natAbs = G at *
    obtain ⟨c, hc⟩ := hd
    obtain ⟨c', hc'⟩ := hd'
    rw [hc] at h1 h2
    rw [hc'] at h3
    simp only [hc, hc', Int.mul_ediv_cancel_left _ (show (G : Int) ≠ 0 by omega)]
    have q1 : 0 < c := by
      apply Classical.byContradiction
      intro hn
      have := Int.mul_nonpos_of_nonneg_of_nonpos (show (0 : Int) ≤ (G : Int) by omega) (show c ≤ 0 by omega)
      omega
    have q0 : 0 ≤ c' := by
      apply Classical.byContradiction
      intro hn
      have := Int.mul_le_mul_of_nonpos_right (show (1 : Int) ≤ (G : Int) by omega) (show c' ≤ 0 by omega)
      omega
    have q2 : c ≤ G * c := by have := Int.mul_le_mul_of_nonneg_right (show (1 : Int) ≤ (G : Int) by omega) (show 0 ≤ c by omega); omega
    have q3 : c' ≤ G * c' := by have := Int.mul_le_mul_of_nonneg_right (show (1 : Int) ≤ (G : Int) by omega) q0; omega
    exact ⟨q1, by omega, by omega⟩
  refine loopL (σ := Nat × Value × Heap) (fun q => [q.2.1, I q.1]) (fun q => q.2.2) (fun q => q.1 ≤ os.length ∧ EX g1 q.2.2 ∧ OwnQ g1.length q.2.2 q.2.1 ((os.take q.1).map fun s => ratio js s)) (fun q => os.length - q.1)
    (0, .slice none 0 0, g1) rfl rfl ⟨Nat.zero_le _, EX.refl _, by simpa using OwnQ.start g1.length g1⟩ ?_
  rintro ⟨i, vo, g2⟩ ⟨hi, x2, own⟩ L hL
  simp only at hi x2 own hL ⊢
  rw [q32z10]
  simp only [bin_lss, OP_some, IfP_dec]
  refine ⟨fun hlt2 => ?_, fun hge => ?_⟩
  · have hil : i < os.length := by omega
    have hm := List.getElem_mem hil
    have ld : iLoad false 1 g2 (pt g.length i) = some (U os[i]) := by simp [iLoad, objCells, x2.get k1, iPart, hil]
    simp only [adr_sl hil, OP_some, ld]
    have hs := hlt _ hm
    have h1 := lS_pos P n10 hs (hne _ hm)
    have h2 := lS_le v.small os[i]
    have h3 := wS_le v.small os[i]
    have hW := bigW18
    refine C76 (hp1.mono x2) v.small n10 hs ?_
    intro g3 x3
    rw [sumW_eq]
    refine C75 (by omega) (by omega) ?_
    intro r1 g4 x4 i1
    have x34 := x3.trans x4
    refine C62 (hp1.mono (x2.trans x34)) v.small n10 hs ?_
    intro g5 x5
    rw [sumJ_eq]
    refine C75 (by omega) (by omega) ?_
    intro r2 g6 x6 i2
    have hone : (1 : Int).natAbs < bigW := by show 1 < bigW; omega
    refine C77 ((i1.mono x5).mono x6) i2 (by omega) hone (by omega) hone (by rw [Int.mul_one]; omega) (by omega) (by rw [Int.one_mul]; omega) ?_
    intro r g7 x7 ir
    rw [Int.mul_one, Int.one_mul] at ir
    have x37 := x34.trans (x5.trans (x6.trans x7))
    refine (own.ex x37).app (x2.trans x37) ir rfl (by simp; omega) ?_
    intro v' g8 x8 _ own'
    simp only [bin_add, OP_some, inc i (by omega), true_and]
    refine hL (i + 1, v', g8) ⟨by show i + 1 ≤ _; omega, x8, ?_⟩ (by show os.length - (i + 1) < os.length - i; omega)
    show OwnQ g1.length g8 v' ((os.take (i + 1)).map _)
    rw [List.take_succ_eq_append_getElem hil, List.map_append]
    exact own'
  · have hie : i = os.length := by omega
    rw [hie, List.take_length] at own
    rw [q32z16]
    refine C78 own.ratL (fun q hq => ?_) (by simp; omega) ?_
    · obtain ⟨s, hs, rfl⟩ := List.mem_map.1 hq
      exact rfacts s hs
    intro w g3 x3 hss
    rw [List.map_map] at hss
    simp only [ext_tuple, pair0, pair1, OP_some]
    exact hk os w g3 (xg.trans (x1.trans (x2.trans x3))) hos hss

/-- The set of some numbers. -/
def setL : List Nat → Nat
  | [] => 0
  | k :: l => 2 ^ k ||| setL l

theorem setL_append (a b : List Nat) : setL (a ++ b) = setL a ||| setL b := by
  induction a with
  | nil => simp [setL]
  | cons x a ih => simp [setL, ih, Nat.or_assoc]

theorem setL_listS (s : Nat) : ∀ m i, (setL (listS s m)).testBit i = (decide (i < m) && s.testBit i)
  | 0, i => by simp [listS, setL]
  | m + 1, i => by
    have ih := setL_listS s m i
    simp only [listS]
    split
    · rename_i hb
      rw [setL_append, Nat.testBit_or, ih]
      simp only [setL, Nat.or_zero]
      rw [Nat.testBit_two_pow]
      by_cases h : m = i
      · subst h; simp [hb]
      · have : decide (i < m + 1) = decide (i < m) := by rw [decide_eq_decide]; omega
        simp [h, this]
    · rename_i hb
      rw [ih]
      by_cases h : m = i
      · subst h; simp [hb]
      · have : decide (i < m + 1) = decide (i < m) := by rw [decide_eq_decide]; omega
        rw [this]

theorem setL_eq {s : Nat} (hs : s < 1024) : setL (listS s 10) = s := by
  apply Nat.eq_of_testBit_eq
  intro i
  rw [setL_listS]
  by_cases hi : i < 10
  · simp [hi]
  · have : s.testBit i = false := by
      apply Nat.testBit_lt_two_pow
      exact Nat.lt_of_lt_of_le hs (by have := Nat.pow_le_pow_right (show 0 < 2 by decide) (show 10 ≤ i by omega); simpa using this)
    simp [hi, this]

theorem setL_lt {l : List Nat} (h : ∀ k ∈ l, k < 10) : setL l < 1024 := by
  induction l with
  | nil => simp [setL]
  | cons k l ih =>
    simp only [setL]
    have hk := h k (by simp)
    exact Nat.or_lt_two_pow (n := 10) (Nat.pow_lt_pow_right (by decide) hk) (ih fun x hx => h x (by simp [hx]))

set_option maxHeartbeats 1000000 in
theorem C7 {vj vp : Value} {js ps : List (Int × Int)} {h : Heap} {K : Value → Heap → Prop} (hj : IPS h 46 vj js) (hp : IPS h 88 vp ps) (hk : ∀ h', K (B true) h') : CallP Tryz.prog 7 [.agg #[vj, vp]] h K := by
  refine f7 ?_
  have bx : iBox 71 h (.agg #[vj, vp]) = some (pt h.length 0, h ++ [.arr 71 [vj, vp]]) := rfl
  have lp : iLoad true 2 (h ++ [.arr 71 [vj, vp]]) (pt h.length 0) = some (.agg #[vj, vp]) := by simp [iLoad, objCells, iPart]
  simp only [T7, bx, OH_some, lp, OP_some]
  have x0 : EX h (h ++ [.arr 71 [vj, vp]]) := EX.append _ _
  generalize h ++ [IObj.arr 71 [vj, vp]] = g at x0 ⊢
  refine C30 (most := 10) (hj.mono x0) (hp.mono x0) (by decide) ?_
  intro v w g1 x1 hv hw
  have jl : (js.take (cut 10 js.length)).length ≤ 11 := by rw [List.length_take]; have : cut 10 js.length ≤ 11 := (by unfold cut; split <;> omega); omega
  have pl : (ps.take (min ps.length 41)).length ≤ 41 := by rw [List.length_take]; omega
  simp only [ext_tuple, pair0, pair1, OP_some]
  generalize js.take (cut 10 js.length) = J at *
  generalize ps.take (min ps.length 41) = P at *
  cases hb : validB J P with
  | false =>
    refine C31 hv hw (by omega) (by omega) (fun _ g2 x2 => ?_) (fun hc => by rw [hb] at hc; cases hc)
    simp only [ext_tuple, pair0, pair1, OP_some]
    refine C32 (hv.mono x2) (hw.mono x2) (by omega) (by omega) (fun _ g3 x3 => ?_) (fun hc => by rw [hb] at hc; cases hc)
    simp only [ext_tuple, pair0, pair1, OP_some]
    refine C33 (hv.mono (x2.trans x3)) (hw.mono (x2.trans x3)) (by omega) (by omega) ?_
    rw [hb]
    have l0 : iLenSl (.slice none 0 0) = some (I 0) := rfl
    have a0 : IntKind.wrap .i64 (0 + 0) = 0 := by decide
    simp only [un_not, OP_some, Bool.not_false, IfP_true, l0, bin_add, a0, bin_eql, decide_true, q7z9, q7z11, q7z13, q7z15, q7z17, GdP_tt, iPick_t]
    refine C14 ?_
    rw [q7z19]
    simp only [iPick_t, OP_some]
    exact hk _
  | true =>
    have vd := validB_of hb
    have n10 := vd.n10
    have two := vd.two
    refine C31 hv hw (by omega) (by omega) (fun hc => by rw [hb] at hc; cases hc) (fun _ os va g2 x2 hos ha => ?_)
    simp only [ext_tuple, pair0, pair1, OP_some]
    refine C32 (hv.mono x2) (hw.mono x2) (by omega) (by omega) (fun hc => by rw [hb] at hc; cases hc) (fun _ os' vr g3 x3 hos' hr => ?_)
    obtain rfl := hos.uniq hos'
    simp only [ext_tuple, pair0, pair1, OP_some]
    have x23 := x2.trans x3
    refine C33 (hv.mono x23) (hw.mono x23) (by omega) (by omega) ?_
    rw [hb]
    simp only [un_not, OP_some, Bool.not_true, IfP_false]
    refine C34 vd (hv.mono x23) (hw.mono x23) ?_
    intro os' vw g4 x4 hos' hw'
    obtain rfl := hos.uniq hos'
    have hol := sid_len (Nat.pow_pos (by decide)) hos
    have hlt := SidP.lt (Nat.pow_pos (by decide)) hos
    refine C35 (ha.mono (x3.trans x4)) hw' (by simp; omega) (fun l hl => by
      obtain ⟨s, _, rfl⟩ := List.mem_map.1 hl
      have := listS_len s 10
      omega) ?_
    have hr4 := hr.mono x4
    have lr := hr4.len
    have lw := hw'.len
    rw [List.length_map] at lr lw
    simp only [un_not, OP_some, Bool.not_true, q7z24, q7z26, q7z28, q7z30, q7z32, q7z34, q7z36, GdP_ff, bin_neq, decide_true, iPick_f, lr, lw]
    refine C14 ?_
    simp only [un_not, OP_some, Bool.not_true, q7z38, iPick_f, IfP_false]
    refine loopL (σ := Nat × Heap) (fun q => [I q.1]) (fun q => q.2) (fun q => q.1 ≤ os.length ∧ EX g4 q.2) (fun q => os.length - q.1) (0, g4) rfl rfl ⟨Nat.zero_le _, EX.refl _⟩ ?_
    rintro ⟨i, g5⟩ ⟨hi, x5⟩ L hL
    simp only at hi x5 hL ⊢
    rw [q7z43]
    simp only [lw, OP_some, bin_lss, IfP_dec]
    refine ⟨fun hlt2 => ?_, fun _ => hk _⟩
    have hil : i < os.length := by omega
    have hs := hlt _ (List.getElem_mem hil)
    obtain ⟨b, o, w0, r1, r2, r3⟩ := (hw'.mono x5).get i (by simpa using hil)
    rw [List.getElem_map] at r3
    have l10 := listS_len os[i] 10
    refine loopL (σ := Nat) (fun k => [I (setL ((listS os[i] 10).take k) : Nat), I k]) (fun _ => g5) (fun k => k ≤ (listS os[i] 10).length) (fun k => (listS os[i] 10).length - k) 0 rfl rfl (Nat.zero_le _) ?_
    intro k hk2 L2 hL2
    have hslt : ∀ k, setL ((listS os[i] 10).take k) < 1024 := fun k => setL_lt fun x hx => (listS_lt _ _ _ (List.mem_of_mem_take hx)).1
    rw [q7z52]
    simp only [r1, r2, OP_some, r3.lenN, bin_lss, IfP_dec]
    refine ⟨fun hlt3 => ?_, fun hge => ?_⟩
    · have hkl : k < (listS os[i] 10).length := by omega
      obtain ⟨b2, o2, s1, s2⟩ := r3.getN hkl
      have hkk := (listS_lt _ _ _ (List.getElem_mem hkl)).1
      have sh : iBin .shl (.int .i64 1) (I ((listS os[i] 10)[k] : Nat)) = some (I (2 ^ (listS os[i] 10)[k] : Nat)) := shlK skI (by omega)
      have hp2 : 2 ^ (listS os[i] 10)[k] < 1024 := Nat.pow_lt_pow_right (by decide) hkk
      simp only [s1, s2, OP_some, sh, orK skI (hslt k) hp2, bin_add, inc k (by omega), true_and]
      have := hL2 (k + 1) (by omega) (by omega)
      rw [List.take_succ_eq_append_getElem hkl, setL_append] at this
      simpa [setL] using this
    · have hke : k = (listS os[i] 10).length := by omega
      subst hke
      rw [List.take_length, setL_eq (by omega)]
      rw [q7z57]
      refine C36 (hv.mono (x23.trans (x4.trans x5))) rfl n10 vd.small hs ?_
      obtain ⟨b3, o3, t1, t2⟩ := (hr4.mono x5).get i (by simpa using hil)
      rw [List.getElem_map] at t2
      have P1 := vd.small.pos rfl
      have hne : os[i] ≠ 0 := by
        have key : ∀ {l : List Nat} {d : Nat}, SidP (bsOf P J.length) J J.length d l → ∀ s ∈ l, s ≠ 0 := by
          intro l
          induction l with
          | nil => intro d _ s hs; simp at hs
          | cons b l ih =>
            intro d h s hs
            rcases List.mem_cons.1 hs with rfl | hs
            · exact h.1.1.1.ne
            · exact ih h.2 s hs
        exact key hos _ (List.getElem_mem hil)
      have h1 := lS_pos P1 n10 hs hne
      have h2 := lS_le vd.small os[i]
      have h3 := wS_le vd.small os[i]
      simp only [ext_tuple, pair0, pair1, OP_some, t1, t2, true_and]
      refine C17 (by omega) (by omega) (by omega) ?_
      intro r g6 x6 qr
      have e6 := EX.load x6 t2
      simp only [e6, true_and]
      have hg := gcd_one (w := wS J os[i]) (l := lS J os[i]) (by omega)
      have p18 := pow18
      have hgp : 0 < Nat.gcd (wS J os[i]).natAbs (lS J os[i]).natAbs := Nat.gcd_pos_of_pos_right _ (by omega)
      have hdl : (Nat.gcd (wS J os[i]).natAbs (lS J os[i]).natAbs : Int) ∣ lS J os[i] := Int.gcd_dvd_right ..
      have b1 : 0 < lS J os[i] / (Nat.gcd (wS J os[i]).natAbs (lS J os[i]).natAbs : Int) := by
        obtain ⟨c, hc⟩ := hdl
        generalize Nat.gcd (wS J os[i]).natAbs (lS J os[i]).natAbs = G at *
        rw [hc, Int.mul_ediv_cancel_left _ (by omega)]
        apply Classical.byContradiction
        intro hn
        have := Int.mul_nonpos_of_nonneg_of_nonpos (show (0 : Int) ≤ (G : Int) by omega) (show c ≤ 0 by omega)
        omega
      have b2 : (lS J os[i] / (Nat.gcd (wS J os[i]).natAbs (lS J os[i]).natAbs : Int)) ≤ lS J os[i] := Int.ediv_le_self _ (by omega)
      have b3 : (wS J os[i] / (Nat.gcd (wS J os[i]).natAbs (lS J os[i]).natAbs : Int)) ≤ wS J os[i] := Int.ediv_le_self _ (by omega)
      have b4 : 0 ≤ (wS J os[i] / (Nat.gcd (wS J os[i]).natAbs (lS J os[i]).natAbs : Int)) := Int.ediv_nonneg (by omega) (by omega)
      refine C16q qr b1 (by omega) (by omega) ?_
      intro g7 x7
      rw [hg]
      have hsame : (ratS (ratio J os[i]).1 (ratio J os[i]).2 = ratS (wS J os[i] / (Nat.gcd (wS J os[i]).natAbs (lS J os[i]).natAbs : Int) / ((1 : Nat) : Int)) (lS J os[i] / (Nat.gcd (wS J os[i]).natAbs (lS J os[i]).natAbs : Int) / ((1 : Nat) : Int))) := by
        rw [show ((1 : Nat) : Int) = 1 from rfl, Int.ediv_one, Int.ediv_one]; rfl
      rw [decide_eq_true hsame]
      simp only [un_not, OP_some, Bool.not_true, IfP_false, true_and]
      rw [q7z61]
      simp only [bin_add, OP_some, inc i (by omega), true_and]
      exact hL (i + 1, g7) ⟨by show i + 1 ≤ _; omega, x5.trans (x6.trans x7)⟩ (by show os.length - (i + 1) < os.length - i; omega)

end Go.Proofs.YtelmdbpaoifmoaaGreat

