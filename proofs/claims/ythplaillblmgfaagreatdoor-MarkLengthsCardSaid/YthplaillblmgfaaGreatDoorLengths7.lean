/-
  Part 7 of the texts behind a statement of this seat: HCt47, HZq1, HCt41, HZq2, HZq3, HZR3, HZs1, Ln1, HDG, HMk16, HMk17, HMk18, HMk19, HDH, HMk20, HMk21, HDM, HMk23, HMk25, Ln2.
-/
import Derived.Test.YthplaillblmgfaaGreatDoorProg
import Derived.KernelRfl
import Derived.Test.YthplaillblmgfaaGreatDoorLengths6
namespace Go.Proofs.YthplaillblmgfaaGreatDoor
open Go.Sim

/-- Four digits. -/
def four (d : Nat) : List UInt8 := [dch (d / 1000), dch (d / 100 % 10), dch (d / 10 % 10), dch (d % 10)]

theorem four_digs {d : Nat} (hd : d < 10000) : digs (four d) ∧ valB (four d) = d := by
  have h1 := dch_toNat (d := d / 1000) (by omega)
  have h2 := dch_toNat (d := d / 100 % 10) (by omega)
  have h3 := dch_toNat (d := d / 10 % 10) (by omega)
  have h4 := dch_toNat (d := d % 10) (by omega)
  constructor
  · intro c hc
    simp only [four, List.mem_cons, List.not_mem_nil, or_false] at hc
    rcases hc with rfl | rfl | rfl | rfl <;> omega
  · simp only [four, valB_cons, h1, h2, h3, h4, List.length_cons, List.length_nil]
    simp only [valB, List.foldl_nil]
    omega

theorem C100 {va : Value} {n : Nat} {h : Heap} {K : Value → Heap → Prop} (ha : ZV h va n) (hn : n < bigW) (hk : ∀ h', EX h h' → K (S (decS n)) h') : CallP Tryz.prog 100 [va] h K := by
  obtain ⟨v, rfl, hv⟩ := ha
  rw [Int.natAbs_natCast] at hv
  refine f100 ?_
  have e1 : iBox 36 h (.agg #[B (decide ((n : Int) < 0)), v]) = some (pt h.length 0, h ++ [.arr 36 [B (decide ((n : Int) < 0)), v]]) := rfl
  simp only [T100, e1, OH_some]
  have x1 : EX h (h ++ [IObj.arr 36 [B (decide ((n : Int) < 0)), v]]) := EX.append _ _
  have ld : iLoad false 1 (h ++ [IObj.arr 36 [B (decide ((n : Int) < 0)), v]]) (pt h.length 1) = some v := load_last rfl
  generalize h ++ [IObj.arr 36 [B (decide ((n : Int) < 0)), v]] = h1 at x1 ld ⊢
  obtain ⟨xs, dx, cx, vx⟩ := hv.mono x1
  have lx := canZ_len cx (by rw [vx]; exact hn)
  simp only [fadr_pt, Nat.zero_add, ld, OP_some, dx.len, bin_eql, IfP_dec]
  refine ⟨fun h0 => ?_, fun hne => ?_⟩
  · have : xs = [] := List.length_eq_zero_iff.1 (by omega)
    subst this
    have hn0 : n = 0 := vx.symm
    subst hn0
    exact hk _ x1
  · have hx0 : 0 < xs.length := by omega
    have hnpos : 0 < n := by
      apply Classical.byContradiction
      intro hc
      have := Canon.zero (by decide) cx (by omega)
      rw [this] at hx0
      simp at hx0
    have e2 : IntKind.wrap .i64 ((xs.length : Int) - 1) = (xs.length : Int) - 1 := wrap64 (by omega) (by omega)
    simp only [bin_sub, e2, OP_some]
    refine loopL (σ := Nat × List UInt8 × Heap) (fun p => [S p.2.1, I ((p.1 : Int) - 1)]) (fun p => p.2.2)
      (fun p => p.1 ≤ xs.length ∧ EX h1 p.2.2 ∧ digs p.2.1 ∧ valB p.2.1 = val 10000 (xs.drop p.1) ∧ p.2.1.length = 4 * (xs.length - p.1)) (fun p => p.1)
      (xs.length, [], h1) rfl rfl ⟨Nat.le_refl _, EX.refl _, fun c hc => by simp at hc, by simp [valB, val], by simp⟩ ?_
    rintro ⟨i, s, g⟩ ⟨hi, xg, hd, hvs, hsl⟩ L hL
    simp only at hi xg hd hvs hsl hL ⊢
    rw [q100z9]
    simp only [bin_geq, OP_some, IfP_dec]
    refine ⟨fun hge => ?_, fun hlt => ?_⟩
    · obtain ⟨j, rfl⟩ : ∃ j, i = j + 1 := ⟨i - 1, by omega⟩
      have ej : ((j + 1 : Nat) : Int) - 1 = (j : Int) := by omega
      have hjx : j < xs.length := by omega
      obtain ⟨ia, a1, a2⟩ := (dx.mono xg).get hjx
      have hd4 : xs[j] < 10000 := cx.1 _ (List.getElem_mem hjx)
      have hvd := val_drop 10000 xs hjx
      rw [ej]
      generalize hdd : xs[j] = d at a2 hd4 hvd
      simp only [fadr_pt, Nat.zero_add, EX.load xg ld, OP_some, a1, a2]
      rw [show (.int .i64 1000 : Value) = .int .i64 ((1000 : Nat) : Int) from rfl, show (.int .i64 100 : Value) = .int .i64 ((100 : Nat) : Int) from rfl, show (.int .i64 10 : Value) = .int .i64 ((10 : Nat) : Int) from rfl]
      rw [quoI (by decide) (by omega), quoI (b := 100) (by decide) (by omega), quoI (b := 10) (by decide) (by omega)]
      simp only [OP_some]
      rw [rem_nat _ _ _ (by decide), rem_nat _ _ _ (by decide), rem_nat _ _ _ (by decide)]
      have w : ∀ q : Nat, q < 10 → IntKind.wrap .i64 (48 + (q : Int)) = ((48 + q : Nat) : Int) := fun q hq => by rw [wrap64 (by omega) (by omega)]; omega
      have w8 : ∀ q : Nat, q < 10 → IntKind.wrap .u8 ((48 + q : Nat) : Int) = ((48 + q : Nat) : Int) := fun q hq => wrapU8 (by omega) (by omega)
      simp only [OP_some, bin_add, conv_int, w _ (show d / 1000 < 10 by omega), w8 _ (show d / 1000 < 10 by omega), w _ (show d / 100 % 10 < 10 by omega), w8 _ (show d / 100 % 10 < 10 by omega), w _ (show d / 10 % 10 < 10 by omega), w8 _ (show d / 10 % 10 < 10 by omega), w _ (show d % 10 < 10 by omega), w8 _ (show d % 10 < 10 by omega)]
      rw [cvd (show d / 1000 < 10 by omega), cvd (show d / 100 % 10 < 10 by omega), cvd (show d / 10 % 10 < 10 by omega), cvd (show d % 10 < 10 by omega)]
      have mk : iMkSl 5 4 [.int .u8 0] g [(0, 1, cv (dch (d / 1000))), (1, 1, cv (dch (d / 100 % 10))), (2, 1, cv (dch (d / 10 % 10))), (3, 1, cv (dch (d % 10)))] = some (sl 5 g.length 0 4, g ++ [.arr 5 ((four d).map cv)]) := rfl
      have yg : EX g (g ++ [IObj.arr 5 ((four d).map cv)]) := EX.append _ _
      have bs : iB2s (g ++ [IObj.arr 5 ((four d).map cv)]) (sl 5 g.length 0 4) = some (S (four d)) := b2s (b := g.length) (e := 5) (.inr ⟨g.length, Nat.le_refl _, rfl, get_last⟩)
      obtain ⟨f1, f2⟩ := four_digs hd4
      have f3 : (four d).length = 4 := rfl
      simp only [mk, OH_some, bs, OP_some]
      rw [bin_addS s (four d) (by rw [f3]; unfold maxLen; omega)]
      have ej2 : IntKind.wrap .i64 ((j : Int) - 1) = (j : Int) - 1 := wrap64 (by omega) (by omega)
      simp only [OP_some, bin_sub, ej2, true_and]
      refine hL (j, s ++ four d, g ++ [IObj.arr 5 ((four d).map cv)]) ⟨by show j ≤ xs.length; omega, xg.trans yg, fun c hc => (List.mem_append.1 hc).elim (hd c) (f1 c), ?_, by show (s ++ four d).length = _; rw [List.length_append, f3]; omega⟩ (by show j < j + 1; omega)
      show valB (s ++ four d) = val 10000 (xs.drop j)
      rw [valB_append, f2, f3, hvd, hvs]
      omega
    · have hi0 : i = 0 := by omega
      subst hi0
      simp only [List.drop_zero, vx] at hvs
      rw [q100z16]
      refine loopL (σ := List UInt8) (fun s => [S s]) (fun _ => g) (fun s => digs s ∧ valB s = n ∧ s.length ≤ 1000) (fun s => s.length) s rfl rfl ⟨hd, hvs, by omega⟩ ?_
      rintro t ⟨td, tv, tl⟩ L2 hL2
      rw [q100z19]
      cases t with
      | nil => simp [valB] at tv; omega
      | cons c t =>
        have ix := idxS_S (a := c :: t) (i := 0) (by simp) .i64
        have ix' : iIdxS (S (c :: t)) (.int .i64 0) = some (cv c) := ix
        have eq : iBin .eql (cv c) (.int .u8 48) = some (B (decide ((c.toNat : Int) = 48))) := rfl
        simp only [ix', OP_some, eq, IfP_dec]
        refine ⟨fun h48 => ?_, fun h48 => ?_⟩
        · have sl1 := slS_lo (a := c :: t) (n := 1) (by simp) .i64
          have sl2 : iSlS (S (c :: t)) (some (.int .i64 1)) none = some (S t) := sl1
          simp only [sl2, OP_some, true_and]
          refine hL2 t ⟨fun x hx => td x (by simp [hx]), ?_, by simp at tl; omega⟩ (by simp)
          rw [valB_cons] at tv
          have : c.toNat - 48 = 0 := by omega
          rw [this] at tv
          omega
        · rw [q100z23]
          have := decS_unique td tv hnpos (by
            simp only [List.head?_cons, ne_eq, Option.some.injEq]
            rintro rfl
            exact h48 rfl)
          rw [this]
          exact hk _ (x1.trans xg)

end Go.Proofs.YthplaillblmgfaaGreatDoor


namespace Go.Proofs.YthplaillblmgfaaGreatDoor
open Go.Sim

theorem word_big {b : Nat} (h : b < 4294967296) : b < bigW := lt_bigW (Nat.lt_of_lt_of_le h (by decide))

theorem sgn_neg {a b : Nat} : sgn a b < 0 ↔ a < b := by
  unfold sgn
  constructor
  · intro h
    apply Classical.byContradiction
    intro hn
    rw [if_neg hn] at h
    split at h <;> omega
  · intro h; rw [if_pos h]; decide

theorem C147 {va vb : Value} {a b : Nat} {h : Heap} {K : Value → Heap → Prop} (ha : MagV h va a) (hb : MagV h vb b) (la : a < bigW) (b0 : 0 < b) (lb : b < 4294967296) (hk : ∀ q r h', EX h h' → MagV h' q (a / b) → MagV h' r (a % b) → K (.tuple #[q, r]) h') :
    CallP Tryz.prog 147 [va, vb] h K := by
  refine f147 ?_
  unfold T147
  refine C86 ha hb la (word_big lb) ?_
  simp only [bin_lss, OP_some, IfP_dec]
  refine ⟨fun hlt => ?_, fun hge => ?_⟩
  · have hab := sgn_neg.1 hlt
    have ha0 := ha
    obtain ⟨xs, d, c, rfl⟩ := ha
    obtain ⟨s1, s2⟩ := d.cells
    have lx := canW_len c la
    have hq : ∀ g, MagV g (.slice none 0 0) (val 4294967296 xs / b) := fun g => ⟨[], DS.nil _ _ _, ⟨fun x hx => by simp at hx, by simp⟩, by rw [Nat.div_eq_of_lt hab]; rfl⟩
    by_cases h0 : xs.length = 0
    · have e : iApp 116 1 4 h (.slice none 0 0) va = some (.slice none 0 0, h) := by
        simp only [iApp, s1, s2]
        rw [if_pos h0]
      simp only [e, OH_some]
      have : xs = [] := List.length_eq_zero_iff.1 h0
      subst this
      exact hk _ _ h (EX.refl h) (hq h) ⟨[], DS.nil _ _ _, c, by rw [Nat.mod_eq_of_lt hab]⟩
    · have e : iApp 116 1 4 h (.slice none 0 0) va = some (sl 116 h.length 0 xs.length, h ++ [.arr 116 (xs.map fun d : Nat => Value.int .u32 (d : Int))]) := by
        simp only [iApp, s1, s2]
        rw [if_neg h0, if_pos ⟨by omega, by unfold maxLen; omega⟩]
      simp only [e, OH_some]
      refine hk _ _ _ (EX.append _ _) (hq _) ⟨xs, .inr ⟨h.length, rfl, .inr ⟨[], ?_⟩⟩, c, by rw [Nat.mod_eq_of_lt hab]⟩
      simp [objCells]
  · have hab : b ≤ a := by
      apply Classical.byContradiction
      intro hc
      exact hge (sgn_neg.2 (by omega))
    obtain ⟨ys, d, c, hy⟩ := id hb
    have hlen : ys.length = 1 := by
      have h1 : ys.length ≤ 1 := c.len (k := 1) (by decide) (by rw [hy]; simpa using lb)
      have h2 : ys ≠ [] := by rintro rfl; simp [val] at hy; omega
      have : 0 < ys.length := List.length_pos_iff.2 h2
      omega
    obtain ⟨y, rfl⟩ : ∃ y, ys = [y] := by
      match ys, hlen with
      | [y], _ => exact ⟨y, rfl⟩
    have hyb : y = b := by simpa [val] using hy
    subst hyb
    obtain ⟨i, g1, g2⟩ := d.get (j := 0) (by simp)
    have g1' : iAdrSl 1 vb (.int .i64 (0)) = some (pt i 0) := g1
    have lenb : iLenSl vb = some (I 1) := d.len
    simp only [lenb, OP_some, bin_eql, decide_true, IfP_true, g1', g2, List.getElem_cons_zero]
    refine C116 ha la b0 lb ?_
    intro q h2 x2 hq
    have mk : ∀ (g : Heap) (r : Nat), iMkSl 116 1 [(.int .u32 (0))] g [(0, 1, .int .u32 (r : Int))] = some (sl 116 g.length 0 1, g ++ [.arr 116 [.int .u32 (r : Int)]]) := fun _ _ => rfl
    simp only [ext_tuple, pair0, pair1, OP_some, mk, OH_some]
    have x3 : EX h2 (h2 ++ [.arr 116 [.int .u32 ((a % y : Nat) : Int)]]) := EX.append _ _
    have dr : DS 116 .u32 (h2 ++ [.arr 116 [.int .u32 ((a % y : Nat) : Int)]]) (sl 116 h2.length 0 1) [a % y] := .inr ⟨h2.length, rfl, .inr ⟨[], by simp [objCells]⟩⟩
    have hm : a % y < y := Nat.mod_lt _ b0
    refine C83 dr (fun x hx => by rw [List.mem_singleton.1 hx]; omega) (by simp) ?_
    intro v' hv'
    have e : val 4294967296 [a % y] = a % y := by simp [val]
    rw [e] at hv'
    exact hk _ _ _ (x2.trans x3) (hq.mono x3) hv'

theorem C149 {va : Value} {a : Int} {h : Heap} {K : Value → Heap → Prop} (ha : IntV h va a) (hk : ∀ h', EX h h' → K (I (if a = 0 then 0 else if a < 0 then -1 else 1)) h') : CallP Tryz.prog 149 [va] h K := by
  obtain ⟨v, rfl, hv⟩ := ha
  refine f149 ?_
  have e1 : iBox 81 h (.agg #[B (decide (a < 0)), v]) = some (pt h.length 0, h ++ [.arr 81 [B (decide (a < 0)), v]]) := rfl
  have x1 : EX h (h ++ [.arr 81 [B (decide (a < 0)), v]]) := EX.append _ _
  have l1 : iLoad false 1 (h ++ [IObj.arr 81 [B (decide (a < 0)), v]]) (pt h.length 1) = some v := load_last rfl
  have l0 : iLoad false 1 (h ++ [IObj.arr 81 [B (decide (a < 0)), v]]) (pt h.length 0) = some (B (decide (a < 0))) := load_last rfl
  obtain ⟨l, e2, e3⟩ := hv.len0
  simp only [T149, e1, OH_some, fadr_pt, Nat.zero_add, Nat.add_zero, OP_some, l1, l0, e2, bin_eql, IfP_dec]
  refine ⟨fun hz => ?_, fun hz => ⟨fun hn => ?_, fun hn => ?_⟩⟩
  · have := hk _ x1
    rw [if_pos (by omega)] at this
    exact this
  · have := hk _ x1
    rw [if_neg (by omega), if_pos hn] at this
    exact this
  · have := hk _ x1
    rw [if_neg (by omega), if_neg hn] at this
    exact this

theorem C122 {va vb : Value} {a b : Int} {h : Heap} {K : Value → Heap → Prop} (ha : IntV h va a) (hb : IntV h vb b) (la : a.natAbs < bigW) (lb : b.natAbs < bigW) (hk : ∀ h', EX h h' → K (I (if a - b = 0 then 0 else if a - b < 0 then -1 else 1)) h') : CallP Tryz.prog 122 [va, vb] h K := by
  have ha0 := ha
  have hb0 := hb
  obtain ⟨v, rfl, hv⟩ := ha
  obtain ⟨w, rfl, hw⟩ := hb
  refine f122 ?_
  have e1 : ∀ (g : Heap) (s : Bool) (v : Value), iBox 81 g (.agg #[B s, v]) = some (pt g.length 0, g ++ [.arr 81 [B s, v]]) := fun _ _ _ => rfl
  simp only [T122, e1, OH_some]
  have g0 : (h ++ [IObj.arr 81 [B (decide (a < 0)), v]] ++ [IObj.arr 81 [B (decide (b < 0)), w]])[h.length]? = some (.arr 81 [B (decide (a < 0)), v]) := by simp
  have g1 : (h ++ [IObj.arr 81 [B (decide (a < 0)), v]] ++ [IObj.arr 81 [B (decide (b < 0)), w]])[(h ++ [IObj.arr 81 [B (decide (a < 0)), v]]).length]? = some (.arr 81 [B (decide (b < 0)), w]) := get_last
  have x1 : EX h (h ++ [IObj.arr 81 [B (decide (a < 0)), v]] ++ [IObj.arr 81 [B (decide (b < 0)), w]]) := (EX.append _ _).push _
  generalize h ++ [IObj.arr 81 [B (decide (a < 0)), v]] ++ [IObj.arr 81 [B (decide (b < 0)), w]] = h1 at g0 g1 x1 ⊢
  rw [load2 g0, load2 g1]
  simp only [OP_some]
  refine C148 (ha0.mono x1) (hb0.mono x1) la lb ?_
  intro r h2 x2 hr
  exact C149 hr fun h3 x3 => hk h3 (x1.trans (x2.trans x3))

theorem IntV.nat {h : Heap} {v : Value} {n : Nat} (p : MagV h v n) : IntV h (.agg #[B false, v]) (n : Int) := ⟨v, by rw [decide_eq_false (by omega)], by rwa [Int.natAbs_natCast]⟩

theorem C121 {va vb : Value} {a b : Int} {h : Heap} {K : Value → Heap → Prop} (ha : IntV h va a) (hb : IntV h vb b) (la : a.natAbs < bigW) (lb : b.natAbs < 4294967296) (hk : ∀ r h', EX h h' → IntV h' r (Nat.gcd a.natAbs b.natAbs : Nat) → K r h') : CallP Tryz.prog 121 [va, vb] h K := by
  obtain ⟨v, rfl, hv⟩ := ha
  obtain ⟨w, rfl, hw⟩ := hb
  refine f121 ?_
  unfold T121
  refine box2 ?_
  intro h3 x
  simp only [fadr_pt, Nat.zero_add, OP_some, x.a1, x.b1, true_and]
  refine loopL (σ := Value × Value × Nat × Nat × Heap) (fun q => [q.1, q.2.1]) (fun q => q.2.2.2.2) (fun q => (MagV q.2.2.2.2 q.1 q.2.2.1 ∧ MagV q.2.2.2.2 q.2.1 q.2.2.2.1) ∧ (q.2.2.1 < bigW ∧ q.2.2.2.1 < 4294967296) ∧ Nat.gcd q.2.2.1 q.2.2.2.1 = Nat.gcd a.natAbs b.natAbs ∧ EX h3 q.2.2.2.2) (fun q => q.2.2.2.1)
    (v, w, a.natAbs, b.natAbs, h3) rfl rfl ⟨⟨hv.mono x.ex, hw.mono x.ex⟩, ⟨la, lb⟩, rfl, EX.refl _⟩ ?_
  rintro ⟨vx, vy, m, n, g⟩ ⟨⟨hm, hn⟩, ⟨lm, ln⟩, hg, xg⟩ L hL
  simp only at hm hn lm ln hg xg hL ⊢
  rw [q121z5]
  obtain ⟨l, e1, e2⟩ := hn.len0
  simp only [e1, OP_some, bin_gtr, IfP_dec]
  refine ⟨fun hp => ?_, fun hz => ?_⟩
  · have n0 : 0 < n := e2.1 (by omega)
    refine C147 hm hn lm n0 ln ?_
    intro q r g2 x2 hq hr
    simp only [ext_tuple, pair0, pair1, OP_some, true_and]
    have hmod : m % n < n := Nat.mod_lt _ n0
    refine hL (vy, r, n, m % n, g2) ⟨⟨hn.mono x2, hr⟩, ⟨word_big ln, by show m % n < _; omega⟩, ?_, xg.trans x2⟩ hmod
    show Nat.gcd n (m % n) = _
    rw [← hg, Nat.gcd_comm m n, Nat.gcd_rec n m, Nat.gcd_comm]
  · have n0 : n = 0 := by
      apply Classical.byContradiction
      intro hne
      have := e2.2 (by omega)
      omega
    subst n0
    rw [q121z10]
    rw [Nat.gcd_zero_right] at hg
    refine C82 hm ?_
    intro h5 x5
    have g' := (xg.trans x5).get x.out
    rw [Bool.false_and]
    refine fin2 g' (hk _ _ (((x.ex.trans xg).trans x5).set (by omega) _) ?_)
    rw [← hg]
    exact (IntV.nat (hm.mono x5)).setB g' _

end Go.Proofs.YthplaillblmgfaaGreatDoor


namespace Go.Proofs.YthplaillblmgfaaGreatDoor
open Go.Sim

/-- A fraction of the program. -/
def RatV (h : Heap) (val : Value) (a b : Int) : Prop := ∃ u w, val = .agg #[B (decide (a < 0)), u, B (decide (b < 0)), w] ∧ MagV h u a.natAbs ∧ MagV h w b.natAbs

theorem C89 {u w : Value} {s : Bool} {h : Heap} {K : Value → Heap → Prop} (hw : MagV h w 1) (hk : ∀ h', EX h h' → K (B true) h') : CallP Tryz.prog 89 [.agg #[B s, u, B false, w]] h K := by
  refine f89 ?_
  have e1 : iBox 86 h (.agg #[B s, u, B false, w]) = some (pt h.length 0, h ++ [.arr 86 [B s, u, B false, w]]) := rfl
  simp only [T89, e1, OH_some]
  have x1 : EX h (h ++ [IObj.arr 86 [B s, u, B false, w]]) := EX.append _ _
  have l3 : iLoad false 1 (h ++ [IObj.arr 86 [B s, u, B false, w]]) (pt h.length 3) = some w := load_last rfl
  obtain ⟨xs, dx, cx, vx⟩ := hw.mono x1
  have hx1 : xs = [1] := Canon.unique (by decide) cx ⟨fun y hy => by simp at hy; subst hy; decide, by simp⟩ (by rw [vx]; rfl)
  subst hx1
  obtain ⟨i, g1, g2⟩ := dx.get (j := 0) (by simp)
  have g1' : iAdrSl 1 w (I 0) = some (pt i 0) := g1
  simp only [fadr_pt, Nat.zero_add, Nat.add_zero, OP_some, l3, dx.len, List.length_singleton, bin_eql, q89z4]
  rw [decide_eq_true (show ((1 : Nat) : Int) = 1 by rfl)]
  simp only [GdP_tt, l3, OP_some, g1', g2, bin_eql, q89z6, iPick_t]
  exact hk _ x1

end Go.Proofs.YthplaillblmgfaaGreatDoor


namespace Go.Proofs.YthplaillblmgfaaGreatDoor
open Go.Sim

/-- A division that leaves no rest. -/
theorem C123 {va vb : Value} {a b : Int} {h : Heap} {K : Value → Heap → Prop} (ha : IntV h va a) (hb : IntV h vb b) (la : a.natAbs < bigW) (b0 : 0 < b) (lb : b.natAbs < 4294967296) (hd : b ∣ a) (hk : ∀ r s h', EX h h' → IntV h' r (a / b) → IntV h' s 0 → K (.tuple #[r, s]) h') : CallP Tryz.prog 123 [va, vb] h K := by
  obtain ⟨v, rfl, hv⟩ := ha
  obtain ⟨w, rfl, hw⟩ := hb
  have hsb : decide (b < 0) = false := decide_eq_false (by omega)
  obtain ⟨c, rfl⟩ := hd
  have hdiv : b * c / b = c := Int.mul_ediv_cancel_left c (by omega)
  rw [hdiv] at hk
  have hab : (b * c).natAbs = b.natAbs * c.natAbs := Int.natAbs_mul b c
  have hb0 : 0 < b.natAbs := by omega
  have hq : (b * c).natAbs / b.natAbs = c.natAbs := by rw [hab]; exact Nat.mul_div_cancel_left _ hb0
  have hr : (b * c).natAbs % b.natAbs = 0 := by rw [hab]; exact Nat.mul_mod_right _ _
  have hneg : (decide (b * c < 0) && decide (0 < c.natAbs)) = decide (c < 0) := by
    by_cases hc : c < 0
    · rw [decide_eq_true hc, decide_eq_true (show 0 < c.natAbs by omega), decide_eq_true (Int.mul_neg_of_pos_of_neg b0 hc)]; rfl
    · have : 0 ≤ b * c := Int.mul_nonneg (by omega) (by omega)
      rw [decide_eq_false hc, decide_eq_false (by omega)]; rfl
  refine f123 ?_
  have e1 : ∀ (g : Heap) (s : Bool) (v : Value), iBox 81 g (.agg #[B s, v]) = some (pt g.length 0, g ++ [.arr 81 [B s, v]]) := fun _ _ _ => rfl
  have e2 : ∀ (g : Heap), iAlloc 81 [(.bool false), (.slice none 0 0)] g = some (pt g.length 0, g ++ [.arr 81 [(.bool false), (.slice none 0 0)]]) := fun _ => rfl
  have ob : ∀ {g : Heap} {i : Nat}, g[i]? = some (.arr 81 [(.bool false), (.slice none 0 0)]) → iObj g (pt i 0) = some (.agg #[.int .i64 81, .bool false, .slice none 0 0]) := by
    intro g i hi
    simp [iObj, idOf, hi, encObj, noId]
  rw [hsb]
  simp only [T123, e1, e2, OH_some]
  have q0 : EX h (h ++ [.arr 81 [B (decide (b * c < 0)), v]]) := EX.append _ _
  have p0 : (h ++ [IObj.arr 81 [B (decide (b * c < 0)), v]])[h.length]? = some (.arr 81 [B (decide (b * c < 0)), v]) := get_last
  generalize h ++ [IObj.arr 81 [B (decide (b * c < 0)), v]] = ga at q0 p0 ⊢
  have q1 : EX ga (ga ++ [.arr 81 [B false, w]]) := EX.append _ _
  have p1 : (ga ++ [IObj.arr 81 [B false, w]])[ga.length]? = some (.arr 81 [B false, w]) := get_last
  generalize ga ++ [IObj.arr 81 [B false, w]] = gb at q1 p1 ⊢
  have q2 : EX gb (gb ++ [.arr 81 [(.bool false), (.slice none 0 0)]]) := EX.append _ _
  have p2 : (gb ++ [IObj.arr 81 [(.bool false), (.slice none 0 0)]])[gb.length]? = some (.arr 81 [(.bool false), (.slice none 0 0)]) := get_last
  generalize gb ++ [IObj.arr 81 [(.bool false), (.slice none 0 0)]] = gc at q2 p2 ⊢
  have q3 : EX gc (gc ++ [.arr 81 [(.bool false), (.slice none 0 0)]]) := EX.append _ _
  have p3 : (gc ++ [IObj.arr 81 [(.bool false), (.slice none 0 0)]])[gc.length]? = some (.arr 81 [(.bool false), (.slice none 0 0)]) := get_last
  generalize gc ++ [IObj.arr 81 [(.bool false), (.slice none 0 0)]] = gd at q3 p3 ⊢
  have q13 := q1.trans (q2.trans q3)
  have q03 := q0.trans q13
  have k0 := q13.get p0
  have k1 := (q2.trans q3).get p1
  have k2 := q3.get p2
  have la1 : ∀ {g : Heap}, EX gd g → iLoad false 1 g (pt h.length 1) = some v := fun x => by simp [iLoad, objCells, x.get k0, iPart]
  have la0 : ∀ {g : Heap}, EX gd g → iLoad false 1 g (pt h.length 0) = some (B (decide (b * c < 0))) := fun x => by simp [iLoad, objCells, x.get k0, iPart]
  have lb1 : ∀ {g : Heap}, EX gd g → iLoad false 1 g (pt ga.length 1) = some w := fun x => by simp [iLoad, objCells, x.get k1, iPart]
  have lb0 : ∀ {g : Heap}, EX gd g → iLoad false 1 g (pt ga.length 0) = some (B false) := fun x => by simp [iLoad, objCells, x.get k1, iPart]
  simp only [fadr_pt, Nat.zero_add, Nat.add_zero, OP_some, la1 (EX.refl gd), lb1 (EX.refl gd)]
  refine C147 (hv.mono q03) (hw.mono q03) la hb0 lb ?_
  intro q r g5 x5 mq mr
  rw [hq] at mq
  rw [hr] at mr
  simp only [ext_tuple, pair0, pair1, OP_some]
  have y1 : EX g5 (g5 ++ [.arr 81 [(.bool false), (.slice none 0 0)]]) := EX.append _ _
  have s1 : (g5 ++ [IObj.arr 81 [(.bool false), (.slice none 0 0)]])[g5.length]? = some (.arr 81 [(.bool false), (.slice none 0 0)]) := get_last
  have sl1 : (g5 ++ [IObj.arr 81 [(.bool false), (.slice none 0 0)]]).length = g5.length + 1 := by simp
  generalize g5 ++ [IObj.arr 81 [(.bool false), (.slice none 0 0)]] = g6 at y1 s1 sl1 ⊢
  have y2 : EX g6 (g6 ++ [.arr 81 [(.bool false), (.slice none 0 0)]]) := EX.append _ _
  have s2 : (g6 ++ [IObj.arr 81 [(.bool false), (.slice none 0 0)]])[g6.length]? = some (.arr 81 [(.bool false), (.slice none 0 0)]) := get_last
  generalize g6 ++ [IObj.arr 81 [(.bool false), (.slice none 0 0)]] = g7 at y2 s2 ⊢
  have s1' := y2.get s1
  have y12 := y1.trans y2
  have z5 := x5
  have z6 := x5.trans y1
  have z7 := x5.trans y12
  simp only [ob s1, ob s1', ob s2, OP_some, true_and, la0 z5, la0 z6, la0 z7, lb0 z5, lb0 z6, lb0 z7, eqb_bool, if_true]
  have hx : (!(decide (b * c < 0) == false)) = decide (b * c < 0) := by cases decide (b * c < 0) <;> rfl
  rw [hx]
  refine C82 (mq.mono y12) ?_
  intro g8 x8
  rw [hneg]
  simp only [ob (x8.get s1'), ob (x8.get s2), true_and, la0 (z7.trans x8), OP_some]
  refine C82 ((mr.mono y12).mono x8) ?_
  intro g9 x9
  have x89 := x8.trans x9
  have t1 := x89.get s1'
  have t2 := x89.get s2
  have hne : g5.length ≠ g6.length := by omega
  simp only [ob t1, ob t2, true_and, decide_eq_false (show ¬ (0 < 0) by decide), Bool.and_false]
  rw [store2 t1]
  simp only [OH_some]
  have t2' : (g9.set g5.length (.arr 81 [B (decide (c < 0)), q]))[g6.length]? = some (.arr 81 [(.bool false), (.slice none 0 0)]) := by rw [List.getElem?_set_ne hne]; exact t2
  rw [store2 t2']
  simp only [OH_some]
  obtain ⟨l, l1, l2⟩ := mr.len0
  have l0 : l = 0 := by
    apply Classical.byContradiction
    intro hc
    have := l2.1 (by omega)
    omega
  subst l0
  simp only [l1, OP_some, bin_gtr]
  rw [decide_eq_false (show ¬ ((0 : Int) < ((0 : Nat) : Int)) by decide)]
  rw [q123z7]
  simp only [GdP_ft]
  rw [q123z9]
  have pk : iPick (B false) undef (.bool false) = some (B false) := rfl
  simp only [pk, OP_some, IfP_false]
  rw [q123z10]
  have u1 : ((g9.set g5.length (.arr 81 [B (decide (c < 0)), q])).set g6.length (.arr 81 [B false, r]))[g5.length]? = some (.arr 81 [B (decide (c < 0)), q]) := by
    rw [List.getElem?_set_ne (fun e => hne e.symm)]; exact set_get t1
  have u2 : ((g9.set g5.length (.arr 81 [B (decide (c < 0)), q])).set g6.length (.arr 81 [B false, r]))[g6.length]? = some (.arr 81 [B false, r]) := set_get t2'
  have hgd : gd.length ≤ g5.length := x5.1
  have hx0 : EX h ((g9.set g5.length (.arr 81 [B (decide (c < 0)), q])).set g6.length (.arr 81 [B false, r])) :=
    (((q03.trans z7).trans x89).set (by have := q03.1; omega) _).set (by have := q03.1; omega) _
  have lgb : gb.length < gd.length := by
    have := (List.getElem?_eq_some_iff.1 k2).1; exact this
  have lgc : gc.length < gd.length := (List.getElem?_eq_some_iff.1 p3).1
  have w2 : ((g9.set g5.length (.arr 81 [B (decide (c < 0)), q])).set g6.length (.arr 81 [B false, r]))[gb.length]? = some (.arr 81 [(.bool false), (.slice none 0 0)]) := by
    rw [List.getElem?_set_ne (by omega), List.getElem?_set_ne (by omega)]; exact (z7.trans x89).get k2
  have w3 : ((g9.set g5.length (.arr 81 [B (decide (c < 0)), q])).set g6.length (.arr 81 [B false, r]))[gc.length]? = some (.arr 81 [(.bool false), (.slice none 0 0)]) := by
    rw [List.getElem?_set_ne (by omega), List.getElem?_set_ne (by omega)]; exact (z7.trans x89).get p3
  have mqf : MagV ((g9.set g5.length (.arr 81 [B (decide (c < 0)), q])).set g6.length (.arr 81 [B false, r])) q c.natAbs := (((mq.mono y12).mono x89).setB t1 _).setB t2' _
  have mrf : MagV ((g9.set g5.length (.arr 81 [B (decide (c < 0)), q])).set g6.length (.arr 81 [B false, r])) r 0 := (((mr.mono y12).mono x89).setB t1 _).setB t2' _
  generalize (g9.set g5.length (.arr 81 [B (decide (c < 0)), q])).set g6.length (.arr 81 [B false, r]) = gz at u1 u2 hx0 w2 w3 mqf mrf ⊢
  rw [load2 u1, load2 u2]
  simp only [OP_some, true_and]
  rw [store2 w2]
  simp only [OH_some]
  have hbc : gb.length ≠ gc.length := by
    have := (List.getElem?_eq_some_iff.1 p2).1; omega
  have u2' : (gz.set gb.length (.arr 81 [B (decide (c < 0)), q]))[g6.length]? = some (.arr 81 [B false, r]) := by rw [List.getElem?_set_ne (by omega)]; exact u2
  have w3' : (gz.set gb.length (.arr 81 [B (decide (c < 0)), q]))[gc.length]? = some (.arr 81 [(.bool false), (.slice none 0 0)]) := by rw [List.getElem?_set_ne hbc]; exact w3
  rw [load2 u2', store2 w3']
  simp only [true_and, OH_some]
  have n2 : ((gz.set gb.length (.arr 81 [B (decide (c < 0)), q])).set gc.length (.arr 81 [B false, r]))[gb.length]? = some (.arr 81 [B (decide (c < 0)), q]) := by
    rw [List.getElem?_set_ne (fun e => hbc e.symm)]; exact set_get w2
  rw [load2 n2, load2 (set_get w3')]
  simp only [OP_some]
  have hlb : h.length ≤ gb.length := (q0.trans q1).1
  refine hk _ _ _ ((hx0.set hlb _).set (by have := (List.getElem?_eq_some_iff.1 p2).1; omega) _) ⟨q, rfl, (mqf.setB w2 _).setB w3' _⟩ ⟨r, rfl, (mrf.setB w2 _).setB w3' _⟩

theorem RatV.mono {h h' : Heap} {v : Value} {a b : Int} (x : EX h h') (p : RatV h v a b) : RatV h' v a b := let ⟨u, w, e, m, n⟩ := p; ⟨u, w, e, m.mono x, n.mono x⟩
theorem RatV.setB {h : Heap} {v : Value} {a b : Int} {j : Nat} {e : TypeId} {s : Bool} {r : List Value} (p : RatV h v a b) (hj : h[j]? = some (.arr e (.bool s :: r))) (o : IObj) : RatV (h.set j o) v a b :=
  let ⟨u, w, e, m, n⟩ := p; ⟨u, w, e, m.setB hj o, n.setB hj o⟩

/-- Two integers put together, and the place that they go to. -/
theorem endR {h h' : Heap} {j : Nat} {va vb : Value} {a b : Int} {K : Value → Heap → Prop} (ha : IntV h' va a) (hb : IntV h' vb b) (x : EX h h') (hj : h.length ≤ j) (hg : h'[j]? = some (.arr 86 z4)) (hk : ∀ r h', EX h h' → RatV h' r a b → K r h') :
    OP (iBuild [(.bool false), (.slice none 0 0), (.bool false), (.slice none 0 0)] [(0, 2, va), (2, 2, vb)]) fun x25 => OH (oStore 4 h' (pt j 0) x25) fun _ h_6 => OP (iLoad true 4 h_6 (pt j 0)) fun r0 => K r0 h_6 := by
  obtain ⟨v, rfl, hv⟩ := ha
  obtain ⟨w, rfl, hw⟩ := hb
  obtain ⟨xs, dx, _⟩ := id hv
  obtain ⟨ys, dy, _⟩ := id hw
  rw [build4 dx dy]
  simp only [OP_some]
  exact fin4 hg (hk _ _ (x.set hj _) ⟨v, w, rfl, hv.setB hg _, hw.setB hg _⟩)

theorem C67 {n : Int} {h : Heap} {K : Value → Heap → Prop} (h1 : -9223372036854775808 ≤ n) (h2 : n < 9223372036854775808) (hk : ∀ r h', EX h h' → RatV h' r n 1 → K r h') : CallP Tryz.prog 67 [I n] h K := by
  refine f67 ?_
  have e1 : iAlloc 86 [(.bool false), (.slice none 0 0), (.bool false), (.slice none 0 0)] h = some (pt h.length 0, h ++ [.arr 86 z4]) := rfl
  simp only [T67, e1, OH_some]
  have x0 : EX h (h ++ [.arr 86 z4]) := EX.append _ _
  have g0 : (h ++ [IObj.arr 86 z4])[h.length]? = some (.arr 86 z4) := get_last
  generalize h ++ [IObj.arr 86 z4] = ga at x0 g0 ⊢
  refine C46 h1 h2 ?_
  intro r h3 x3 i3
  refine C46 (by decide) (by decide) ?_
  intro s h4 x4 i4
  exact endR (i3.mono x4) i4 (x0.trans (x3.trans x4)) (Nat.le_refl _) ((x3.trans x4).get g0) hk

theorem gcd_small {a b : Int} (b0 : 0 < b) : 0 < (Nat.gcd a.natAbs b.natAbs : Int) ∧ (Nat.gcd a.natAbs b.natAbs : Int) ≤ b := by
  have h1 : 0 < Nat.gcd a.natAbs b.natAbs := Nat.gcd_pos_of_pos_right _ (by omega)
  have h2 : Nat.gcd a.natAbs b.natAbs ≤ b.natAbs := Nat.gcd_le_right _ (by omega)
  omega

/-- A fraction in lowest terms, if the lower number has one digit. -/
theorem C104 {va vb : Value} {a b : Int} {h : Heap} {K : Value → Heap → Prop} (ha : IntV h va a) (hb : IntV h vb b) (la : a.natAbs < bigW) (b0 : 0 < b) (lb : b.natAbs < 4294967296)
    (hk : ∀ r h', EX h h' → RatV h' r (a / (Nat.gcd a.natAbs b.natAbs : Int)) (b / (Nat.gcd a.natAbs b.natAbs : Int)) → K r h') : CallP Tryz.prog 104 [va, vb] h K := by
  obtain ⟨v, rfl, hv⟩ := ha
  obtain ⟨w, rfl, hw⟩ := hb
  have hsb : decide (b < 0) = false := decide_eq_false (by omega)
  obtain ⟨g1p, g1le⟩ := gcd_small (a := a) b0
  have hda : (Nat.gcd a.natAbs b.natAbs : Int) ∣ a := Int.gcd_dvd_left ..
  have hdb : (Nat.gcd a.natAbs b.natAbs : Int) ∣ b := Int.gcd_dvd_right ..
  refine f104 ?_
  have e1 : ∀ (g : Heap) (s : Bool) (v : Value), iBox 81 g (.agg #[B s, v]) = some (pt g.length 0, g ++ [.arr 81 [B s, v]]) := fun _ _ _ => rfl
  have e2 : ∀ (g : Heap), iAlloc 81 [(.bool false), (.slice none 0 0)] g = some (pt g.length 0, g ++ [.arr 81 [(.bool false), (.slice none 0 0)]]) := fun _ => rfl
  have e3 : ∀ (g : Heap), iAlloc 86 [(.bool false), (.slice none 0 0), (.bool false), (.slice none 0 0)] g = some (pt g.length 0, g ++ [.arr 86 z4]) := fun _ => rfl
  simp only [T104, e1, e3, OH_some]
  have q0 : EX h (h ++ [.arr 81 [B (decide (a < 0)), v]]) := EX.append _ _
  have p0 : (h ++ [IObj.arr 81 [B (decide (a < 0)), v]])[h.length]? = some (.arr 81 [B (decide (a < 0)), v]) := get_last
  generalize h ++ [IObj.arr 81 [B (decide (a < 0)), v]] = ga at q0 p0 ⊢
  have q1 : EX ga (ga ++ [.arr 81 [B (decide (b < 0)), w]]) := EX.append _ _
  have p1 : (ga ++ [IObj.arr 81 [B (decide (b < 0)), w]])[ga.length]? = some (.arr 81 [B (decide (b < 0)), w]) := get_last
  generalize ga ++ [IObj.arr 81 [B (decide (b < 0)), w]] = gb at q1 p1 ⊢
  have q2 : EX gb (gb ++ [.arr 86 z4]) := EX.append _ _
  have p2 : (gb ++ [IObj.arr 86 z4])[gb.length]? = some (.arr 86 z4) := get_last
  generalize gb ++ [IObj.arr 86 z4] = gc at q2 p2 ⊢
  have k0 := (q1.trans q2).get p0
  have k1 := q2.get p1
  have x0 := q0.trans (q1.trans q2)
  have hlb : h.length ≤ gb.length := (q0.trans q1).1
  have ldn : ∀ {g : Heap}, EX gc g → iLoad true 2 g (pt h.length 0) = some (.agg #[B (decide (a < 0)), v]) := fun x => load2 (x.get k0)
  have ldd : ∀ {g : Heap}, EX gc g → iLoad true 2 g (pt ga.length 0) = some (.agg #[B (decide (b < 0)), w]) := fun x => load2 (x.get k1)
  have iva : ∀ {g : Heap}, EX gc g → IntV g (.agg #[B (decide (a < 0)), v]) a := fun x => ⟨v, rfl, hv.mono (x0.trans x)⟩
  have ivb : ∀ {g : Heap}, EX gc g → IntV g (.agg #[B (decide (b < 0)), w]) b := fun x => ⟨w, rfl, hw.mono (x0.trans x)⟩
  have l1 : iLoad false 1 gc (pt ga.length 0) = some (B (decide (b < 0))) := by simp [iLoad, objCells, k1, iPart]
  simp only [fadr_pt, Nat.add_zero, OP_some, l1]
  rw [hsb]
  simp only [IfP_false]
  rw [q104z4]
  rw [ldn (EX.refl gc), ldd (EX.refl gc)]
  simp only [OP_some]
  refine C121 (iva (EX.refl gc)) (ivb (EX.refl gc)) la lb ?_
  intro r g3 x3 ir
  simp only [e2, OH_some]
  have y4 : EX g3 (g3 ++ [.arr 81 [(.bool false), (.slice none 0 0)]]) := EX.append _ _
  have s4 : (g3 ++ [IObj.arr 81 [(.bool false), (.slice none 0 0)]])[g3.length]? = some (.arr 81 [(.bool false), (.slice none 0 0)]) := get_last
  generalize g3 ++ [IObj.arr 81 [(.bool false), (.slice none 0 0)]] = g4 at y4 s4 ⊢
  obtain ⟨u, rfl, hu⟩ := ir
  have hu4 := (hu.mono y4).setB s4 (.arr 81 [B (decide ((Nat.gcd a.natAbs b.natAbs : Int) < 0)), u])
  rw [store2 s4]
  simp only [OH_some]
  have hgl : gc.length ≤ g3.length := x3.1
  have x5 : EX gc (g4.set g3.length (.arr 81 [B (decide ((Nat.gcd a.natAbs b.natAbs : Int) < 0)), u])) := (x3.trans y4).set hgl _
  have s5 : (g4.set g3.length (.arr 81 [B (decide ((Nat.gcd a.natAbs b.natAbs : Int) < 0)), u]))[g3.length]? = some (.arr 81 [B (decide ((Nat.gcd a.natAbs b.natAbs : Int) < 0)), u]) := set_get s4
  generalize g4.set g3.length (.arr 81 [B (decide ((Nat.gcd a.natAbs b.natAbs : Int) < 0)), u]) = g5 at x5 s5 hu4 ⊢
  have ig : ∀ {g : Heap}, EX g5 g → IntV g (.agg #[B (decide ((Nat.gcd a.natAbs b.natAbs : Int) < 0)), u]) (Nat.gcd a.natAbs b.natAbs : Int) := fun x => ⟨u, rfl, hu4.mono x⟩
  rw [load2 s5]
  simp only [OP_some, true_and]
  refine C46 (by decide) (by decide) ?_
  intro one g6 x6 i1
  rw [load2 (x6.get s5)]
  simp only [true_and]
  have lgW : ((Nat.gcd a.natAbs b.natAbs : Int)).natAbs < 4294967296 := by rw [Int.natAbs_natCast]; have := Nat.gcd_le_right a.natAbs (show 0 < b.natAbs by omega); omega
  refine C122 (ig x6) i1 (word_big lgW) (by rw [show (1 : Int).natAbs = 1 from rfl]; exact word_big (by decide)) ?_
  intro g7 x7
  have x57 := x6.trans x7
  have xc7 := x5.trans x57
  simp only [bin_eql, OP_some, IfP_dec]
  refine ⟨fun h1 => ?_, fun h1 => ?_⟩
  · have hg1 : (Nat.gcd a.natAbs b.natAbs : Int) = 1 := by
      split at h1
      · omega
      · split at h1 <;> omega
    rw [ldn xc7, ldd xc7]
    simp only [OP_some]
    rw [hg1, Int.ediv_one, Int.ediv_one] at hk
    exact endR (iva xc7) (ivb xc7) (x0.trans xc7) hlb (xc7.get p2) hk
  · rw [ldn xc7, load2 (x57.get s5)]
    simp only [OP_some]
    refine C123 (iva xc7) (ig x57) la g1p lgW hda ?_
    intro rn sn g8 x8 irn isn
    simp only [ext_tuple, pair0, pair1, OP_some, e2, OH_some]
    have y9 : EX g8 (g8 ++ [.arr 81 [(.bool false), (.slice none 0 0)]]) := EX.append _ _
    have s9 : (g8 ++ [IObj.arr 81 [(.bool false), (.slice none 0 0)]])[g8.length]? = some (.arr 81 [(.bool false), (.slice none 0 0)]) := get_last
    generalize g8 ++ [IObj.arr 81 [(.bool false), (.slice none 0 0)]] = g9 at y9 s9 ⊢
    have y10 : EX g9 (g9 ++ [.arr 81 [(.bool false), (.slice none 0 0)]]) := EX.append _ _
    have s10 : (g9 ++ [IObj.arr 81 [(.bool false), (.slice none 0 0)]])[g9.length]? = some (.arr 81 [(.bool false), (.slice none 0 0)]) := get_last
    generalize g9 ++ [IObj.arr 81 [(.bool false), (.slice none 0 0)]] = g10 at y10 s10 ⊢
    have s9' := y10.get s9
    obtain ⟨qn, rfl, hqn⟩ := irn
    obtain ⟨zn, rfl, hzn⟩ := isn
    have h98 : g8.length ≠ g9.length := by have := (List.getElem?_eq_some_iff.1 s9).1; omega
    rw [store2 s9']
    simp only [OH_some]
    have t10 : (g10.set g8.length (.arr 81 [B (decide (a / (Nat.gcd a.natAbs b.natAbs : Int) < 0)), qn]))[g9.length]? = some (.arr 81 [(.bool false), (.slice none 0 0)]) := by rw [List.getElem?_set_ne h98]; exact s10
    have t9 : (g10.set g8.length (.arr 81 [B (decide (a / (Nat.gcd a.natAbs b.natAbs : Int) < 0)), qn]))[g8.length]? = some (.arr 81 [B (decide (a / (Nat.gcd a.natAbs b.natAbs : Int) < 0)), qn]) := set_get s9'
    have x810 := y9.trans y10
    have hqn2 := (hqn.mono x810).setB s9' (.arr 81 [B (decide (a / (Nat.gcd a.natAbs b.natAbs : Int) < 0)), qn])
    have xc8 := xc7.trans x8
    have x58 := x57.trans x8
    have xs1 : EX g8 (g10.set g8.length (.arr 81 [B (decide (a / (Nat.gcd a.natAbs b.natAbs : Int) < 0)), qn])) := x810.set (Nat.le_refl _) _
    generalize g10.set g8.length (.arr 81 [B (decide (a / (Nat.gcd a.natAbs b.natAbs : Int) < 0)), qn]) = g11 at t10 t9 hqn2 xs1 ⊢
    rw [store2 t10]
    simp only [OH_some]
    have t9' : (g11.set g9.length (.arr 81 [B (decide ((0 : Int) < 0)), zn]))[g8.length]? = some (.arr 81 [B (decide (a / (Nat.gcd a.natAbs b.natAbs : Int) < 0)), qn]) := by rw [List.getElem?_set_ne (fun e => h98 e.symm)]; exact t9
    have hqn3 := hqn2.setB t10 (.arr 81 [B (decide ((0 : Int) < 0)), zn])
    have h89 : g8.length ≤ g9.length := by have := (List.getElem?_eq_some_iff.1 s9).1; omega
    have xs2 : EX g8 (g11.set g9.length (.arr 81 [B (decide ((0 : Int) < 0)), zn])) := xs1.set h89 _
    generalize g11.set g9.length (.arr 81 [B (decide ((0 : Int) < 0)), zn]) = g12 at t9' hqn3 xs2 ⊢
    rw [ldd (xc8.trans xs2), load2 ((x58.trans xs2).get s5)]
    simp only [OP_some]
    refine C123 (ivb (xc8.trans xs2)) (ig (x58.trans xs2)) (word_big lb) g1p lgW hdb ?_
    intro rd sd g13 x13 ird isd
    simp only [ext_tuple, pair0, pair1, OP_some]
    have y14 : EX g13 (g13 ++ [.arr 81 [(.bool false), (.slice none 0 0)]]) := EX.append _ _
    have s14 : (g13 ++ [IObj.arr 81 [(.bool false), (.slice none 0 0)]])[g13.length]? = some (.arr 81 [(.bool false), (.slice none 0 0)]) := get_last
    generalize g13 ++ [IObj.arr 81 [(.bool false), (.slice none 0 0)]] = g14 at y14 s14 ⊢
    have y15 : EX g14 (g14 ++ [.arr 81 [(.bool false), (.slice none 0 0)]]) := EX.append _ _
    have s15 : (g14 ++ [IObj.arr 81 [(.bool false), (.slice none 0 0)]])[g14.length]? = some (.arr 81 [(.bool false), (.slice none 0 0)]) := get_last
    generalize g14 ++ [IObj.arr 81 [(.bool false), (.slice none 0 0)]] = g15 at y15 s15 ⊢
    have s14' := y15.get s14
    obtain ⟨qd, rfl, hqd⟩ := ird
    obtain ⟨zd, rfl, hzd⟩ := isd
    have h1314 : g13.length ≠ g14.length := by have := (List.getElem?_eq_some_iff.1 s14).1; omega
    rw [store2 s14']
    simp only [OH_some]
    have x1315 := y14.trans y15
    have t15 : (g15.set g13.length (.arr 81 [B (decide (b / (Nat.gcd a.natAbs b.natAbs : Int) < 0)), qd]))[g14.length]? = some (.arr 81 [(.bool false), (.slice none 0 0)]) := by rw [List.getElem?_set_ne h1314]; exact s15
    have t14 : (g15.set g13.length (.arr 81 [B (decide (b / (Nat.gcd a.natAbs b.natAbs : Int) < 0)), qd]))[g13.length]? = some (.arr 81 [B (decide (b / (Nat.gcd a.natAbs b.natAbs : Int) < 0)), qd]) := set_get s14'
    have hqd2 := (hqd.mono x1315).setB s14' (.arr 81 [B (decide (b / (Nat.gcd a.natAbs b.natAbs : Int) < 0)), qd])
    have xs3 : EX g13 (g15.set g13.length (.arr 81 [B (decide (b / (Nat.gcd a.natAbs b.natAbs : Int) < 0)), qd])) := x1315.set (Nat.le_refl _) _
    generalize g15.set g13.length (.arr 81 [B (decide (b / (Nat.gcd a.natAbs b.natAbs : Int) < 0)), qd]) = g16 at t15 t14 hqd2 xs3 ⊢
    rw [store2 t15]
    simp only [OH_some]
    have t14' : (g16.set g14.length (.arr 81 [B (decide ((0 : Int) < 0)), zd]))[g13.length]? = some (.arr 81 [B (decide (b / (Nat.gcd a.natAbs b.natAbs : Int) < 0)), qd]) := by rw [List.getElem?_set_ne (fun e => h1314 e.symm)]; exact t14
    have hqd3 := hqd2.setB t15 (.arr 81 [B (decide ((0 : Int) < 0)), zd])
    have h13 : g13.length ≤ g14.length := by have := (List.getElem?_eq_some_iff.1 s14).1; omega
    have xs4 : EX g13 (g16.set g14.length (.arr 81 [B (decide ((0 : Int) < 0)), zd])) := xs3.set h13 _
    generalize g16.set g14.length (.arr 81 [B (decide ((0 : Int) < 0)), zd]) = g17 at t14' hqd3 xs4 ⊢
    rw [load2 ((x13.trans xs4).get t9'), load2 t14']
    simp only [OP_some]
    have xfin := xc8.trans (xs2.trans (x13.trans xs4))
    exact endR ⟨qn, rfl, hqn3.mono (x13.trans xs4)⟩ ⟨qd, rfl, hqd3⟩ (x0.trans xfin) hlb (xfin.get p2) hk

end Go.Proofs.YthplaillblmgfaaGreatDoor


namespace Go.Proofs.YthplaillblmgfaaGreatDoor
open Go.Sim

/-- The quotient of two fractions. -/
theorem C68 {va vb : Value} {a b c d : Int} {h : Heap} {K : Value → Heap → Prop} (ha : RatV h va a b) (hb : RatV h vb c d) (la : a.natAbs < bigW) (lb : b.natAbs < bigW) (lc : c.natAbs < bigW) (ld : d.natAbs < bigW) (lad : (a * d).natAbs < bigW) (b0 : 0 < b * c) (lbc : (b * c).natAbs < 4294967296)
    (hk : ∀ r h', EX h h' → RatV h' r (a * d / (Nat.gcd (a * d).natAbs (b * c).natAbs : Int)) (b * c / (Nat.gcd (a * d).natAbs (b * c).natAbs : Int)) → K r h') : CallP Tryz.prog 68 [va, vb] h K := by
  obtain ⟨u, w, rfl, hu, hw⟩ := ha
  obtain ⟨u2, w2, rfl, hu2, hw2⟩ := hb
  refine f68 ?_
  have e1 : ∀ (g : Heap) (s t : Bool) (v w : Value), iBox 86 g (.agg #[B s, v, B t, w]) = some (pt g.length 0, g ++ [.arr 86 [B s, v, B t, w]]) := fun _ _ _ _ _ => rfl
  have e3 : ∀ (g : Heap), iAlloc 86 [(.bool false), (.slice none 0 0), (.bool false), (.slice none 0 0)] g = some (pt g.length 0, g ++ [.arr 86 z4]) := fun _ => rfl
  simp only [T68, e1, e3, OH_some]
  have q0 : EX h (h ++ [.arr 86 [B (decide (a < 0)), u, B (decide (b < 0)), w]]) := EX.append _ _
  have p0 : (h ++ [IObj.arr 86 [B (decide (a < 0)), u, B (decide (b < 0)), w]])[h.length]? = some (.arr 86 [B (decide (a < 0)), u, B (decide (b < 0)), w]) := get_last
  generalize h ++ [IObj.arr 86 [B (decide (a < 0)), u, B (decide (b < 0)), w]] = ga at q0 p0 ⊢
  have q1 : EX ga (ga ++ [.arr 86 [B (decide (c < 0)), u2, B (decide (d < 0)), w2]]) := EX.append _ _
  have p1 : (ga ++ [IObj.arr 86 [B (decide (c < 0)), u2, B (decide (d < 0)), w2]])[ga.length]? = some (.arr 86 [B (decide (c < 0)), u2, B (decide (d < 0)), w2]) := get_last
  generalize ga ++ [IObj.arr 86 [B (decide (c < 0)), u2, B (decide (d < 0)), w2]] = gb at q1 p1 ⊢
  have q2 : EX gb (gb ++ [.arr 86 z4]) := EX.append _ _
  have p2 : (gb ++ [IObj.arr 86 z4])[gb.length]? = some (.arr 86 z4) := get_last
  generalize gb ++ [IObj.arr 86 z4] = gc at q2 p2 ⊢
  have k0 := (q1.trans q2).get p0
  have k1 := q2.get p1
  have x0 := q0.trans (q1.trans q2)
  have hlb : h.length ≤ gb.length := (q0.trans q1).1
  simp only [fadr_pt, Nat.zero_add, OP_some]
  rw [load4a k0, load4b k1]
  simp only [OP_some, true_and]
  refine C105 (a := a) (b := d) ⟨u, rfl, hu.mono x0⟩ ⟨w2, rfl, hw2.mono x0⟩ la ld ?_
  intro r1 g4 x4 i1
  rw [load4b (x4.get k0), load4a (x4.get k1)]
  simp only [load4b k0, load4a k1, OP_some, true_and]
  refine C105 (a := b) (b := c) ⟨w, rfl, (hw.mono x0).mono x4⟩ ⟨u2, rfl, (hu2.mono x0).mono x4⟩ lb lc ?_
  intro r2 g5 x5 i2
  refine C104 (i1.mono x5) i2 lad b0 lbc ?_
  intro r g6 x6 ir
  have x46 := x4.trans (x5.trans x6)
  have g2 := x46.get p2
  obtain ⟨y, z, rfl, hy, hz⟩ := ir
  exact fin4 g2 (hk _ _ ((x0.trans x46).set hlb _) ⟨y, z, rfl, hy.setB g2 _, hz.setB g2 _⟩)

theorem C89q {u w : Value} {s : Bool} {b : Nat} {h : Heap} {K : Value → Heap → Prop} (hw : MagV h w b) (lb : b < bigW) (hk : ∀ h', EX h h' → K (B (decide (b = 1))) h') : CallP Tryz.prog 89 [.agg #[B s, u, B false, w]] h K := by
  by_cases h1 : b = 1
  · subst h1
    exact C89 hw hk
  rw [decide_eq_false h1] at hk
  refine f89 ?_
  have e1 : iBox 86 h (.agg #[B s, u, B false, w]) = some (pt h.length 0, h ++ [.arr 86 [B s, u, B false, w]]) := rfl
  simp only [T89, e1, OH_some]
  have x1 : EX h (h ++ [IObj.arr 86 [B s, u, B false, w]]) := EX.append _ _
  have l3 : iLoad false 1 (h ++ [IObj.arr 86 [B s, u, B false, w]]) (pt h.length 3) = some w := load_last rfl
  obtain ⟨xs, dx, cx, vx⟩ := hw.mono x1
  simp only [fadr_pt, Nat.zero_add, OP_some, l3, dx.len, bin_eql]
  by_cases hl : xs.length = 1
  · obtain ⟨y, rfl⟩ : ∃ y, xs = [y] := by
      match xs, hl with
      | [y], _ => exact ⟨y, rfl⟩
    have hy : y = b := by simpa [val] using vx
    subst hy
    obtain ⟨i, g1, g2⟩ := dx.get (j := 0) (by simp)
    have g1' : iAdrSl 1 w (.int .i64 (0)) = some (pt i 0) := g1
    rw [decide_eq_true (show ((([y] : List Nat).length : Nat) : Int) = 1 from rfl), q89z4]
    simp only [GdP_tt, fadr_pt, Nat.zero_add, OP_some, l3, g1', g2, List.getElem_cons_zero, bin_eql]
    rw [decide_eq_false (show ¬ ((y : Int) = 1) by omega), q89z6]
    simp only [iPick_t, OP_some]
    exact hk _ x1
  · rw [decide_eq_false (show ¬ ((xs.length : Int) = 1) by omega), q89z4]
    simp only [GdP_ft]
    rw [q89z6]
    simp only [iPick_f, OP_some]
    exact hk _ x1

/-- A fraction as a text. -/
def ratS (a b : Int) : List UInt8 := if b = 1 then numS a else numS a ++ 47 :: decS b.natAbs

theorem numS_len {a : Int} (la : a.natAbs < bigW) : (numS a).length ≤ 1001 := by
  have := (decS_facts la).2.2.1
  unfold numS
  split <;> simp <;> omega

theorem C50q {va : Value} {a b : Int} {h : Heap} {K : Value → Heap → Prop} (ha : RatV h va a b) (b0 : 0 < b) (la : a.natAbs < bigW) (lb : b.natAbs < bigW) (hk : ∀ h', EX h h' → K (.tuple #[S (ratS a b), I 0]) h') : CallP Tryz.prog 50 [va] h K := by
  obtain ⟨u, w, rfl, hu, hw⟩ := ha
  have hsb : decide (b < 0) = false := decide_eq_false (by omega)
  rw [hsb]
  refine f50 ?_
  have e1 : iBox 86 h (.agg #[B (decide (a < 0)), u, B false, w]) = some (pt h.length 0, h ++ [.arr 86 [B (decide (a < 0)), u, B false, w]]) := rfl
  simp only [T50, e1, OH_some]
  have x1 : EX h (h ++ [IObj.arr 86 [B (decide (a < 0)), u, B false, w]]) := EX.append _ _
  have l1 : iLoad false 1 (h ++ [IObj.arr 86 [B (decide (a < 0)), u, B false, w]]) (pt h.length 1) = some u := load_last rfl
  have l0 : iLoad false 1 (h ++ [IObj.arr 86 [B (decide (a < 0)), u, B false, w]]) (pt h.length 0) = some (B (decide (a < 0))) := load_last rfl
  have g0 : (h ++ [IObj.arr 86 [B (decide (a < 0)), u, B false, w]])[h.length]? = some (.arr 86 [B (decide (a < 0)), u, B false, w]) := get_last
  generalize h ++ [IObj.arr 86 [B (decide (a < 0)), u, B false, w]] = h1 at x1 l1 l0 g0 ⊢
  obtain ⟨d1, d2, d3, d4, d5⟩ := decS_facts la
  obtain ⟨c1, c2, c3, c4, c5⟩ := decS_facts lb
  simp only [fadr_pt, Nat.zero_add, Nat.add_zero, OP_some, l1]
  refine C88 (hu.mono x1) la ?_
  intro h2 x2
  simp only [lenS_S, OP_some, bin_gtr, decide_eq_false (show ¬ ((decS a.natAbs).length : Int) > 4000 by omega), IfP_false, EX.load x2 l0]
  have last : p50z8 Tryz.prog K (pt h.length 0) (S (numS a)) h2 := by
    rw [q50z8, load4 (x2.get g0)]
    simp only [OP_some]
    refine C89q ((hw.mono x1).mono x2) lb ?_
    intro h3 x3
    simp only [IfP_dec]
    refine ⟨fun h9 => ?_, fun h9 => ?_⟩
    · have e : ratS a b = numS a := by unfold ratS; rw [if_pos (by omega)]
      rw [← e]
      exact hk _ ((x1.trans x2).trans x3)
    · have l3 : iLoad false 1 h3 (pt h.length 3) = some w := by simp [iLoad, objCells, (x2.trans x3).get g0, iPart]
      simp only [fadr_pt, Nat.zero_add, Nat.add_zero, OP_some, l3]
      refine C88 (((hw.mono x1).mono x2).mono x3) lb ?_
      intro h4 x4
      have nl := numS_len la
      have a1 : iBin .add (S (numS a)) (.string ⟨#[47]⟩) = some (S (numS a ++ [47])) := bin_addS (a := numS a) (b := [47]) (by simp [maxLen]; omega)
      have a2 : iBin .add (S (numS a ++ [47])) (S (decS b.natAbs)) = some (S (numS a ++ [47] ++ decS b.natAbs)) := bin_addS (a := numS a ++ [47]) (b := decS b.natAbs) (by simp [maxLen]; omega)
      simp only [lenS_S, OP_some, bin_gtr, decide_eq_false (show ¬ ((decS b.natAbs).length : Int) > 4000 by omega), IfP_false, a1, a2]
      have e : ratS a b = numS a ++ [47] ++ decS b.natAbs := by unfold ratS; rw [if_neg (by omega)]; simp
      rw [← e]
      exact hk _ ((x1.trans x2).trans (x3.trans x4))
  by_cases hneg : a < 0
  · rw [decide_eq_true hneg]
    have : numS a = 45 :: decS a.natAbs := by unfold numS; rw [if_pos hneg]
    have ad : iBin .add (.string ⟨#[45]⟩) (S (decS a.natAbs)) = some (S (numS a)) := by
      rw [this]
      exact bin_addS (a := [45]) (b := decS a.natAbs) (by simp [maxLen]; omega)
    simp only [IfP_true, ad, OP_some]
    exact last
  · rw [decide_eq_false hneg]
    have : numS a = decS a.natAbs := by unfold numS; rw [if_neg hneg]
    rw [this] at last
    simp only [IfP_false]
    exact last

end Go.Proofs.YthplaillblmgfaaGreatDoor


namespace Go.Proofs.YthplaillblmgfaaGreatDoor
open Go.Sim
variable (P : Program) (K : VK)
/-! F74: pommel/pommelref01.Over -/
noncomputable def c74z4 : ICode := .seq (.ops none [⟨(some 11), .l (.load true 2 (.tmp 2))⟩,
 ⟨(some 12), .l (.load true 2 (.tmp 3))⟩,
 ⟨(some 13), .p (.build [(.bool false), (.slice none 0 0), (.bool false), (.slice none 0 0)] [(0, 2, (.tmp 11)), (2, 2, (.tmp 12))])⟩,
 ⟨none, .e (.store 4 (.tmp 4) (.tmp 13))⟩])
 (.ret)
noncomputable def c74 : ICode := .seq (.ops none [⟨(some 2), .e (.box 36 (.tmp 0))⟩,
 ⟨(some 3), .e (.box 36 (.tmp 1))⟩,
 ⟨(some 4), .e (.alloc 38 [(.bool false), (.slice none 0 0), (.bool false), (.slice none 0 0)])⟩])
 (.seq (.seq (.ops none [⟨(some 5), .p (.fadr 0 (.tmp 3))⟩,
 ⟨(some 6), .l (.load false 1 (.tmp 5))⟩])
 (.cond (.tmp 6) (.dops [(none, [⟨(some 7), .l (.load true 2 (.tmp 2)), 0⟩,
 ⟨(some 8), .call 92 [(.tmp 7)], 1⟩,
 ⟨(some 9), .l (.load true 2 (.tmp 3)), 0⟩,
 ⟨(some 10), .call 92 [(.tmp 9)], 7⟩,
 ⟨none, .e (.store 2 (.tmp 2) (.tmp 8)), 15⟩,
 ⟨none, .e (.store 2 (.tmp 3) (.tmp 10)), 31⟩])])
 (.skip)))
 (.cut [2, 3, 4] c74z4))
theorem k74 : compFn Tryz.prog 74 [[], [], [2, 3, 4], []] = some (14, c74, [.cell true 4 4]) := by kernel_rfl
def K74z0 (_P : Program) (K : VK) : Kont := bodyP [.cell true 4 4] K
def p74z4 (n2 d3 x4 : Value) (h : Heap) : Prop := CutP (iwpP P c74z4 (K74z0 P K)) [2, 3, 4] [n2, d3, x4] h
theorem q74z4 (n2 d3 x4 : Value) (h : Heap) : p74z4 P K n2 d3 x4 h =
 (OP (iLoad true 2 h n2) fun x11 =>
 OP (iLoad true 2 h d3) fun x12 =>
 OP (iBuild [(.bool false), (.slice none 0 0), (.bool false), (.slice none 0 0)] [(0, 2, x11), (2, 2, x12)]) fun x13 =>
 OH (oStore 4 h x4 x13) fun _ h_1 =>
 OP (iLoad true 4 h_1 x4) fun r0 =>
 K r0 h_1) := (CutP_def _ _ _ _).trans (by kernel_rfl)
def T74 (n0 d1 : Value) (h : Heap) : Prop :=
 OH (iBox 36 h n0) fun n2 h_1 =>
 OH (iBox 36 h_1 d1) fun d3 h_2 =>
 OH (iAlloc 38 [(.bool false), (.slice none 0 0), (.bool false), (.slice none 0 0)] h_2) fun x4 h_3 =>
 OP (iFadr 0 d3) fun x5 =>
 OP (iLoad false 1 h_3 x5) fun x6 =>
 IfP x6
 (OP (iLoad true 2 h_3 n2) fun x7 =>
 (True) ∧
 CallP P 92 [x7] h_3 fun x8 h_4 =>
 (True) ∧
 OP (iLoad true 2 h_4 d3) fun x9 =>
 (iLoad true 2 h_3 d3 = some x9 ∧ True) ∧
 CallP P 92 [x9] h_4 fun x10 h_5 =>
 (True) ∧
 OH (oStore 2 h_5 n2 x8) fun _ h_6 =>
 (True) ∧
 OH (oStore 2 h_6 d3 x10) fun _ h_7 =>
 (True) ∧
 p74z4 P K n2 d3 x4 h_7)
 (p74z4 P K n2 d3 x4 h_3)
theorem e74 (n0 d1 : Value) (h : Heap) : iwpP P c74 (bodyP [.cell true 4 4] K) (frame0 [n0, d1]) h = T74 P K n0 d1 h := by kernel_rfl
theorem f74 {K : VK} {n0 d1 : Value} {h : Heap} (H : T74 Tryz.prog K n0 d1 h) : CallP Tryz.prog 74 [n0, d1] h K :=
 callP_intro k74 (Nat.le_of_ble_eq_true rfl) ((e74 Tryz.prog K n0 d1 h).mpr H)
end Go.Proofs.YthplaillblmgfaaGreatDoor

namespace Go.Proofs.YthplaillblmgfaaGreatDoor
open Go.Sim

theorem C74 {va vb : Value} {a b : Int} {h : Heap} {K : Value → Heap → Prop} (ha : ZV h va a) (hb : ZV h vb b) (b0 : 0 ≤ b) (hk : ∀ r h', EX h h' → QZ h' r a b → K r h') : CallP Tryz.prog 74 [va, vb] h K := by
  obtain ⟨v, rfl, hv⟩ := ha
  obtain ⟨w, rfl, hw⟩ := hb
  have hsb : decide (b < 0) = false := decide_eq_false (by omega)
  refine f74 ?_
  have e1 : ∀ (g : Heap) (s : Bool) (v : Value), iBox 36 g (.agg #[B s, v]) = some (pt g.length 0, g ++ [.arr 36 [B s, v]]) := fun _ _ _ => rfl
  have e3 : ∀ (g : Heap), iAlloc 38 [(.bool false), (.slice none 0 0), (.bool false), (.slice none 0 0)] g = some (pt g.length 0, g ++ [.arr 38 z4]) := fun _ => rfl
  simp only [T74, e1, e3, OH_some]
  have q0 : EX h (h ++ [.arr 36 [B (decide (a < 0)), v]]) := EX.append _ _
  have p0 : (h ++ [IObj.arr 36 [B (decide (a < 0)), v]])[h.length]? = some (.arr 36 [B (decide (a < 0)), v]) := get_last
  generalize h ++ [IObj.arr 36 [B (decide (a < 0)), v]] = ga at q0 p0 ⊢
  have q1 : EX ga (ga ++ [.arr 36 [B (decide (b < 0)), w]]) := EX.append _ _
  have p1 : (ga ++ [IObj.arr 36 [B (decide (b < 0)), w]])[ga.length]? = some (.arr 36 [B (decide (b < 0)), w]) := get_last
  generalize ga ++ [IObj.arr 36 [B (decide (b < 0)), w]] = gb at q1 p1 ⊢
  have q2 : EX gb (gb ++ [.arr 38 z4]) := EX.append _ _
  have p2 : (gb ++ [IObj.arr 38 z4])[gb.length]? = some (.arr 38 z4) := get_last
  generalize gb ++ [IObj.arr 38 z4] = gc at q2 p2 ⊢
  have k0 := (q1.trans q2).get p0
  have k1 := q2.get p1
  have x0 := q0.trans (q1.trans q2)
  have l1 : iLoad false 1 gc (pt ga.length 0) = some (B (decide (b < 0))) := by simp [iLoad, objCells, k1, iPart]
  simp only [fadr_pt, Nat.add_zero, OP_some, l1]
  rw [hsb]
  simp only [IfP_false]
  rw [q74z4, load2 k0, load2 k1]
  simp only [OP_some]
  have iva : ZV gc (.agg #[B (decide (a < 0)), v]) a := ⟨v, rfl, hv.mono x0⟩
  have ivb : ZV gc (.agg #[B (decide (b < 0)), w]) b := ⟨w, rfl, hw.mono x0⟩
  obtain ⟨xs, dx, _⟩ := id (hv.mono x0)
  obtain ⟨ys, dy, _⟩ := id (hw.mono x0)
  rw [build4 dx dy]
  simp only [OP_some]
  exact fin4 p2 (hk _ _ (x0.set (q0.trans q1).1 _) ⟨v, w, rfl, (hv.mono x0).setB p2 _, (hw.mono x0).setB p2 _⟩)

theorem pow18 : (1000000000000000000 : Nat) < 10000 ^ 199 := by decide +kernel

/-- A fraction out of two small numbers. -/
theorem C36 {w n : Int} {h : Heap} {K : Value → Heap → Prop} (hw : w.natAbs < 1000000000000000000) (n0 : 0 < n) (hn : n.natAbs < 1000000000000000000) (hk : ∀ r h', EX h h' → QZ h' r (w / (Nat.gcd w.natAbs n.natAbs : Int)) (n / (Nat.gcd w.natAbs n.natAbs : Int)) → K r h') : CallP Tryz.prog 36 [I w, I n] h K := by
  refine f36 ?_
  have e3 : iAlloc 38 [(.bool false), (.slice none 0 0), (.bool false), (.slice none 0 0)] h = some (pt h.length 0, h ++ [.arr 38 z4]) := rfl
  simp only [T36, e3, OH_some]
  have x0 : EX h (h ++ [.arr 38 z4]) := EX.append _ _
  have g0 : (h ++ [IObj.arr 38 z4])[h.length]? = some (.arr 38 z4) := get_last
  generalize h ++ [IObj.arr 38 z4] = ga at x0 g0 ⊢
  refine C22 hw ?_
  intro r1 h1 x1 z1
  refine C22 hn ?_
  intro r2 h2 x2 z2
  refine C74 (z1.mono x2) z2 (by omega) ?_
  intro q h3 x3 qz
  have p18 := pow18
  refine C73 qz n0 (by omega) (by omega) ?_
  intro r h4 x4 qr
  have x14 := (x1.trans x2).trans (x3.trans x4)
  have g4 := x14.get g0
  obtain ⟨y, z, rfl, my, mz⟩ := qr
  exact fin4 g4 (hk _ _ ((x0.trans x14).set (Nat.le_refl _) _) ⟨y, z, rfl, my.setB g4 _, mz.setB g4 _⟩)

theorem decS_one {n : Nat} (hn : n < bigW) (h : decS n = [49]) : n = 1 := by
  have := (decS_facts hn).2.2.2.2
  rw [h] at this
  simpa [valB] using this.symm

theorem C64q {va : Value} {a b : Int} {h : Heap} {K : Value → Heap → Prop} (ha : QZ h va a b) (b0 : 0 < b) (la : a.natAbs < 10000 ^ 199) (lb : b.natAbs < 10000 ^ 199) (hk : ∀ h', EX h h' → K (.tuple #[S (ratS (a / (Nat.gcd a.natAbs b.natAbs : Int)) (b / (Nat.gcd a.natAbs b.natAbs : Int))), B true]) h') : CallP Tryz.prog 64 [va] h K := by
  have ha0 := ha
  obtain ⟨u, w, rfl, hu, hw⟩ := ha
  refine f64 ?_
  have e1 : iBox 38 h (.agg #[B (decide (a < 0)), u, B (decide (b < 0)), w]) = some (pt h.length 0, h ++ [.arr 38 [B (decide (a < 0)), u, B (decide (b < 0)), w]]) := rfl
  simp only [T64, e1, OH_some]
  have x1 : EX h (h ++ [IObj.arr 38 [B (decide (a < 0)), u, B (decide (b < 0)), w]]) := EX.append _ _
  have k1 : (h ++ [IObj.arr 38 [B (decide (a < 0)), u, B (decide (b < 0)), w]])[h.length]? = some (.arr 38 [B (decide (a < 0)), u, B (decide (b < 0)), w]) := get_last
  generalize h ++ [IObj.arr 38 [B (decide (a < 0)), u, B (decide (b < 0)), w]] = h1 at x1 k1 ⊢
  rw [load4 k1]
  simp only [OP_some]
  refine C73 (ha0.mono x1) b0 la lb ?_
  intro r h2 x2 q2
  have hg0 : 0 < Nat.gcd a.natAbs b.natAbs := Nat.gcd_pos_of_pos_right _ (by omega)
  have hgle : Nat.gcd a.natAbs b.natAbs ≤ b.natAbs := Nat.gcd_le_right _ (by omega)
  have hda : (Nat.gcd a.natAbs b.natAbs : Int) ∣ a := Int.gcd_dvd_left ..
  have hdb : (Nat.gcd a.natAbs b.natAbs : Int) ∣ b := Int.gcd_dvd_right ..
  generalize hG : Nat.gcd a.natAbs b.natAbs = G at *
  have la' : (a / (G : Int)).natAbs < 10000 ^ 199 := by
    obtain ⟨c, rfl⟩ := hda
    rw [Int.mul_ediv_cancel_left c (by omega)]
    have : c.natAbs ≤ ((G : Int) * c).natAbs := by rw [Int.natAbs_mul]; exact Nat.le_mul_of_pos_left _ (by omega)
    omega
  have b1 : 0 < b / (G : Int) ∧ (b / (G : Int)).natAbs < 10000 ^ 199 := by
    obtain ⟨c, rfl⟩ := hdb
    rw [Int.mul_ediv_cancel_left c (by omega)]
    have hc : 0 < c := by
      apply Classical.byContradiction
      intro hneg
      have := Int.mul_nonpos_of_nonneg_of_nonpos (show (0 : Int) ≤ (G : Int) by omega) (show c ≤ 0 by omega)
      omega
    have : c.natAbs ≤ ((G : Int) * c).natAbs := by rw [Int.natAbs_mul]; exact Nat.le_mul_of_pos_left _ (by omega)
    exact ⟨hc, by omega⟩
  generalize a / (G : Int) = A at *
  generalize b / (G : Int) = D at *
  obtain ⟨D0, lD⟩ := b1
  obtain ⟨u', w', rfl, hu', hw'⟩ := q2
  have hsD : decide (D < 0) = false := decide_eq_false (by omega)
  have k2 := x2.get k1
  rw [store4 k2]
  simp only [OH_some]
  have x3 : EX h (h2.set h.length (.arr 38 [B (decide (A < 0)), u', B (decide (D < 0)), w'])) := (x1.trans x2).set (Nat.le_refl _) _
  have k3 := set_get (o := .arr 38 [B (decide (A < 0)), u', B (decide (D < 0)), w']) k2
  have hu3 := hu'.setB k2 (.arr 38 [B (decide (A < 0)), u', B (decide (D < 0)), w'])
  have hw3 := hw'.setB k2 (.arr 38 [B (decide (A < 0)), u', B (decide (D < 0)), w'])
  generalize h2.set h.length (.arr 38 [B (decide (A < 0)), u', B (decide (D < 0)), w']) = h3 at x3 k3 hu3 hw3 ⊢
  have p201 : (10000 : Nat) ^ 199 < 10000 ^ 201 := by decide +kernel
  have hb := big201 (n := A.natAbs) (by omega)
  have hD := big201 (n := D.natAbs) (by omega)
  simp only [fadr_pt, Nat.add_zero, Nat.zero_add, load4a k3, OP_some, true_and]
  refine C101 (⟨u', rfl, hu3⟩ : ZV h3 _ A) ?_
  intro ua h4 x4 m4
  refine C100 m4.toZ hb ?_
  intro h5 x5
  have ld0 : ∀ {g}, EX h3 g → iLoad false 1 g (pt h.length 0) = some (B (decide (A < 0))) := fun y => EX.load y (by simp [iLoad, objCells, k3, iPart])
  simp only [load4b k3, EX.load x4 (load4b k3), EX.load (x4.trans x5) (load4b k3), OP_some, true_and]
  have hw5 : MagZ h5 w' D.natAbs := (hw3.mono x4).mono x5
  have zD : ZV h5 (.agg #[B (decide (D < 0)), w']) ((D.natAbs : Nat) : Int) := ⟨w', by rw [hsD, decide_eq_false (by omega)], by rwa [Int.natAbs_natCast]⟩
  refine C100 (n := D.natAbs) zD hD ?_
  intro h6 x6
  obtain ⟨d1, d2, d3, d4, d5⟩ := decS_facts hb
  obtain ⟨c1, c2, c3, c4, c5⟩ := decS_facts hD
  have xx := (x4.trans x5).trans x6
  have nl := numS_len hb
  simp only [lenS_S, OP_some, bin_gtr, decide_eq_false (show ¬ ((decS A.natAbs).length : Int) > 4000 by omega), q64z7, GdP_ff, decide_eq_false (show ¬ ((decS D.natAbs).length : Int) > 4000 by omega)]
  simp only [q64z9, iPick_f, OP_some, IfP_false, fadr_pt, Nat.add_zero, ld0 xx]
  have fin : p64z13 Tryz.prog K (S (numS A)) (S (decS D.natAbs)) h6 := by
    rw [q64z13]
    have : iBin .neq (S (decS D.natAbs)) (.string ⟨#[49]⟩) = some (B (!decide (decS D.natAbs = [49]))) := by
      show iBin .neq (S (decS D.natAbs)) (S [49]) = _
      rw [bin_neqS]
    simp only [this, OP_some]
    by_cases h1 : D = 1
    · subst h1
      have e : ratS A 1 = numS A := by unfold ratS; rw [if_pos rfl]
      have one : decS (1 : Int).natAbs = [49] := by decide +kernel
      rw [one]
      simp only [decide_true, Bool.not_true, IfP_false, q64z16]
      rw [← e]
      exact hk _ (x3.trans xx)
    · have e : ratS A D = numS A ++ ([47] ++ decS D.natAbs) := by unfold ratS; rw [if_neg h1]; rfl
      have hne : decS D.natAbs ≠ [49] := fun h9 => h1 (by have := decS_one hD h9; omega)
      have a1 : iBin .add (.string ⟨#[47]⟩) (S (decS D.natAbs)) = some (S ([47] ++ decS D.natAbs)) := bin_addS (a := [47]) (b := decS D.natAbs) (by simp [maxLen]; omega)
      have a2 : iBin .add (S (numS A)) (S ([47] ++ decS D.natAbs)) = some (S (numS A ++ ([47] ++ decS D.natAbs))) := bin_addS (a := numS A) (b := [47] ++ decS D.natAbs) (by simp [maxLen]; omega)
      rw [decide_eq_false hne]
      simp only [Bool.not_false, IfP_true, a1, a2, OP_some, q64z16]
      rw [← e]
      exact hk _ (x3.trans xx)
  by_cases hneg : A < 0
  · have hs : numS A = 45 :: decS A.natAbs := by unfold numS; rw [if_pos hneg]
    have ad : iBin .add (.string ⟨#[45]⟩) (S (decS A.natAbs)) = some (S (numS A)) := by
      rw [hs]
      exact bin_addS (a := [45]) (b := decS A.natAbs) (by simp [maxLen]; omega)
    rw [decide_eq_true hneg]
    simp only [IfP_true, ad, OP_some]
    exact fin
  · have hs : numS A = decS A.natAbs := by unfold numS; rw [if_neg hneg]
    rw [decide_eq_false hneg, ← hs]
    simp only [IfP_false]
    exact fin

theorem C21q {va : Value} {a b : Int} {s : List UInt8} {h : Heap} {K : Value → Heap → Prop} (ha : QZ h va a b) (b0 : 0 < b) (la : a.natAbs < 10000 ^ 199) (lb : b.natAbs < 10000 ^ 199) (hk : ∀ h', EX h h' → K (B (decide (s = ratS (a / (Nat.gcd a.natAbs b.natAbs : Int)) (b / (Nat.gcd a.natAbs b.natAbs : Int))))) h') : CallP Tryz.prog 21 [S s, va] h K := by
  have ha0 := ha
  obtain ⟨u, w, rfl, hu, hw⟩ := ha
  refine f21 ?_
  have e1 : iBox 38 h (.agg #[B (decide (a < 0)), u, B (decide (b < 0)), w]) = some (pt h.length 0, h ++ [.arr 38 [B (decide (a < 0)), u, B (decide (b < 0)), w]]) := rfl
  simp only [T21, e1, OH_some]
  have x1 : EX h (h ++ [IObj.arr 38 [B (decide (a < 0)), u, B (decide (b < 0)), w]]) := EX.append _ _
  rw [load4 get_last]
  simp only [OP_some]
  refine C64q (ha0.mono x1) b0 la lb ?_
  intro h2 x2
  simp only [ext_tuple, pair0, pair1, OP_some, q21z5, GdP_tt, bin_eqlS, q21z7, iPick_t]
  exact hk _ (x1.trans x2)

end Go.Proofs.YthplaillblmgfaaGreatDoor


namespace Go.Proofs.YthplaillblmgfaaGreatDoor
open Go.Sim

theorem C76 {a l : Nat} {h : Heap} {K : Value → Heap → Prop} (ha : a < 1024) (h2 : l ≤ 10) (hk : K (S (wrd a l)) h) : CallP Tryz.prog 76 [I a, I l] h K := by
  refine f76 ?_
  unfold T76
  refine loopL (σ := Nat) (fun i => [S (wrd a i), I ((i : Int) + 1)]) (fun _ => h) (fun i => i ≤ l) (fun i => l - i) 0 (by simp [wrd, S]) rfl (Nat.zero_le _) ?_
  intro i hi L hL
  rw [q76z6]
  simp only [bin_leq, OP_some, IfP_dec]
  refine ⟨fun hlt => ?_, fun hge => ?_⟩
  · have hil : i < l := by omega
    have w1 : IntKind.wrap .i64 (10 - ((i : Int) + 1)) = ((9 - i : Nat) : Int) := by rw [wrap64 (by omega) (by omega)]; omega
    have hdl : a / 2 ^ (9 - i) < 1024 := Nat.lt_of_le_of_lt (Nat.div_le_self _ _) ha
    have an : iBin .and (I (a / 2 ^ (9 - i) : Nat)) (.int .i64 1) = some (I (a / 2 ^ (9 - i) % 2 : Nat)) := by
      have := andK skI hdl (show 1 < 1024 by decide)
      rw [bit_and] at this
      exact this
    have w2 : IntKind.wrap .i64 (((a / 2 ^ (9 - i) % 2 : Nat) : Int) + 1) = ((a / 2 ^ (9 - i) % 2 + 1 : Nat) : Int) := by rw [wrap64 (by omega) (by omega)]; omega
    have sx : iSlS (.string ⟨#[48, 49]⟩) (some (I (a / 2 ^ (9 - i) % 2 : Nat))) (some (I ((a / 2 ^ (9 - i) % 2 + 1 : Nat) : Int))) = some (S [if a.testBit (9 - i) then 49 else 48]) := by
      rw [Nat.testBit_eq_decide_div_mod_eq]
      rcases Nat.mod_two_eq_zero_or_one (a / 2 ^ (9 - i)) with h | h <;> rw [h] <;> rfl
    have w3 : IntKind.wrap .i64 ((i : Int) + 1 + 1) = ((i + 1 : Nat) : Int) + 1 := by rw [wrap64 (by omega) (by omega)]; omega
    have e : wrd a i ++ [if a.testBit (9 - i) then 49 else 48] = wrd a (i + 1) := by simp [wrd, List.range_succ]
    simp only [bin_sub, w1, OP_some, shrK skI (show 9 - i < 16 by omega), an, bin_add, w2, sx, bin_addS (a := wrd a i) (b := [if a.testBit (9 - i) then 49 else 48]) (by simp [wrd_len, maxLen]; omega), e, w3, true_and]
    exact hL (i + 1) (by omega) (by omega)
  · have : i = l := by omega
    subst this
    rw [q76z11]
    exact hk

theorem sum_take {ls : List Nat} {i : Nat} (h : i < ls.length) : ((ls.take (i + 1)).map rmN).sum = ((ls.take i).map rmN).sum + rmN ls[i] := by
  rw [List.take_succ_eq_append_getElem h]
  simp only [List.map_append, List.sum_append, List.map_cons, List.map_nil, List.sum_cons, List.sum_nil, Nat.add_zero]

theorem sum_bd {ls : List Nat} (hok : lenOk ls) : (ls.map rmN).sum ≤ 512 * ls.length := by
  induction ls with
  | nil => simp
  | cons l ls ih =>
    have h1 := hok l (by simp)
    have := (rmN_range h1.1 h1.2).2
    have := ih fun x hx => hok x (by simp [hx])
    simp; omega

theorem sum_pos {ls : List Nat} (hok : lenOk ls) (h0 : 0 < ls.length) : 0 < (ls.map rmN).sum := by
  cases ls with
  | nil => simp at h0
  | cons l ls =>
    have h1 := hok l (by simp)
    have := (rmN_range h1.1 h1.2).1
    simp; omega

theorem lenOk_take {ls : List Nat} (hok : lenOk ls) (i : Nat) : lenOk (ls.take i) := fun x hx => hok x (List.mem_of_mem_take hx)

theorem C35 {v : Value} {ls : List Nat} {h : Heap} {K : Value → Heap → Prop} (hv : NS h v .i64 (ls.map fun l : Nat => (l : Int))) (hl : ls.length ≤ 12) (hok : lenOk ls) (hk : K (I ((ls.map rmN).sum : Nat)) h) : CallP Tryz.prog 35 [v] h K := by
  refine f35 ?_
  unfold T35
  refine loopL (σ := Nat) (fun i => [I (((ls.take i).map rmN).sum : Nat), I i]) (fun _ => h) (fun i => i ≤ ls.length) (fun i => ls.length - i) 0 rfl rfl (Nat.zero_le _) ?_
  intro i hi L hL
  rw [q35z6]
  simp only [hv.lenN, OP_some, bin_lss, IfP_dec]
  refine ⟨fun hlt => ?_, fun hge => ?_⟩
  · have hlt : i < ls.length := by omega
    obtain ⟨b, o, a1, a2⟩ := hv.getN hlt
    have h1 := hok _ (List.getElem_mem hlt)
    have bd := sum_bd (lenOk_take hok i)
    rw [List.length_take] at bd
    have rp := rmN_range h1.1 h1.2
    have w : IntKind.wrap .i64 ((((ls.take i).map rmN).sum : Nat) + (rmN ls[i] : Nat) : Int) = (((ls.take (i + 1)).map rmN).sum : Nat) := by rw [sum_take hlt, wrap64 (by omega) (by omega)]; omega
    simp only [a1, a2, OP_some]
    refine C72 h1.1 h1.2 ?_
    simp only [bin_add, w, OP_some, inc i (by omega), true_and]
    exact hL (i + 1) hlt (by omega)
  · have : i = ls.length := by omega
    subst this
    rw [q35z11, List.take_length]
    exact hk

theorem fit_room {a l : Nat} (h1 : 1 ≤ l) (h2 : l ≤ 10) : ¬ (1024 ≤ fitN a l) ↔ fitN a l + rmN l ≤ 1024 := by
  obtain ⟨q, hq⟩ : ∃ q, fitN a l = q * rmN l := ⟨_, rfl⟩
  rw [hq]
  have : l = 1 ∨ l = 2 ∨ l = 3 ∨ l = 4 ∨ l = 5 ∨ l = 6 ∨ l = 7 ∨ l = 8 ∨ l = 9 ∨ l = 10 := by omega
  rcases this with rfl | rfl | rfl | rfl | rfl | rfl | rfl | rfl | rfl | rfl <;> simp only [rmN] <;> omega

theorem C37 {v : Value} {ls : List Nat} {h : Heap} {K : Value → Heap → Prop} (hv : NS h v .i64 (ls.map fun l : Nat => (l : Int))) (hl : ls.length ≤ 12) (hok : lenOk ls)
    (hno : risL 0 ls = none → ∀ h', EX h h' → K (.tuple #[.slice none 0 0, B false]) h')
    (hk : ∀ ws u h', risL 0 ls = some ws → EX h h' → OwnS h.length h' 9 u (ws.map S) → K (.tuple #[u, B true]) h') : CallP Tryz.prog 37 [v] h K := by
  refine f37 ?_
  have mkW0 : ∀ h : Heap, iMkSl 9 0 [(.string ⟨#[]⟩)] h [] = some (sl 9 h.length 0 0, h ++ [.arr 9 []]) := fun _ => rfl
  unfold T37
  simp only [mkW0, OH_some]
  refine loopL (σ := Nat × Nat × Value × List (List UInt8) × Heap) (fun q => [q.2.2.1, I q.2.1, I q.1]) (fun q => q.2.2.2.2)
    (fun q => q.1 ≤ ls.length ∧ q.2.1 ≤ 1024 ∧ EX h q.2.2.2.2 ∧ OwnS h.length q.2.2.2.2 9 q.2.2.1 (q.2.2.2.1.map S) ∧ q.2.2.2.1.length = q.1 ∧ risL 0 ls = (risL q.2.1 (ls.drop q.1)).map (q.2.2.2.1 ++ ·)) (fun q => ls.length - q.1)
    (0, 0, sl 9 h.length 0 0, [], h ++ [.arr 9 []]) rfl rfl ⟨Nat.zero_le _, Nat.zero_le _, EX.append _ _, .inr ⟨h.length, Nat.le_refl _, rfl, get_last⟩, rfl, by simp⟩ ?_
  rintro ⟨i, a, vo, pre, g⟩ ⟨hi, ha, xg, own, hpl, hris⟩ L hL
  simp only at hi ha xg own hpl hris hL ⊢
  rw [q37z6]
  simp only [hv.lenN, bin_lss, OP_some, IfP_dec]
  refine ⟨fun hlt => ?_, fun hge => ?_⟩
  · have hil : i < ls.length := by omega
    have h1 := hok _ (List.getElem_mem hil)
    obtain ⟨b, o, g1, g2⟩ := hv.getN hil
    have hf := fitN_le (at_ := a) h1.1 h1.2
    have hr := rmN_pos h1.1 h1.2
    have fr := fit_room (a := a) h1.1 h1.2
    have wr : IntKind.wrap .i64 ((fitN a ls[i] : Nat) + (rmN ls[i] : Nat) : Int) = ((fitN a ls[i] + rmN ls[i] : Nat) : Int) := by rw [wrap64 (by omega) (by omega)]; omega
    have hdrop : ls.drop i = ls[i] :: ls.drop (i + 1) := List.drop_eq_getElem_cons hil
    rw [hdrop] at hris
    simp only [risL] at hris
    simp only [g1, EX.load xg g2, OP_some]
    refine C75 ha h1.1 h1.2 ?_
    simp only [bin_geq, OP_some, IfP_dec]
    refine ⟨fun hb => ?_, fun hb => ?_⟩
    · rw [if_neg (by omega)] at hris
      exact hno hris g xg
    · rw [if_pos (by omega), Option.map_map] at hris
      simp only [g1, EX.load xg g2, OP_some]
      refine C76 (by omega) h1.2 ?_
      refine app1 own xg (by simp; omega) (by simp [maxLen]; omega) rfl rfl ?_
      intro v' g3 x3 own'
      simp only [g1, EX.load x3 g2, OP_some]
      refine C72 h1.1 h1.2 ?_
      simp only [bin_add, wr, OP_some, inc i (by omega), true_and]
      refine hL (i + 1, fitN a ls[i] + rmN ls[i], v', pre ++ [wrd (fitN a ls[i]) ls[i]], g3) ⟨by show i + 1 ≤ _; omega, by show fitN a ls[i] + rmN ls[i] ≤ 1024; omega, x3, by simpa using own', by simp [hpl], ?_⟩ (by show ls.length - (i + 1) < ls.length - i; omega)
      show risL 0 ls = (risL (fitN a ls[i] + rmN ls[i]) (ls.drop (i + 1))).map ((pre ++ [wrd (fitN a ls[i]) ls[i]]) ++ ·)
      rw [hris]
      congr 1
      funext x
      simp
  · have : i = ls.length := by omega
    subst this
    rw [List.drop_length] at hris
    rw [q37z16]
    exact hk pre vo g (by rw [hris]; simp [risL]) xg own

theorem C38 {va vb : Value} {ls1 ls2 : List (List UInt8)} {h : Heap} {K : Value → Heap → Prop} (ha : SS h va ls1) (hb : SS h vb ls2) (hl : ls1.length ≤ 1000) (he : ls1 = ls2) (hk : K (B true) h) : CallP Tryz.prog 38 [va, vb] h K := by
  subst he
  refine f38 ?_
  unfold T38
  simp only [ha.len, hb.len, OP_some, bin_neq, decide_true, Bool.not_true, IfP_false]
  refine loopL (σ := Nat) (fun i => [I i]) (fun _ => h) (fun i => i ≤ ls1.length) (fun i => ls1.length - i) 0 rfl rfl (Nat.zero_le _) ?_
  intro i hi L hL
  rw [q38z8]
  simp only [ha.len, OP_some, bin_lss, IfP_dec]
  refine ⟨fun hlt => ?_, fun _ => hk⟩
  have hlt : i < ls1.length := by omega
  obtain ⟨b, o, a1, a2⟩ := ha.get i hlt
  obtain ⟨b', o', a3, a4⟩ := hb.get i hlt
  simp only [a1, a2, a3, a4, OP_some, true_and, bin_neqS, decide_true, Bool.not_true, IfP_false, bin_add, inc i (by omega)]
  exact hL (i + 1) hlt (by omega)

set_option maxHeartbeats 1000000 in
theorem C39 {v : Value} {ls : List Nat} {h : Heap} {K : Value → Heap → Prop} (hv : NS h v .i64 (ls.map fun l : Nat => (l : Int))) (hl : ls.length ≤ 12) (h0 : 0 < ls.length) (hok : lenOk ls) (hs : (ls.map rmN).sum ≤ 1024)
    (hk : ∀ u h', EX h h' → OwnS h.length h' 9 u ((plainW ls).map S) → K u h') : CallP Tryz.prog 39 [v] h K := by
  refine f39 ?_
  have hlen : iLenSl v = some (I ls.length) := hv.lenN
  have mk : iMake 9 16 [(.string ⟨#[]⟩)] h (I ls.length) (I ls.length) = some (sl 9 h.length 0 ls.length, h ++ [.arr 9 ((outW ls 1 0).map S)]) := by
    simp only [iMake]
    rw [if_pos (by omega), zrep_one]
    have : List.replicate ls.length (Value.string ⟨#[]⟩) = (outW ls 1 0).map S := by
      apply List.ext_getElem
      · simp [outW]
      intro j h1 h2
      simp at h1
      have hj := hok _ (List.getElem_mem h1)
      simp only [List.getElem_replicate, outW, List.getElem_map, List.getElem_range]
      rw [if_neg]
      · rfl
      · have : ls.getD j 0 = ls[j] := by simp [h1]
        omega
    simp only [Int.toNat_natCast, this]
  unfold T39
  simp only [OP_some, hlen, mk, OH_some]
  have x0 : EX h (h ++ [.arr 9 ((outW ls 1 0).map S)]) := EX.append _ _
  have k0 : (h ++ [IObj.arr 9 ((outW ls 1 0).map S)])[h.length]? = some (.arr 9 ((outW ls 1 0).map S)) := get_last
  generalize h ++ [IObj.arr 9 ((outW ls 1 0).map S)] = g0 at x0 k0 ⊢
  refine loopL (σ := Nat × Nat × Heap) (fun q => [I q.2.1, I q.1]) (fun q => q.2.2) (fun q => (1 ≤ q.1 ∧ q.1 ≤ 11) ∧ q.2.1 = offF q.1 0 ls 0 ∧ q.2.1 ≤ 1024 ∧ EX h q.2.2 ∧ q.2.2[h.length]? = some (.arr 9 ((outW ls q.1 0).map S))) (fun q => 11 - q.1)
    (1, 0, g0) rfl rfl ⟨⟨Nat.le_refl _, show (1 : Nat) ≤ 11 by decide⟩, (offF_one hok).symm, Nat.zero_le _, x0, k0⟩ ?_
  rintro ⟨n, a, g⟩ ⟨⟨hn1, hn⟩, haeq, ha, xg, kg⟩ L1 hL1
  simp only at hn1 hn haeq ha xg kg hL1 ⊢
  rw [q39z6]
  simp only [bin_leq, OP_some, IfP_dec]
  refine ⟨fun hle => ?_, fun hgt => ?_⟩
  · have hn10 : n ≤ 10 := by omega
    refine loopL (σ := Nat × Nat × Heap) (fun q => [I q.2.1, I q.1]) (fun q => q.2.2) (fun q => q.1 ≤ ls.length ∧ q.2.1 = offF n q.1 ls 0 ∧ q.2.1 ≤ 1024 ∧ EX h q.2.2 ∧ q.2.2[h.length]? = some (.arr 9 ((outW ls n q.1).map S))) (fun q => ls.length - q.1)
      (0, a, g) rfl rfl ⟨Nat.zero_le _, haeq, ha, xg, kg⟩ ?_
    rintro ⟨i, b, g1⟩ ⟨hi, hbeq, hb, x1, k1⟩ L2 hL2
    simp only at hi hbeq hb x1 k1 hL2 ⊢
    rw [q39z13]
    simp only [hlen, bin_lss, OP_some, IfP_dec]
    refine ⟨fun hlt => ?_, fun hge => ?_⟩
    · have hil : i < ls.length := by omega
      have h1 := hok _ (List.getElem_mem hil)
      have hgd : ls.getD i 0 = ls[i] := by simp [hil]
      have hstep := offF_step (n := n) (ls := ls) (i := i) (k := 0) (Nat.zero_le _) (by simpa using hil)
      simp only [Nat.sub_zero] at hstep
      obtain ⟨bb, o, g1', g2'⟩ := NS.getN (hv.mono x1) hil
      simp only [g1', g2', OP_some, bin_eql, IfP_dec]
      refine ⟨fun hln => ?_, fun hln => ?_⟩
      · have hln : ls[i] = n := by omega
        rw [if_pos hln] at hstep
        have hr := rmN_pos hn1 hn10
        have hle2 := offF_le (ls := ls) (n := n) (i := i + 1) (k := 0)
        have wr : IntKind.wrap .i64 (((b : Nat) : Int) + (rmN n : Nat)) = ((b + rmN n : Nat) : Int) := by rw [wrap64 (by omega) (by omega)]; omega
        refine C76 (by omega) hn10 ?_
        simp only [adr_sl hil, OP_some]
        rw [store_at k1 (by simp [outW, hil]) rfl rfl]
        simp only [OH_some]
        refine C72 hn1 hn10 ?_
        simp only [bin_add, wr, OP_some]
        rw [q39z20]
        simp only [bin_add, OP_some, inc i (by omega), true_and]
        have es : ((outW ls n i).map S).set i (S (wrd b n)) = (outW ls n (i + 1)).map S := by
          rw [← List.map_set, hbeq, outW_set hil (by rw [hgd, hln])]
        rw [es]
        exact hL2 (i + 1, b + rmN n, g1.set h.length (.arr 9 ((outW ls n (i + 1)).map S))) ⟨by show i + 1 ≤ _; omega, by show b + rmN n = _; rw [hstep, hbeq], by show b + rmN n ≤ 1024; omega, x1.set (Nat.le_refl _) _, List.getElem?_set_self (List.getElem?_eq_some_iff.1 k1).1⟩ (by show ls.length - (i + 1) < ls.length - i; omega)
      · have hln : ls[i] ≠ n := by omega
        rw [if_neg hln] at hstep
        rw [q39z20]
        simp only [bin_add, OP_some, inc i (by omega), true_and]
        exact hL2 (i + 1, b, g1) ⟨by show i + 1 ≤ _; omega, by show b = _; rw [hstep, hbeq]; rfl, hb, x1, by rw [outW_skip (by rw [hgd]; exact hln)]; exact k1⟩ (by show ls.length - (i + 1) < ls.length - i; omega)
    · have : i = ls.length := by omega
      subst this
      rw [q39z21]
      simp only [bin_add, OP_some, inc n (by omega), true_and]
      refine hL1 (n + 1, b, g1) ⟨⟨by show 1 ≤ n + 1; omega, by show n + 1 ≤ 11; omega⟩, ?_, hb, x1, ?_⟩ (by show 11 - (n + 1) < 11 - n; omega)
      · show b = offF (n + 1) 0 ls 0
        rw [hbeq, offF_top (by omega)]
      · rw [← outW_top]; exact k1
  · have : n = 11 := by omega
    subst this
    rw [q39z22]
    exact hk _ g xg (.inr ⟨h.length, Nat.le_refl _, by rw [List.length_map]; unfold plainW; rw [outW_len], kg⟩)

/-- What of the room lengths take, as a text. -/
def krS (s : Nat) : List UInt8 := ratS ((s : Int) / (Nat.gcd s 1024 : Int)) ((1024 : Int) / (Nat.gcd s 1024 : Int))

theorem C27 {v : Value} {ls : List Nat} {h : Heap} {K : Value → Heap → Prop} (hv : NS h v .i64 (ls.map fun l : Nat => (l : Int))) (hl : ls.length ≤ 12) (h0 : 0 < ls.length) (hok : lenOk ls)
    (hk : ∀ h', EX h h' → K (.tuple #[S (krS (ls.map rmN).sum), I 0]) h') : CallP Tryz.prog 27 [v] h K := by
  refine f27 (C65 hv (by rw [List.length_map]; omega) ?_)
  simp only [lenE_ok hl h0 hok, bin_neq, OP_some, decide_true, Bool.not_true, IfP_false, hv.lenN]
  refine loopL (σ := Nat) (fun i => [I (((ls.take i).map rmN).sum : Nat), I i]) (fun _ => h) (fun i => i ≤ ls.length) (fun i => ls.length - i) 0 rfl rfl (Nat.zero_le _) ?_
  intro i hi L hL
  rw [q27z10]
  simp only [OP_some, bin_lss, IfP_dec]
  refine ⟨fun hlt => ?_, fun hge => ?_⟩
  · have hlt : i < ls.length := by omega
    obtain ⟨b, o, a1, a2⟩ := hv.getN hlt
    have h1 := hok _ (List.getElem_mem hlt)
    have bd := sum_bd (lenOk_take hok i)
    rw [List.length_take] at bd
    have rp := rmN_range h1.1 h1.2
    have w : IntKind.wrap .i64 ((((ls.take i).map rmN).sum : Nat) + (rmN ls[i] : Nat) : Int) = (((ls.take (i + 1)).map rmN).sum : Nat) := by rw [sum_take hlt, wrap64 (by omega) (by omega)]; omega
    simp only [a1, a2, OP_some]
    refine C66 h1.1 h1.2 ?_
    simp only [bin_add, w, OP_some, inc i (by omega), true_and]
    exact hL (i + 1) hlt (by omega)
  · have : i = ls.length := by omega
    subst this
    rw [List.take_length]
    have sp := sum_pos hok h0
    have sb := sum_bd hok
    unfold krS at hk
    generalize (ls.map rmN).sum = s at hk sp sb
    have sb : s ≤ 6144 := by omega
    rw [q27z16]
    refine C67 (by omega) (by omega) ?_
    intro r1 g1 x1 q1
    refine C67 (by omega) (by omega) ?_
    intro r2 g2 x2 q2
    have big : ∀ n : Nat, n < 4294967296 → n < bigW := fun n hn => lt_bigW (Nat.lt_of_lt_of_le hn (Nat.le_self_pow (by decide) _))
    have e1 : ((s : Int) * 1).natAbs = s := by omega
    have e2 : ((1 : Int) * 1024).natAbs = 1024 := rfl
    refine C68 (q1.mono x2) q2 (big _ (by omega)) (big _ (by decide)) (big _ (by decide)) (big _ (by decide)) (by rw [e1]; exact big _ (by omega)) (by decide) (by decide) ?_
    intro r3 g3 x3 q3
    rw [e1, e2, Int.mul_one, Int.one_mul] at q3
    have gp : 0 < Nat.gcd s 1024 := Nat.gcd_pos_of_pos_left _ sp
    have gle : Nat.gcd s 1024 ≤ 1024 := Nat.gcd_le_right _ (by decide)
    have d1 : (1024 : Int) / (Nat.gcd s 1024 : Int) = ((1024 / Nat.gcd s 1024 : Nat) : Int) := rfl
    have d2 : (s : Int) / (Nat.gcd s 1024 : Int) = ((s / Nat.gcd s 1024 : Nat) : Int) := rfl
    have p1 : 0 < 1024 / Nat.gcd s 1024 := Nat.div_pos gle gp
    refine C50q q3 (by rw [d1]; omega) (by rw [d2, Int.natAbs_natCast]; exact big _ (Nat.lt_of_le_of_lt (Nat.div_le_self _ _) (by omega))) (by rw [d1, Int.natAbs_natCast]; exact big _ (Nat.lt_of_le_of_lt (Nat.div_le_self _ _) (by decide))) ?_
    intro g4 x4
    simp only [ext_tuple, pair0, pair1, OP_some]
    exact hk g4 (x1.trans (x2.trans (x3.trans x4)))

end Go.Proofs.YthplaillblmgfaaGreatDoor


namespace Go.Proofs.YthplaillblmgfaaGreatDoor
open Go.Sim
variable (P : Program) (K : VK)
/-! F40: pommel/mark.check -/
/-! F41: pommel/mark.Clear$1 -/
/-! F42: pommel/mark.before -/
/-! F43: strings.HasPrefix -/
/-! F77: pommel/mark.marked -/
/-! F78: slices.Contains[[]string,string] -/
/-! F79: internal/stringslite.HasPrefix -/
/-! F107: strings.Trim -/
/-! F108: slices.Index[[]string,string] -/
/-! F128: strings.makeASCIISet -/
noncomputable def c128z5 : ICode := .seq (.seq (.ops none [⟨(some 6), .p (.mv (.tmp 4))⟩,
 ⟨(some 7), .p (.mv (.tmp 0))⟩,
 ⟨(some 8), .p (.lenS (.tmp 7))⟩,
 ⟨(some 9), .p (.bin .lss (.tmp 6) (.tmp 8))⟩])
 (.cond (.tmp 9) (.skip)
 (.exit 0)))
 (.seq (.block 1 (.seq (.ops none [⟨(some 12), .p (.mv (.tmp 0))⟩,
 ⟨(some 13), .p (.mv (.tmp 4))⟩,
 ⟨(some 14), .p (.idxS (.tmp 12) (.tmp 13))⟩,
 ⟨(some 5), .p (.mv (.tmp 14))⟩])
 (.seq (.seq (.ops none [⟨(some 15), .p (.mv (.tmp 5))⟩,
 ⟨(some 16), .p (.bin .geq (.tmp 15) (.const (.int .u8 (128))))⟩])
 (.cond (.tmp 16) (.seq (.ops none [⟨(some 17), .l (.load true 256 (.tmp 2))⟩,
 ⟨none, .e (.store 256 (.tmp 2) (.tmp 17))⟩,
 ⟨(some 3), .p (.mv (.const (.bool false)))⟩])
 (.ret))
 (.skip)))
 (.ops none [⟨(some 18), .p (.mv (.tmp 5))⟩,
 ⟨(some 19), .p (.adrArr 256 1 (.tmp 2) (.tmp 18))⟩,
 ⟨none, .e (.store 1 (.tmp 19) (.const (.bool true)))⟩]))))
 (.ops none [⟨(some 10), .p (.mv (.tmp 4))⟩,
 ⟨(some 11), .p (.bin .add (.tmp 10) (.const (.int .i64 (1))))⟩,
 ⟨(some 4), .p (.mv (.tmp 11))⟩]))
noncomputable def c128z14 : ICode := .seq (.ops none [⟨(some 20), .l (.load true 256 (.tmp 2))⟩,
 ⟨none, .e (.store 256 (.tmp 2) (.tmp 20))⟩,
 ⟨(some 3), .p (.mv (.const (.bool true)))⟩])
 (.ret)
noncomputable def c128z2 : ICode := .cut [2] c128z14
noncomputable def c128 : ICode := .seq (.ops none [⟨(some 2), .e (.alloc 158 [(.bool false), (.bool false), (.bool false), (.bool false), (.bool false), (.bool false), (.bool false), (.bool false), (.bool false), (.bool false), (.bool false), (.bool false), (.bool false), (.bool false), (.bool false), (.bool false), (.bool false), (.bool false), (.bool false), (.bool false), (.bool false), (.bool false), (.bool false), (.bool false), (.bool false), (.bool false), (.bool false), (.bool false), (.bool false), (.bool false), (.bool false), (.bool false), (.bool false), (.bool false), (.bool false), (.bool false), (.bool false), (.bool false), (.bool false), (.bool false), (.bool false), (.bool false), (.bool false), (.bool false), (.bool false), (.bool false), (.bool false), (.bool false), (.bool false), (.bool false), (.bool false), (.bool false), (.bool false), (.bool false), (.bool false), (.bool false), (.bool false), (.bool false), (.bool false), (.bool false), (.bool false), (.bool false), (.bool false), (.bool false), (.bool false), (.bool false), (.bool false), (.bool false), (.bool false), (.bool false), (.bool false), (.bool false), (.bool false), (.bool false), (.bool false), (.bool false), (.bool false), (.bool false), (.bool false), (.bool false), (.bool false), (.bool false), (.bool false), (.bool false), (.bool false), (.bool false), (.bool false), (.bool false), (.bool false), (.bool false), (.bool false), (.bool false), (.bool false), (.bool false), (.bool false), (.bool false), (.bool false), (.bool false), (.bool false), (.bool false), (.bool false), (.bool false), (.bool false), (.bool false), (.bool false), (.bool false), (.bool false), (.bool false), (.bool false), (.bool false), (.bool false), (.bool false), (.bool false), (.bool false), (.bool false), (.bool false), (.bool false), (.bool false), (.bool false), (.bool false), (.bool false), (.bool false), (.bool false), (.bool false), (.bool false), (.bool false), (.bool false), (.bool false), (.bool false), (.bool false), (.bool false), (.bool false), (.bool false), (.bool false), (.bool false), (.bool false), (.bool false), (.bool false), (.bool false), (.bool false), (.bool false), (.bool false), (.bool false), (.bool false), (.bool false), (.bool false), (.bool false), (.bool false), (.bool false), (.bool false), (.bool false), (.bool false), (.bool false), (.bool false), (.bool false), (.bool false), (.bool false), (.bool false), (.bool false), (.bool false), (.bool false), (.bool false), (.bool false), (.bool false), (.bool false), (.bool false), (.bool false), (.bool false), (.bool false), (.bool false), (.bool false), (.bool false), (.bool false), (.bool false), (.bool false), (.bool false), (.bool false), (.bool false), (.bool false), (.bool false), (.bool false), (.bool false), (.bool false), (.bool false), (.bool false), (.bool false), (.bool false), (.bool false), (.bool false), (.bool false), (.bool false), (.bool false), (.bool false), (.bool false), (.bool false), (.bool false), (.bool false), (.bool false), (.bool false), (.bool false), (.bool false), (.bool false), (.bool false), (.bool false), (.bool false), (.bool false), (.bool false), (.bool false), (.bool false), (.bool false), (.bool false), (.bool false), (.bool false), (.bool false), (.bool false), (.bool false), (.bool false), (.bool false), (.bool false), (.bool false), (.bool false), (.bool false), (.bool false), (.bool false), (.bool false), (.bool false), (.bool false), (.bool false), (.bool false), (.bool false), (.bool false), (.bool false), (.bool false), (.bool false), (.bool false), (.bool false), (.bool false), (.bool false), (.bool false), (.bool false), (.bool false), (.bool false), (.bool false), (.bool false), (.bool false), (.bool false), (.bool false), (.bool false), (.bool false), (.bool false), (.bool false), (.bool false), (.bool false), (.bool false), (.bool false), (.bool false)])⟩,
 ⟨(some 3), .p (.mv (.const (.bool false)))⟩])
 (.seq (.seq (.ops none [⟨(some 4), .p (.mv (.const (.int .i64 (0))))⟩])
 (.block 0 (.loop [0, 2] [4] c128z5))) c128z2)
theorem k128 : compFn Tryz.prog 128 [[], [], [0, 2], [4], [], [], [], [], [], [], [], [2], []] = some (21, c128, [.cell true 256 2, .tmp 3]) := by kernel_rfl
def K128z0 (_P : Program) (K : VK) : Kont := bodyP [.cell true 256 2, .tmp 3] K
def K128z2 : Kont := thenK (iwpP P c128z2 (K128z0 P K)) (K128z0 P K)
def K128z4 : Kont := inBlockK 0 (K128z2 P K)
def K128z5 (chars0 as2 : Value) (L1 : LK) : Kont := thenK (fun f' h'' => (([0, 2] : List Nat).map f' : List Value) = [chars0, as2] ∧ L1 (([4] : List Nat).map f') h'') (K128z4 P K)
def p128z5 (chars0 as2 : Value) (L1 : LK) (xs : List Value) (h : Heap) : Prop := CutP (iwpP P c128z5 (K128z5 P K chars0 as2 L1)) ([0, 2] ++ [4]) ([chars0, as2] ++ xs) h
def T128 (chars0 : Value) (h : Heap) : Prop :=
 OH (iAlloc 158 [(.bool false), (.bool false), (.bool false), (.bool false), (.bool false), (.bool false), (.bool false), (.bool false), (.bool false), (.bool false), (.bool false), (.bool false), (.bool false), (.bool false), (.bool false), (.bool false), (.bool false), (.bool false), (.bool false), (.bool false), (.bool false), (.bool false), (.bool false), (.bool false), (.bool false), (.bool false), (.bool false), (.bool false), (.bool false), (.bool false), (.bool false), (.bool false), (.bool false), (.bool false), (.bool false), (.bool false), (.bool false), (.bool false), (.bool false), (.bool false), (.bool false), (.bool false), (.bool false), (.bool false), (.bool false), (.bool false), (.bool false), (.bool false), (.bool false), (.bool false), (.bool false), (.bool false), (.bool false), (.bool false), (.bool false), (.bool false), (.bool false), (.bool false), (.bool false), (.bool false), (.bool false), (.bool false), (.bool false), (.bool false), (.bool false), (.bool false), (.bool false), (.bool false), (.bool false), (.bool false), (.bool false), (.bool false), (.bool false), (.bool false), (.bool false), (.bool false), (.bool false), (.bool false), (.bool false), (.bool false), (.bool false), (.bool false), (.bool false), (.bool false), (.bool false), (.bool false), (.bool false), (.bool false), (.bool false), (.bool false), (.bool false), (.bool false), (.bool false), (.bool false), (.bool false), (.bool false), (.bool false), (.bool false), (.bool false), (.bool false), (.bool false), (.bool false), (.bool false), (.bool false), (.bool false), (.bool false), (.bool false), (.bool false), (.bool false), (.bool false), (.bool false), (.bool false), (.bool false), (.bool false), (.bool false), (.bool false), (.bool false), (.bool false), (.bool false), (.bool false), (.bool false), (.bool false), (.bool false), (.bool false), (.bool false), (.bool false), (.bool false), (.bool false), (.bool false), (.bool false), (.bool false), (.bool false), (.bool false), (.bool false), (.bool false), (.bool false), (.bool false), (.bool false), (.bool false), (.bool false), (.bool false), (.bool false), (.bool false), (.bool false), (.bool false), (.bool false), (.bool false), (.bool false), (.bool false), (.bool false), (.bool false), (.bool false), (.bool false), (.bool false), (.bool false), (.bool false), (.bool false), (.bool false), (.bool false), (.bool false), (.bool false), (.bool false), (.bool false), (.bool false), (.bool false), (.bool false), (.bool false), (.bool false), (.bool false), (.bool false), (.bool false), (.bool false), (.bool false), (.bool false), (.bool false), (.bool false), (.bool false), (.bool false), (.bool false), (.bool false), (.bool false), (.bool false), (.bool false), (.bool false), (.bool false), (.bool false), (.bool false), (.bool false), (.bool false), (.bool false), (.bool false), (.bool false), (.bool false), (.bool false), (.bool false), (.bool false), (.bool false), (.bool false), (.bool false), (.bool false), (.bool false), (.bool false), (.bool false), (.bool false), (.bool false), (.bool false), (.bool false), (.bool false), (.bool false), (.bool false), (.bool false), (.bool false), (.bool false), (.bool false), (.bool false), (.bool false), (.bool false), (.bool false), (.bool false), (.bool false), (.bool false), (.bool false), (.bool false), (.bool false), (.bool false), (.bool false), (.bool false), (.bool false), (.bool false), (.bool false), (.bool false), (.bool false), (.bool false), (.bool false), (.bool false), (.bool false), (.bool false), (.bool false), (.bool false), (.bool false), (.bool false), (.bool false), (.bool false), (.bool false), (.bool false), (.bool false), (.bool false), (.bool false), (.bool false), (.bool false), (.bool false), (.bool false), (.bool false), (.bool false), (.bool false), (.bool false)] h) fun as2 h_1 =>
 LoopP [(.int .i64 (0))] h_1 fun L1 xs hx =>
 p128z5 P K chars0 as2 L1 xs hx
theorem e128 (chars0 : Value) (h : Heap) : iwpP P c128 (bodyP [.cell true 256 2, .tmp 3] K) (frame0 [chars0]) h = T128 P K chars0 h := by kernel_rfl
theorem f128 {K : VK} {chars0 : Value} {h : Heap} (H : T128 Tryz.prog K chars0 h) : CallP Tryz.prog 128 [chars0] h K :=
 callP_intro k128 (Nat.le_of_ble_eq_true rfl) ((e128 Tryz.prog K chars0 h).mpr H)
/-! F129: strings.trimLeftASCII -/
noncomputable def c129z4 : ICode := .seq (.seq (.ops none [⟨(some 5), .p (.mv (.tmp 0))⟩,
 ⟨(some 6), .p (.lenS (.tmp 5))⟩,
 ⟨(some 7), .p (.bin .gtr (.tmp 6) (.const (.int .i64 (0))))⟩])
 (.cond (.tmp 7) (.skip)
 (.exit 0)))
 (.block 1 (.seq (.seq (.ops none [⟨(some 8), .p (.mv (.tmp 1))⟩,
 ⟨(some 9), .p (.mv (.tmp 0))⟩,
 ⟨(some 10), .p (.idxS (.tmp 9) (.const (.int .i64 (0))))⟩,
 ⟨(some 11), .call 150 [(.tmp 8), (.tmp 10)]⟩,
 ⟨(some 12), .p (.un .not (.tmp 11))⟩])
 (.cond (.tmp 12) (.exit 0)
 (.skip)))
 (.ops none [⟨(some 13), .p (.mv (.tmp 0))⟩,
 ⟨(some 14), .p (.slS (.tmp 13) (some (.const (.int .i64 (1)))) none)⟩,
 ⟨(some 0), .p (.mv (.tmp 14))⟩])))
noncomputable def c129z10 : ICode := .seq (.ops none [⟨(some 15), .p (.mv (.tmp 0))⟩,
 ⟨(some 4), .p (.mv (.tmp 15))⟩])
 (.ret)
noncomputable def c129z2 : ICode := .cut [0] c129z10
noncomputable def c129 : ICode := .seq (.ops none [⟨(some 4), .p (.mv (.const (.string ⟨#[]⟩)))⟩])
 (.seq (.block 0 (.loop [1] [0] c129z4)) c129z2)
theorem k129 : compFn Tryz.prog 129 [[], [1], [0], [], [], [], [], [0], []] = some (16, c129, [.tmp 4]) := by kernel_rfl
def K129z0 (_P : Program) (K : VK) : Kont := bodyP [.tmp 4] K
def K129z2 : Kont := thenK (iwpP P c129z2 (K129z0 P K)) (K129z0 P K)
def K129z3 : Kont := inBlockK 0 (K129z2 P K)
def K129z4 (as1 : Value) (L1 : LK) : Kont := thenK (fun f' h'' => (([1] : List Nat).map f' : List Value) = [as1] ∧ L1 (([0] : List Nat).map f') h'') (K129z3 P K)
def p129z4 (as1 : Value) (L1 : LK) (xs : List Value) (h : Heap) : Prop := CutP (iwpP P c129z4 (K129z4 P K as1 L1)) ([1] ++ [0]) ([as1] ++ xs) h
def T129 (s0 as1 : Value) (h : Heap) : Prop :=
 LoopP [s0] h fun L1 xs hx =>
 p129z4 P K as1 L1 xs hx
theorem e129 (s0 as1 : Value) (h : Heap) : iwpP P c129 (bodyP [.tmp 4] K) (frame0 [s0, as1]) h = T129 P K s0 as1 h := by kernel_rfl
theorem f129 {K : VK} {s0 as1 : Value} {h : Heap} (H : T129 Tryz.prog K s0 as1 h) : CallP Tryz.prog 129 [s0, as1] h K :=
 callP_intro k129 (Nat.le_of_ble_eq_true rfl) ((e129 Tryz.prog K s0 as1 h).mpr H)
/-! F130: strings.trimRightASCII -/
/-! F150: (*strings.asciiSet).contains -/
end Go.Proofs.YthplaillblmgfaaGreatDoor

namespace Go.Proofs.YthplaillblmgfaaGreatDoor
open Go.Sim

def isBit (c : UInt8) : Bool := c == 48 || c == 49
def bitsB (s : List UInt8) : Bool := s.all isBit

end Go.Proofs.YthplaillblmgfaaGreatDoor


namespace Go.Proofs.YthplaillblmgfaaGreatDoor
open Go.Sim

/-- The number that a text of two letters is, a 1 ahead. -/
def rk (t : List UInt8) : Nat := t.foldl (fun n c => 2 * n + (if c = 49 then 1 else 0)) 1

theorem revInd {α : Type} {P : List α → Prop} (h0 : P []) (h1 : ∀ t c, P t → P (t ++ [c])) (l : List α) : P l := by
  have : ∀ n (l : List α), l.length = n → P l := by
    intro n
    induction n with
    | zero => intro l hl; rw [List.length_eq_zero_iff.1 hl]; exact h0
    | succ n ih =>
      intro l hl
      have hn : l ≠ [] := by rintro rfl; simp at hl
      rw [← List.dropLast_concat_getLast hn]
      exact h1 _ _ (ih _ (by rw [List.length_dropLast]; omega))
  exact this _ l rfl

theorem rk_snoc (t : List UInt8) (c : UInt8) : rk (t ++ [c]) = 2 * rk t + (if c = 49 then 1 else 0) := by simp [rk, List.foldl_append]

theorem rk_app_le {a b : List UInt8} (h : rk a ≤ rk b) (r : List UInt8) : rk (a ++ r) ≤ rk (b ++ r) := by
  refine revInd (P := fun r => rk (a ++ r) ≤ rk (b ++ r)) (by simpa using h) (fun r c ih => ?_) r
  rw [← List.append_assoc, ← List.append_assoc, rk_snoc, rk_snoc]; split <;> omega

open Classical in
theorem own_ss {b : Nat} {g : Heap} {v : Value} {ls : List (List UInt8)} (own : OwnS b g 9 v (ls.map S)) : SS g v ls := by
  rcases own with ⟨rfl, e⟩ | ⟨i, _, rfl, hg⟩
  · have : ls = [] := by simpa using e
    subst this
    exact ⟨rfl, fun k hk => by simp at hk⟩
  · rw [List.length_map]
    exact SS.sl (by simp [objCells, hg])

end Go.Proofs.YthplaillblmgfaaGreatDoor


namespace Go.Proofs.YthplaillblmgfaaGreatDoor
open Go.Sim

abbrev Tx := List UInt8

def posK (k : Tx) : List (Tx × Tx) → Option Nat
  | [] => none
  | p :: l => if k = p.1 then some 0 else (posK k l).map (· + 1)

def look (k : Tx) : List (Tx × Tx) → Option Tx
  | [] => none
  | p :: l => if k = p.1 then some p.2 else look k l

def put (k t : Tx) (l : List (Tx × Tx)) : List (Tx × Tx) := match posK k l with | some j => l.set j (k, t) | none => l ++ [(k, t)]

theorem look_put (k t : Tx) : ∀ l : List (Tx × Tx), ∀ a, look a (put k t l) = if a = k then some t else look a l
  | [], a => by
    simp only [put, posK, List.nil_append, look]
  | p :: l, a => by
    have ih := look_put k t l a
    unfold put at ih ⊢
    rw [posK]
    by_cases hk : k = p.1
    · simp only [if_pos hk, List.set_cons_zero, look]
      by_cases ha : a = k
      · rw [if_pos ha, if_pos ha]
      · rw [if_neg ha, if_neg ha, if_neg (hk ▸ ha)]
    · rw [if_neg hk]
      cases hp : posK k l with
      | none =>
        rw [hp] at ih
        simp only [Option.map_none, List.cons_append, look] at ih ⊢
        rw [ih]
        by_cases ha : a = k
        · subst ha; simp [hk]
        · simp [ha]
      | some j =>
        rw [hp] at ih
        simp only [Option.map_some, List.set_cons_succ, look] at ih ⊢
        rw [ih]
        by_cases ha : a = k
        · subst ha; simp [hk]
        · simp [ha]

theorem mem_look {k : Tx} : ∀ {l : List (Tx × Tx)}, k ∈ l.map Prod.fst → ∃ t, look k l = some t
  | p :: l, h => by
    rw [look]
    by_cases he : k = p.1
    · exact ⟨_, if_pos he⟩
    · rw [if_neg he]
      rw [List.map_cons, List.mem_cons] at h
      exact mem_look (h.resolve_left he)

/-- Whether a text comes in, and the map then. -/
def bet (k t : Tx) (l : List (Tx × Tx)) : Bool := match look k l with | some o => decide (rk t < rk o) | none => true

end Go.Proofs.YthplaillblmgfaaGreatDoor


namespace Go.Proofs.YthplaillblmgfaaGreatDoor
open Go.Sim

/-- A text that two readings share, one of them ahead by `a`. -/
inductive Rc (W : List Tx) : Tx → Tx → Prop
  | init {v w : Tx} : v ∈ W → w ∈ W → v ≠ w → v <+: w → Rc W (w.drop v.length) w
  | fwd {a t w : Tx} : Rc W a t → a ≠ [] → w ∈ W → a <+: w → Rc W (w.drop a.length) (t ++ w.drop a.length)
  | bwd {a t w : Tx} : Rc W a t → a ≠ [] → w ∈ W → w <+: a → Rc W (a.drop w.length) t

def sufs (W : List Tx) : List Tx := W.flatMap fun w => (List.range 11).map fun i => w.drop i

theorem sufs_len (W : List Tx) : (sufs W).length = 11 * W.length := by
  induction W with
  | nil => rfl
  | cons w W ih =>
    have : sufs (w :: W) = ((List.range 11).map fun i => w.drop i) ++ sufs W := by simp [sufs]
    rw [this, List.length_append, ih]
    simp; omega

theorem sufs_drop {W : List Tx} {w : Tx} (hw : w ∈ W) (hl : w.length ≤ 10) (n : Nat) : w.drop n ∈ sufs W := by
  rw [sufs, List.mem_flatMap]
  refine ⟨w, hw, List.mem_map.2 ⟨min n 10, List.mem_range.2 (by omega), ?_⟩⟩
  by_cases h : n ≤ 10
  · rw [Nat.min_eq_left h]
  · rw [Nat.min_eq_right (by omega), List.drop_eq_nil_of_le hl, List.drop_eq_nil_of_le (by omega)]

structure Ok (W : List Tx) : Prop where
  nd : W.Nodup
  ne : ∀ w ∈ W, w ≠ []
  le : ∀ w ∈ W, w.length ≤ 10
  bt : ∀ w ∈ W, bitsB w = true
  few : W.length ≤ 12

theorem bits_drop {w : Tx} (h : bitsB w = true) (n : Nat) : bitsB (w.drop n) = true := by
  simp only [bitsB, List.all_eq_true] at h ⊢
  exact fun x hx => h x (List.mem_of_mem_drop hx)
theorem bits_app {a b : Tx} (h : bitsB a = true) (k : bitsB b = true) : bitsB (a ++ b) = true := by
  simp only [bitsB, List.all_append, Bool.and_eq_true] at *
  exact ⟨h, k⟩

theorem Rc.key {W : List Tx} (ok : Ok W) {a t : Tx} (r : Rc W a t) : (∃ w ∈ W, ∃ n, a = w.drop n) ∧ bitsB t = true := by
  induction r with
  | init hv hw _ _ => exact ⟨⟨_, hw, _, rfl⟩, ok.bt _ hw⟩
  | fwd _ _ hw _ ih => exact ⟨⟨_, hw, _, rfl⟩, bits_app ih.2 (bits_drop (ok.bt _ hw) _)⟩
  | bwd _ _ hw _ ih =>
    obtain ⟨⟨w, h1, n, rfl⟩, h2⟩ := ih
    exact ⟨⟨w, h1, n + _, List.drop_drop ..⟩, h2⟩

theorem Rc.suf {W : List Tx} (ok : Ok W) {a t : Tx} (r : Rc W a t) : a ∈ sufs W := by
  obtain ⟨⟨w, hw, n, rfl⟩, _⟩ := r.key ok
  exact sufs_drop hw (ok.le _ hw) n

structure Good (W : List Tx) (l : List (Tx × Tx)) : Prop where
  nd : (l.map Prod.fst).Nodup
  rc : ∀ k t, look k l = some t → Rc W k t
  ln : ∀ k t, look k l = some t → t.length ≤ 10 * l.length

theorem nodup_leT : ∀ {l m : List Tx}, l.Nodup → (∀ a ∈ l, a ∈ m) → l.length ≤ m.length
  | [], _, _, _ => Nat.zero_le _
  | a :: l, m, hn, hm => by
    rw [List.nodup_cons] at hn
    have ha := hm a List.mem_cons_self
    have := nodup_leT (l := l) (m := m.erase a) hn.2 fun b hb => by
      refine (List.mem_erase_of_ne ?_).2 (hm b (List.mem_cons_of_mem _ hb))
      rintro rfl
      exact hn.1 hb
    rw [List.length_erase_of_mem ha] at this
    have := List.length_pos_of_mem ha
    rw [List.length_cons]; omega

theorem Good.few {W : List Tx} (ok : Ok W) {l : List (Tx × Tx)} (g : Good W l) : l.length ≤ 132 := by
  have h := nodup_leT g.nd (m := sufs W) fun k hk => by
    obtain ⟨t, ht⟩ := mem_look hk
    exact (g.rc k t ht).suf ok
  rw [List.length_map, sufs_len] at h
  have := ok.few
  omega

theorem Good.nil (W : List Tx) : Good W [] := ⟨List.nodup_nil, fun _ _ h => by simp [look] at h, fun _ _ h => by simp [look] at h⟩

def Dn (l l' : List (Tx × Tx)) : Prop := ∀ k t, look k l = some t → ∃ t', look k l' = some t' ∧ rk t' ≤ rk t
theorem Dn.refl (l : List (Tx × Tx)) : Dn l l := fun _ t h => ⟨t, h, Nat.le_refl _⟩
theorem Dn.trans {a b c : List (Tx × Tx)} (x : Dn a b) (y : Dn b c) : Dn a c := fun k t h => by
  obtain ⟨t1, h1, e1⟩ := x k t h
  obtain ⟨t2, h2, e2⟩ := y k t1 h1
  exact ⟨t2, h2, Nat.le_trans e2 e1⟩
theorem Dn.put {k t : Tx} {l : List (Tx × Tx)} (hb : bet k t l = true) : Dn l (put k t l) := fun a u h => by
  rw [look_put]
  by_cases e : a = k
  · rw [if_pos e]
    subst e
    simp only [bet, h, decide_eq_true_eq] at hb
    exact ⟨t, rfl, Nat.le_of_lt hb⟩
  · rw [if_neg e]
    exact ⟨u, h, Nat.le_refl _⟩

/-- What a pass has looked at brings nothing new. -/
def Clo (l : List (Tx × Tx)) (a w : Tx) : Prop := a ≠ [] → ∀ t, look a l = some t →
  (a <+: w → ∃ t', look (w.drop a.length) l = some t' ∧ rk t' ≤ rk (t ++ w.drop a.length)) ∧ (¬ a <+: w → w <+: a → ∃ t', look (a.drop w.length) l = some t' ∧ rk t' ≤ rk t)

def Ini (W : List Tx) (l : List (Tx × Tx)) : Prop := ∀ v ∈ W, ∀ w ∈ W, v ≠ w → v <+: w → ∃ t', look (w.drop v.length) l = some t' ∧ rk t' ≤ rk w
theorem least {W : List Tx} {l : List (Tx × Tx)} (hi : Ini W l) (hc : ∀ a t, look a l = some t → ∀ w ∈ W, Clo l a w) {a t : Tx} (r : Rc W a t) : ∃ t', look a l = some t' ∧ rk t' ≤ rk t := by
  induction r with
  | init hv hw h1 h2 => exact hi _ hv _ hw h1 h2
  | fwd _ hn hw hp ih =>
    obtain ⟨t', e1, e2⟩ := ih
    obtain ⟨u, f1, f2⟩ := (hc _ _ e1 _ hw hn _ e1).1 hp
    exact ⟨u, f1, Nat.le_trans f2 (rk_app_le e2 _)⟩
  | @bwd a t w _ hn hw hp ih =>
    obtain ⟨t', e1, e2⟩ := ih
    by_cases hq : a <+: w
    · have : a = w := hq.eq_of_length (Nat.le_antisymm hq.length_le hp.length_le)
      subst this
      obtain ⟨u, f1, f2⟩ := (hc _ _ e1 _ hw hn _ e1).1 hq
      rw [List.drop_length] at f1 f2 ⊢
      rw [List.append_nil] at f2
      exact ⟨u, f1, Nat.le_trans f2 e2⟩
    · obtain ⟨u, f1, f2⟩ := (hc _ _ e1 _ hw hn _ e1).2 hq hp
      exact ⟨u, f1, Nat.le_trans f2 e2⟩

end Go.Proofs.YthplaillblmgfaaGreatDoor


namespace Go.Proofs.YthplaillblmgfaaGreatDoor
open Go.Sim
variable (P : Program) (K : VK)
/-! F9: pommel/mark.Clear -/
noncomputable def c9z29 : ICode := .ops none [⟨(some 47), .p (.pick (.tmp 43) (.tmp 46) (.const (.bool false)))⟩]
noncomputable def c9z27 : ICode := .seq (.ops (some (43, true)) [⟨(some 44), .p (.mv (.tmp 10))⟩,
 ⟨(some 45), .p (.mv (.tmp 8))⟩,
 ⟨(some 46), .call 43 [(.tmp 44), (.tmp 45)]⟩])
 (.cut [0, 5, 6, 7, 8, 10, 26, 27, 28, 33, 34, 35, 43, 46] c9z29)
noncomputable def c9z25 : ICode := .cond (.tmp 47) (.ops none [⟨(some 48), .p (.mv (.tmp 6))⟩,
 ⟨(some 49), .p (.mv (.tmp 10))⟩,
 ⟨(some 50), .p (.mv (.tmp 8))⟩,
 ⟨(some 51), .p (.lenS (.tmp 50))⟩,
 ⟨(some 52), .p (.slS (.tmp 49) (some (.tmp 51)) none)⟩,
 ⟨(some 53), .p (.mv (.tmp 10))⟩,
 ⟨(some 54), .callv (.tmp 48) [(.tmp 52), (.tmp 53)]⟩])
 (.skip)
noncomputable def c9z30 : ICode := .ops none [⟨(some 55), .p (.bin .add (.tmp 35) (.const (.int .i64 (1))))⟩,
 ⟨(some 35), .p (.mv (.tmp 55))⟩]
noncomputable def c9z22 : ICode := .cut [0, 5, 6, 7, 8, 26, 27, 28, 33, 34, 35] c9z30
noncomputable def c9z19 : ICode := .seq (.ops none [⟨(some 36), .p (.bin .lss (.tmp 35) (.tmp 34))⟩])
 (.seq (.cond (.tmp 36) (.skip)
 (.exit 2))
 (.seq (.block 3 (.seq (.ops none [⟨(some 37), .p (.mv (.tmp 35))⟩,
 ⟨(some 38), .p (.adrSl 1 (.tmp 33) (.tmp 35))⟩,
 ⟨(some 39), .l (.load false 1 (.tmp 38))⟩,
 ⟨(some 9), .p (.mv (.tmp 37))⟩,
 ⟨(some 10), .p (.mv (.tmp 39))⟩])
 (.seq (.seq (.ops none [⟨(some 40), .p (.mv (.tmp 7))⟩,
 ⟨(some 41), .p (.mv (.tmp 9))⟩,
 ⟨(some 42), .p (.bin .neq (.tmp 40) (.tmp 41))⟩,
 ⟨(some 43), .p (.mv (.tmp 42))⟩])
 (.cut [0, 5, 6, 7, 8, 10, 26, 27, 28, 33, 34, 35, 43] c9z27)) c9z25))) c9z22))
noncomputable def c9z31 : ICode := .ops none [⟨(some 56), .p (.bin .add (.tmp 28) (.const (.int .i64 (1))))⟩,
 ⟨(some 28), .p (.mv (.tmp 56))⟩]
noncomputable def c9z14 : ICode := .cut [0, 5, 6, 26, 27, 28] c9z31
noncomputable def c9z11 : ICode := .seq (.ops none [⟨(some 29), .p (.bin .lss (.tmp 28) (.tmp 27))⟩])
 (.seq (.cond (.tmp 29) (.skip)
 (.exit 0))
 (.seq (.block 1 (.seq (.ops none [⟨(some 30), .p (.mv (.tmp 28))⟩,
 ⟨(some 31), .p (.adrSl 1 (.tmp 26) (.tmp 28))⟩,
 ⟨(some 32), .l (.load false 1 (.tmp 31))⟩,
 ⟨(some 7), .p (.mv (.tmp 30))⟩,
 ⟨(some 8), .p (.mv (.tmp 32))⟩])
 (.seq (.ops none [⟨(some 33), .p (.mv (.tmp 0))⟩,
 ⟨(some 34), .p (.lenSl (.tmp 33))⟩,
 ⟨(some 35), .p (.mv (.const (.int .i64 (0))))⟩])
 (.block 2 (.loop [0, 5, 6, 7, 8, 26, 27, 28, 33, 34] [35] c9z19))))) c9z14))
noncomputable def c9z64 : ICode := .ops none [⟨(some 93), .p (.pick (.tmp 91) (.const (.bool true)) (.tmp 92))⟩,
 ⟨(some 11), .p (.mv (.tmp 93))⟩]
noncomputable def c9z62 : ICode := .seq (.ops (some (91, false)) [⟨(some 92), .p (.mv (.tmp 11))⟩])
 (.cut [0, 5, 6, 13, 59, 60, 61, 65, 66, 67, 91, 92] c9z64)
noncomputable def c9z66 : ICode := .ops none [⟨(some 110), .p (.bin .add (.tmp 67) (.const (.int .i64 (1))))⟩,
 ⟨(some 67), .p (.mv (.tmp 110))⟩]
noncomputable def c9z54 : ICode := .cut [0, 5, 6, 11, 13, 59, 60, 61, 65, 66, 67] c9z66
noncomputable def c9z51 : ICode := .seq (.ops none [⟨(some 68), .p (.bin .lss (.tmp 67) (.tmp 66))⟩])
 (.seq (.cond (.tmp 68) (.skip)
 (.exit 8))
 (.seq (.block 9 (.seq (.ops none [⟨(some 69), .p (.adrSl 1 (.tmp 65) (.tmp 67))⟩,
 ⟨(some 70), .l (.load false 1 (.tmp 69))⟩,
 ⟨(some 15), .p (.mv (.tmp 70))⟩])
 (.block 10 (.seq (.ops none [⟨(some 72), .p (.mv (.tmp 13))⟩,
 ⟨(some 73), .p (.bin .eql (.tmp 72) (.const (.string ⟨#[]⟩)))⟩,
 ⟨(some 71), .p (.mv (.tmp 73))⟩])
 (.cond (.tmp 71) (.skip)
 (.seq (.ops none [⟨(some 75), .p (.mv (.tmp 15))⟩,
 ⟨(some 76), .p (.mv (.tmp 13))⟩,
 ⟨(some 77), .call 43 [(.tmp 75), (.tmp 76)]⟩,
 ⟨(some 74), .p (.mv (.tmp 77))⟩])
 (.cond (.tmp 74) (.seq (.ops none [⟨(some 78), .p (.mv (.tmp 15))⟩,
 ⟨(some 79), .p (.mv (.tmp 13))⟩,
 ⟨(some 80), .p (.lenS (.tmp 79))⟩,
 ⟨(some 81), .p (.slS (.tmp 78) (some (.tmp 80)) none)⟩,
 ⟨(some 16), .p (.mv (.tmp 81))⟩])
 (.seq (.ops none [⟨(some 82), .p (.mv (.tmp 6))⟩,
 ⟨(some 83), .p (.mv (.tmp 16))⟩,
 ⟨(some 84), .l (.load false 1 (.tmp 5))⟩,
 ⟨(some 85), .p (.mv (.tmp 13))⟩,
 ⟨(some 86), .l (.lookupG .str false (.string ⟨#[]⟩) (.tmp 84) (.tmp 85))⟩,
 ⟨(some 87), .p (.mv (.tmp 16))⟩,
 ⟨(some 88), .e (.mkSl 9 2 [(.string ⟨#[]⟩)] [(0, 1, (.tmp 86)), (1, 1, (.tmp 87))])⟩,
 ⟨(some 89), .call 45 [(.tmp 88)]⟩,
 ⟨(some 90), .callv (.tmp 82) [(.tmp 83), (.tmp 89)]⟩,
 ⟨(some 91), .p (.mv (.tmp 90))⟩])
 (.cut [0, 5, 6, 11, 13, 59, 60, 61, 65, 66, 67, 91] c9z62)))
 (.seq (.ops none [⟨(some 95), .p (.mv (.tmp 13))⟩,
 ⟨(some 96), .p (.mv (.tmp 15))⟩,
 ⟨(some 97), .call 43 [(.tmp 95), (.tmp 96)]⟩,
 ⟨(some 94), .p (.mv (.tmp 97))⟩])
 (.cond (.tmp 94) (.dops [(none, [⟨(some 98), .p (.mv (.tmp 6)), 0⟩,
 ⟨(some 99), .p (.mv (.tmp 13)), 0⟩,
 ⟨(some 100), .p (.mv (.tmp 15)), 0⟩,
 ⟨(some 101), .p (.lenS (.tmp 100)), 4⟩,
 ⟨(some 102), .p (.slS (.tmp 99) (some (.tmp 101)) none), 14⟩,
 ⟨(some 103), .l (.load false 1 (.tmp 5)), 0⟩,
 ⟨(some 104), .p (.mv (.tmp 13)), 0⟩,
 ⟨(some 105), .l (.lookupG .str false (.string ⟨#[]⟩) (.tmp 103) (.tmp 104)), 96⟩,
 ⟨(some 106), .callv (.tmp 98) [(.tmp 102), (.tmp 105)], 255⟩,
 ⟨(some 107), .p (.mv (.tmp 106)), 511⟩]),
 ((some (107, false)), [⟨(some 108), .p (.mv (.tmp 11)), 1023⟩]),
 (none, [⟨(some 109), .p (.pick (.tmp 107) (.const (.bool true)) (.tmp 108)), 2047⟩,
 ⟨(some 11), .p (.mv (.tmp 109)), 4095⟩])])
 (.skip)))))))))) c9z54))
noncomputable def c9z67 : ICode := .ops none [⟨(some 111), .p (.bin .add (.tmp 61) (.const (.int .i64 (1))))⟩,
 ⟨(some 61), .p (.mv (.tmp 111))⟩]
noncomputable def c9z46 : ICode := .cut [0, 5, 6, 11, 59, 60, 61] c9z67
noncomputable def c9z43 : ICode := .seq (.ops none [⟨(some 62), .p (.bin .lss (.tmp 61) (.tmp 60))⟩])
 (.seq (.cond (.tmp 62) (.skip)
 (.exit 6))
 (.seq (.block 7 (.seq (.ops none [⟨(some 63), .p (.adrSl 1 (.tmp 59) (.tmp 61))⟩,
 ⟨(some 64), .l (.load false 1 (.tmp 63))⟩,
 ⟨(some 13), .p (.mv (.tmp 64))⟩])
 (.seq (.ops none [⟨(some 65), .p (.mv (.tmp 0))⟩,
 ⟨(some 66), .p (.lenSl (.tmp 65))⟩,
 ⟨(some 67), .p (.mv (.const (.int .i64 (0))))⟩])
 (.block 8 (.loop [0, 5, 6, 13, 59, 60, 61, 65, 66] [11, 67] c9z51))))) c9z46))
noncomputable def c9z36 : ICode := .seq (.seq (.ops none [⟨(some 57), .p (.mv (.tmp 11))⟩])
 (.cond (.tmp 57) (.skip)
 (.exit 4)))
 (.block 5 (.seq (.ops none [⟨(some 11), .p (.mv (.const (.bool false)))⟩])
 (.seq (.ops none [⟨(some 58), .l (.load false 1 (.tmp 5))⟩,
 ⟨(some 59), .call 44 [(.tmp 58)]⟩,
 ⟨(some 60), .p (.lenSl (.tmp 59))⟩,
 ⟨(some 61), .p (.mv (.const (.int .i64 (0))))⟩])
 (.block 6 (.loop [0, 5, 6, 59, 60] [11, 61] c9z43)))))
noncomputable def c9z68 : ICode := .seq (.ops none [⟨(some 113), .l (.load false 1 (.tmp 5))⟩,
 ⟨(some 114), .l (.lookupG .str true (.string ⟨#[]⟩) (.tmp 113) (.const (.string ⟨#[]⟩)))⟩,
 ⟨(some 112), .p (.mv (.tmp 114))⟩,
 ⟨(some 115), .p (.ext (.tmp 112) 0)⟩,
 ⟨(some 116), .p (.ext (.tmp 112) 1)⟩,
 ⟨(some 17), .p (.mv (.tmp 115))⟩,
 ⟨(some 18), .p (.mv (.tmp 116))⟩])
 (.seq (.seq (.ops none [⟨(some 117), .p (.mv (.tmp 18))⟩,
 ⟨(some 118), .p (.un .not (.tmp 117))⟩])
 (.cond (.tmp 118) (.seq (.ops none [⟨(some 2), .p (.mv (.const (.string ⟨#[]⟩)))⟩,
 ⟨(some 3), .p (.mv (.const (.int .i64 (5))))⟩])
 (.ret))
 (.skip)))
 (.seq (.ops none [⟨(some 119), .p (.mv (.tmp 17))⟩,
 ⟨(some 2), .p (.mv (.tmp 119))⟩,
 ⟨(some 3), .p (.mv (.const (.int .i64 (0))))⟩])
 (.ret)))
noncomputable def c9z33 : ICode := .cut [5] c9z68
noncomputable def c9z32 : ICode := .seq (.seq (.ops none [⟨(some 11), .p (.mv (.const (.bool true)))⟩])
 (.block 4 (.loop [0, 5, 6] [11] c9z36))) c9z33
noncomputable def c9z8 : ICode := .cut [0, 5, 6] c9z32
noncomputable def c9 : ICode := .seq (.ops none [⟨(some 2), .p (.mv (.const (.string ⟨#[]⟩)))⟩,
 ⟨(some 3), .p (.mv (.const (.int .i64 (0))))⟩])
 (.seq (.seq (.ops none [⟨(some 19), .p (.mv (.tmp 0))⟩,
 ⟨(some 20), .call 40 [(.tmp 19), (.const (.string ⟨#[]⟩))]⟩,
 ⟨(some 4), .p (.mv (.tmp 20))⟩])
 (.seq (.ops none [⟨(some 21), .p (.mv (.tmp 4))⟩,
 ⟨(some 22), .p (.bin .neq (.tmp 21) (.const (.int .i64 (0))))⟩])
 (.cond (.tmp 22) (.seq (.ops none [⟨(some 23), .p (.mv (.tmp 4))⟩,
 ⟨(some 2), .p (.mv (.const (.string ⟨#[]⟩)))⟩,
 ⟨(some 3), .p (.mv (.tmp 23))⟩])
 (.ret))
 (.skip))))
 (.seq (.ops none [⟨(some 24), .e (.mkMapG .str)⟩,
 ⟨(some 5), .e (.alloc 74 [(.map none)])⟩,
 ⟨none, .e (.store 1 (.tmp 5) (.tmp 24))⟩])
 (.seq (.ops none [⟨(some 25), .p (.fn 41 [] [(.tmp 5)])⟩,
 ⟨(some 6), .p (.mv (.tmp 25))⟩])
 (.seq (.seq (.ops none [⟨(some 26), .p (.mv (.tmp 0))⟩,
 ⟨(some 27), .p (.lenSl (.tmp 26))⟩,
 ⟨(some 28), .p (.mv (.const (.int .i64 (0))))⟩])
 (.block 0 (.loop [0, 5, 6, 26, 27] [28] c9z11))) c9z8))))
def K9z0 (_P : Program) (K : VK) : Kont := bodyP [.tmp 2, .tmp 3] K
def K9z8 : Kont := thenK (iwpP P c9z8 (K9z0 P K)) (K9z0 P K)
def K9z10 : Kont := inBlockK 0 (K9z8 P K)
def K9z11 (words0 texts5 reach6 x26 x27 : Value) (L1 : LK) : Kont := thenK (fun f' h'' => (([0, 5, 6, 26, 27] : List Nat).map f' : List Value) = [words0, texts5, reach6, x26, x27] ∧ L1 (([28] : List Nat).map f') h'') (K9z10 P K)
def p9z11 (words0 texts5 reach6 x26 x27 : Value) (L1 : LK) (xs : List Value) (h : Heap) : Prop := CutP (iwpP P c9z11 (K9z11 P K words0 texts5 reach6 x26 x27 L1)) ([0, 5, 6, 26, 27] ++ [28]) ([words0, texts5, reach6, x26, x27] ++ xs) h
def T9 (words0 : Value) (h : Heap) : Prop :=
 CallP P 40 [words0, (.string ⟨#[]⟩)] h fun x20 h_1 =>
 OP (iBin .neq x20 (.int .i64 (0))) fun x22 =>
 IfP x22
 (K (.tuple #[(.string ⟨#[]⟩), x20]) h_1)
 (OH (iMkMapG .str h_1) fun x24 h_2 =>
 OH (iAlloc 74 [(.map none)] h_2) fun texts5 h_3 =>
 OH (oStore 1 h_3 texts5 x24) fun _ h_4 =>
 OP (iLenSl words0) fun x27 =>
 LoopP [(.int .i64 (0))] h_4 fun L1 xs hx =>
 p9z11 P K words0 texts5 (.func (.func 41) #[] #[texts5]) words0 x27 L1 xs hx)
theorem e9 (words0 : Value) (h : Heap) : iwpP P c9 (bodyP [.tmp 2, .tmp 3] K) (frame0 [words0]) h = T9 P K words0 h := by kernel_rfl
end Go.Proofs.YthplaillblmgfaaGreatDoor

namespace Go.Proofs.YthplaillblmgfaaGreatDoor
open Go.Sim

/-- The map in memory. -/
structure St (h : Heap) (im ic : Nat) (l : List (Tx × Tx)) (g : Heap) : Prop where
  ex : EX h g
  hm : g[im]? = some (.gmap .str l.length (tmap l))
  hc : g[ic]? = some (.arr 74 [.map (some im)])

theorem St.push {h : Heap} {im ic : Nat} {l : List (Tx × Tx)} {g g' : Heap} (s : St h im ic l g) (x : EX g g') : St h im ic l g' := ⟨s.ex.trans x, x.get s.hm, x.get s.hc⟩

end Go.Proofs.YthplaillblmgfaaGreatDoor


namespace Go.Proofs.YthplaillblmgfaaGreatDoor
open Go.Sim

theorem mk2 (g : Heap) (a b : Tx) : iMkSl 9 2 [(.string ⟨#[]⟩)] g [(0, 1, S a), (1, 1, S b)] = some (sl 9 g.length 0 2, g ++ [.arr 9 [S a, S b]]) := by
  have va : vcells (S a) = [S a] := rfl
  have vb : vcells (S b) = [S b] := rfl
  have na : noTuple (S a) = true := rfl
  have nb : noTuple (S b) = true := rfl
  simp [iMkSl, fillL, zrep, setAt, va, vb, na, nb]

section
variable {W : List Tx} (ok : Ok W) {h : Heap} {v kv : Value} {im ic : Nat} {K : Value → Heap → Prop}
include ok

end

end Go.Proofs.YthplaillblmgfaaGreatDoor


namespace Go.Proofs.YthplaillblmgfaaGreatDoor
open Go.Sim
variable (P : Program) (K : VK)
/-! F8: pommel/pommellaw08.made -/
noncomputable def c8z12 : ICode := .ops none [⟨(some 18), .p (.pick (.tmp 14) (.tmp 17) (.const (.bool false)))⟩]
noncomputable def c8z10 : ICode := .seq (.ops (some (14, true)) [⟨(some 15), .p (.mv (.tmp 3))⟩,
 ⟨(some 16), .p (.lenSl (.tmp 15))⟩,
 ⟨(some 17), .p (.bin .lss (.tmp 16) (.const (.int .i64 (12))))⟩])
 (.cut [0, 3, 4, 14, 17] c8z12)
noncomputable def c8z8 : ICode := .cond (.tmp 18) (.skip)
 (.exit 0)
noncomputable def c8z18 : ICode := .seq (.seq (.ops none [⟨(some 28), .p (.mv (.tmp 5))⟩,
 ⟨(some 29), .p (.bin .gtr (.tmp 28) (.const (.int .i64 (1))))⟩])
 (.cond (.tmp 29) (.skip)
 (.exit 2)))
 (.seq (.block 3 (.ops none [⟨(some 32), .p (.mv (.tmp 5))⟩,
 ⟨(some 33), .p (.bin .rem (.tmp 32) (.const (.int .i64 (2))))⟩,
 ⟨(some 34), .p (.mv (.tmp 5))⟩,
 ⟨(some 35), .p (.bin .rem (.tmp 34) (.const (.int .i64 (2))))⟩,
 ⟨(some 36), .p (.bin .add (.tmp 35) (.const (.int .i64 (1))))⟩,
 ⟨(some 37), .p (.slS (.const (.string ⟨#[48, 49]⟩)) (some (.tmp 33)) (some (.tmp 36)))⟩,
 ⟨(some 38), .p (.mv (.tmp 6))⟩,
 ⟨(some 39), .p (.bin .add (.tmp 37) (.tmp 38))⟩,
 ⟨(some 6), .p (.mv (.tmp 39))⟩]))
 (.ops none [⟨(some 30), .p (.mv (.tmp 5))⟩,
 ⟨(some 31), .p (.bin .quo (.tmp 30) (.const (.int .i64 (2))))⟩,
 ⟨(some 5), .p (.mv (.tmp 31))⟩]))
noncomputable def c8z36 : ICode := .ops none [⟨(some 54), .p (.pick (.tmp 47) (.const (.bool true)) (.tmp 53))⟩,
 ⟨(some 7), .p (.mv (.tmp 54))⟩]
noncomputable def c8z34 : ICode := .seq (.ops (some (47, false)) [⟨(some 48), .p (.mv (.tmp 3))⟩,
 ⟨(some 49), .p (.mv (.tmp 8))⟩,
 ⟨(some 50), .p (.adrSl 1 (.tmp 48) (.tmp 49))⟩,
 ⟨(some 51), .l (.load false 1 (.tmp 50))⟩,
 ⟨(some 52), .p (.mv (.tmp 6))⟩,
 ⟨(some 53), .p (.bin .eql (.tmp 51) (.tmp 52))⟩])
 (.cut [0, 3, 4, 6, 8, 47, 53] c8z36)
noncomputable def c8z31 : ICode := .ops none [⟨(some 44), .p (.mv (.tmp 8))⟩,
 ⟨(some 45), .p (.bin .add (.tmp 44) (.const (.int .i64 (1))))⟩,
 ⟨(some 8), .p (.mv (.tmp 45))⟩]
noncomputable def c8z28 : ICode := .seq (.seq (.ops none [⟨(some 40), .p (.mv (.tmp 8))⟩,
 ⟨(some 41), .p (.mv (.tmp 3))⟩,
 ⟨(some 42), .p (.lenSl (.tmp 41))⟩,
 ⟨(some 43), .p (.bin .lss (.tmp 40) (.tmp 42))⟩])
 (.cond (.tmp 43) (.skip)
 (.exit 4)))
 (.seq (.block 5 (.seq (.ops none [⟨(some 46), .p (.mv (.tmp 7))⟩,
 ⟨(some 47), .p (.mv (.tmp 46))⟩])
 (.cut [0, 3, 4, 6, 8, 47] c8z34))) c8z31)
noncomputable def c8z37 : ICode := .seq (.ops none [⟨(some 55), .p (.mv (.tmp 7))⟩,
 ⟨(some 56), .p (.un .not (.tmp 55))⟩])
 (.cond (.tmp 56) (.ops none [⟨(some 57), .p (.mv (.tmp 3))⟩,
 ⟨(some 58), .p (.mv (.tmp 6))⟩,
 ⟨(some 59), .e (.mkSl 9 1 [(.string ⟨#[]⟩)] [(0, 1, (.tmp 58))])⟩,
 ⟨(some 60), .e (.app 9 1 16 (.tmp 57) (.tmp 59))⟩,
 ⟨(some 3), .p (.mv (.tmp 60))⟩])
 (.skip))
noncomputable def c8z25 : ICode := .cut [0, 3, 4, 6, 7] c8z37
noncomputable def c8z23 : ICode := .seq (.ops none [⟨(some 7), .p (.mv (.const (.bool false)))⟩])
 (.seq (.seq (.ops none [⟨(some 8), .p (.mv (.const (.int .i64 (0))))⟩])
 (.block 4 (.loop [0, 3, 4, 6] [7, 8] c8z28))) c8z25)
noncomputable def c8z16 : ICode := .cut [0, 3, 4, 6] c8z23
noncomputable def c8z39 : ICode := .ops none [⟨(some 19), .p (.mv (.tmp 4))⟩,
 ⟨(some 20), .p (.bin .add (.tmp 19) (.const (.int .i64 (1))))⟩,
 ⟨(some 4), .p (.mv (.tmp 20))⟩]
noncomputable def c8z13 : ICode := .cut [0, 3, 4] c8z39
noncomputable def c8z7 : ICode := .seq (.block 1 (.seq (.ops none [⟨(some 21), .p (.mv (.tmp 0))⟩,
 ⟨(some 22), .p (.mv (.tmp 4))⟩,
 ⟨(some 23), .p (.adrSl 1 (.tmp 21) (.tmp 22))⟩,
 ⟨(some 24), .l (.load false 1 (.tmp 23))⟩,
 ⟨(some 25), .p (.conv .i64 (.tmp 24))⟩,
 ⟨(some 26), .p (.bin .rem (.tmp 25) (.const (.int .i64 (2046))))⟩,
 ⟨(some 27), .p (.bin .add (.tmp 26) (.const (.int .i64 (2))))⟩,
 ⟨(some 5), .p (.mv (.tmp 27))⟩,
 ⟨(some 6), .p (.mv (.const (.string ⟨#[]⟩)))⟩])
 (.seq (.block 2 (.loop [0, 3, 4] [5, 6] c8z18)) c8z16))) c8z13
noncomputable def c8z6 : ICode := .seq (.seq (.seq (.ops none [⟨(some 10), .p (.mv (.tmp 4))⟩,
 ⟨(some 11), .p (.mv (.tmp 0))⟩,
 ⟨(some 12), .p (.lenSl (.tmp 11))⟩,
 ⟨(some 13), .p (.bin .lss (.tmp 10) (.tmp 12))⟩,
 ⟨(some 14), .p (.mv (.tmp 13))⟩])
 (.cut [0, 3, 4, 14] c8z10)) c8z8) c8z7
noncomputable def c8z43 : ICode := .seq (.ops none [⟨(some 67), .p (.mv (.tmp 3))⟩,
 ⟨(some 2), .p (.mv (.tmp 67))⟩])
 (.ret)
noncomputable def c8z40 : ICode := .seq (.seq (.ops none [⟨(some 61), .p (.mv (.tmp 3))⟩,
 ⟨(some 62), .p (.lenSl (.tmp 61))⟩,
 ⟨(some 63), .p (.bin .eql (.tmp 62) (.const (.int .i64 (0))))⟩])
 (.cond (.tmp 63) (.ops none [⟨(some 64), .p (.mv (.tmp 3))⟩,
 ⟨(some 65), .e (.mkSl 9 1 [(.string ⟨#[]⟩)] [(0, 1, (.const (.string ⟨#[48]⟩)))])⟩,
 ⟨(some 66), .e (.app 9 1 16 (.tmp 64) (.tmp 65))⟩,
 ⟨(some 3), .p (.mv (.tmp 66))⟩])
 (.skip)))
 (.cut [3] c8z43)
noncomputable def c8z3 : ICode := .cut [3] c8z40
noncomputable def c8 : ICode := .seq (.ops none [⟨(some 2), .p (.mv (.const (.slice none 0 0)))⟩])
 (.seq (.ops none [⟨(some 9), .e (.mkSl 9 0 [(.string ⟨#[]⟩)] [])⟩,
 ⟨(some 3), .p (.mv (.tmp 9))⟩])
 (.seq (.seq (.ops none [⟨(some 4), .p (.mv (.const (.int .i64 (0))))⟩])
 (.block 0 (.loop [0] [3, 4] c8z6))) c8z3))
theorem k8 : compFn Tryz.prog 8 [[], [], [], [0], [3, 4], [0, 3, 4, 14], [0, 3, 4, 14, 17], [], [], [], [0, 3, 4], [5, 6], [], [], [], [0, 3, 4, 6], [], [], [0, 3, 4, 6], [7, 8], [], [], [0, 3, 4, 6, 8, 47], [0, 3, 4, 6, 8, 47, 53], [], [0, 3, 4, 6, 7], [], [0, 3, 4], [3], [], [3], []] = some (68, c8, [.tmp 2]) := by kernel_rfl
def K8z0 (_P : Program) (K : VK) : Kont := bodyP [.tmp 2] K
def K8z3 : Kont := thenK (iwpP P c8z3 (K8z0 P K)) (K8z0 P K)
def K8z5 : Kont := inBlockK 0 (K8z3 P K)
def K8z6 (x0 : Value) (L1 : LK) : Kont := thenK (fun f' h'' => (([0] : List Nat).map f' : List Value) = [x0] ∧ L1 (([3, 4] : List Nat).map f') h'') (K8z5 P K)
def p8z6 (x0 : Value) (L1 : LK) (xs : List Value) (h : Heap) : Prop := CutP (iwpP P c8z6 (K8z6 P K x0 L1)) ([0] ++ [3, 4]) ([x0] ++ xs) h
def T8 (x0 : Value) (h : Heap) : Prop :=
 OH (iMkSl 9 0 [(.string ⟨#[]⟩)] h []) fun x9 h_1 =>
 LoopP [x9, (.int .i64 (0))] h_1 fun L1 xs hx =>
 p8z6 P K x0 L1 xs hx
theorem e8 (x0 : Value) (h : Heap) : iwpP P c8 (bodyP [.tmp 2] K) (frame0 [x0]) h = T8 P K x0 h := by kernel_rfl
/-! F28: pommel/pommellaw08.lengths -/
/-! F30: pommel/pommelref08.Code -/
/-! F31: pommel/mark.IsPlain -/
/-! F61: pommel/pommelref08.bits -/
/-! F63: pommel/pommelref08.begins -/
end Go.Proofs.YthplaillblmgfaaGreatDoor

namespace Go.Proofs.YthplaillblmgfaaGreatDoor
open Go.Sim

theorem mkW0 (h : Heap) : iMkSl 9 0 [(.string ⟨#[]⟩)] h [] = some (sl 9 h.length 0 0, h ++ [.arr 9 []]) := rfl

structure Ok' (W : List Tx) : Prop where
  nd : W.Nodup
  all : ∀ w ∈ W, w ≠ [] ∧ w.length ≤ 10 ∧ bitsB w = true

end Go.Proofs.YthplaillblmgfaaGreatDoor


namespace Go.Proofs.YthplaillblmgfaaGreatDoor
open Go.Sim

def NoBeg (W : List Tx) : Prop := ∀ i j (hi : i < W.length) (hj : j < W.length), i ≠ j → ¬ W[i] <+: W[j]
structure Fst (W : List Tx) (i j : Nat) : Prop where
  hi : i < W.length
  hj : j < W.length
  ne : i ≠ j
  pre : W[i] <+: W[j]
  fst : ∀ i' j' (hi' : i' < W.length) (hj' : j' < W.length), i' ≠ j' → W[i'] <+: W[j'] → i < i' ∨ i = i' ∧ j ≤ j'

theorem Fst.no {W : List Tx} {i j : Nat} (a : Fst W i j) (n : NoBeg W) : False := n i j a.hi a.hj a.ne a.pre

end Go.Proofs.YthplaillblmgfaaGreatDoor


namespace Go.Proofs.YthplaillblmgfaaGreatDoor
open Go.Sim

theorem lenE_num (l : List Int) : numE l 1 1 10 = lenE l := by
  unfold numE lenE
  by_cases h1 : 12 < l.length
  · rw [if_pos h1, if_pos h1]
  · rw [if_neg h1, if_neg h1]
    by_cases h2 : (∀ x ∈ l, 1 ≤ x ∧ x ≤ 10) ∧ (1 : Int) ≤ l.length
    · rw [if_pos h2, if_neg]
      rintro (h | h)
      · omega
      · exact h h2.1
    · rw [if_neg h2, if_pos]
      by_cases h3 : l.length = 0
      · exact .inl h3
      · exact .inr fun h => h2 ⟨h, by omega⟩

theorem lenE_nat {l : List Int} (h : lenE l = 0) : ∃ ls : List Nat, l = ls.map (fun n : Nat => (n : Int)) ∧ lenOk ls ∧ 0 < ls.length ∧ ls.length ≤ 12 := by
  unfold lenE at h
  split at h
  · cases h
  · rename_i h1
    split at h
    · cases h
    · rename_i h2
      have h3 : l.length ≠ 0 := fun e => h2 (.inl e)
      have h4 : ∀ x ∈ l, 1 ≤ x ∧ x ≤ 10 := Classical.byContradiction fun hc => h2 (.inr hc)
      refine ⟨l.map Int.toNat, ?_, fun x hx => ?_, by rw [List.length_map]; omega, by rw [List.length_map]; omega⟩
      · rw [List.map_map]
        conv => lhs; rw [← List.map_id l]
        refine List.map_congr_left fun x hx => ?_
        have := h4 x hx
        simp only [id, Function.comp_apply]
        omega
      · obtain ⟨y, hy, rfl⟩ := List.mem_map.1 hx
        have := h4 y hy
        omega

theorem C27e {v : Value} {l : List Int} {h : Heap} {K : Value → Heap → Prop} (hv : NS h v .i64 l) (hl : l.length ≤ 1000) (he : lenE l ≠ 0) (hk : K (.tuple #[S [], I (lenE l)]) h) : CallP Tryz.prog 27 [v] h K := by
  refine f27 (C65 hv hl ?_)
  simp only [bin_neq, OP_some, decide_eq_false he, Bool.not_false, IfP_true]
  exact hk
theorem C29e {v : Value} {l : List Int} {h : Heap} {K : Value → Heap → Prop} (hv : NS h v .i64 l) (hl : l.length ≤ 1000) (he : lenE l ≠ 0) (hk : K (.tuple #[.slice none 0 0, I (lenE l)]) h) : CallP Tryz.prog 29 [v] h K := by
  refine f29 (C65 hv hl ?_)
  simp only [bin_neq, OP_some, decide_eq_false he, Bool.not_false, IfP_true]
  exact hk
theorem C33e {v : Value} {l : List Int} {h : Heap} {K : Value → Heap → Prop} (hv : NS h v .i64 l) (hl : l.length ≤ 1000) (he : lenE l ≠ 0) (hk : K (.tuple #[.slice none 0 0, I (lenE l)]) h) : CallP Tryz.prog 33 [v] h K := by
  refine f33 (C65 hv hl ?_)
  simp only [bin_neq, OP_some, decide_eq_false he, Bool.not_false, IfP_true]
  exact hk

theorem endP_sum : ∀ {ls : List Nat} {a : Nat}, lenOk ls → a + (ls.map rmN).sum ≤ endP true a ls
  | [], a, _ => by simp [endP]
  | l :: ls, a, hok => by
    have h1 := hok l (by simp)
    have bd := fitN_bd (a := a) h1.1 h1.2
    have := endP_sum (ls := ls) (a := aft true a l) fun x hx => hok x (by simp [hx])
    have e : aft true a l = fitN a l + rmN l := rfl
    simp only [endP, List.map_cons, List.sum_cons]
    omega

theorem risL_big {ls : List Nat} (hok : lenOk ls) (hs : 1024 < (ls.map rmN).sum) : risL 0 ls = none := by
  have := endP_sum (a := 0) hok
  have h2 := risL_some (a := 0) hok (by omega)
  cases h : risL 0 ls with
  | none => rfl
  | some ws =>
    rw [h] at h2
    have := h2.1 rfl
    omega

/-- The text of what lengths take is what the reference makes of it. -/
theorem krC {s : Nat} (sp : 0 < s) (sb : s ≤ 6144) {h : Heap} {K : Value → Heap → Prop} (hk : ∀ h', EX h h' → K (B true) h') :
    CallP Tryz.prog 36 [I s, (.int .i64 (1024))] h fun x67 h_7 => CallP Tryz.prog 21 [S (krS s), x67] h_7 K := by
  refine C36 (by omega) (by decide) (by decide) ?_
  intro r g x q
  have gp : 0 < Nat.gcd s 1024 := Nat.gcd_pos_of_pos_left _ sp
  have gle : Nat.gcd s 1024 ≤ 1024 := Nat.gcd_le_right _ (by decide)
  have e0 : (1024 : Int).natAbs = 1024 := rfl
  rw [Int.natAbs_natCast, e0] at q
  have d1 : (1024 : Int) / (Nat.gcd s 1024 : Int) = ((1024 / Nat.gcd s 1024 : Nat) : Int) := rfl
  have d2 : (s : Int) / (Nat.gcd s 1024 : Int) = ((s / Nat.gcd s 1024 : Nat) : Int) := rfl
  have p1 : 0 < 1024 / Nat.gcd s 1024 := Nat.div_pos gle gp
  have big : ∀ n : Nat, n < 10000 → n < 10000 ^ 199 := fun n hn => Nat.lt_of_lt_of_le hn (Nat.le_self_pow (by decide) _)
  have l1 : 1024 / Nat.gcd s 1024 ≤ 1024 := Nat.div_le_self _ _
  have l2 : s / Nat.gcd s 1024 ≤ s := Nat.div_le_self _ _
  refine C21q q (by rw [d1]; omega) (by rw [d2, Int.natAbs_natCast]; exact big _ (by omega)) (by rw [d1, Int.natAbs_natCast]; exact big _ (by omega)) ?_
  intro g2 x2
  have cp : Nat.gcd (s / Nat.gcd s 1024) (1024 / Nat.gcd s 1024) = 1 := Nat.coprime_div_gcd_div_gcd gp
  have : (krS s = ratS ((s : Int) / (Nat.gcd s 1024 : Int) / (Nat.gcd ((s : Int) / (Nat.gcd s 1024 : Int)).natAbs ((1024 : Int) / (Nat.gcd s 1024 : Int)).natAbs : Int)) ((1024 : Int) / (Nat.gcd s 1024 : Int) / (Nat.gcd ((s : Int) / (Nat.gcd s 1024 : Int)).natAbs ((1024 : Int) / (Nat.gcd s 1024 : Int)).natAbs : Int))) := by
    rw [d1, d2, Int.natAbs_natCast, Int.natAbs_natCast, cp]
    simp only [Int.natCast_one, Int.ediv_one]
    rfl
  rw [decide_eq_true this]
  exact hk g2 (x.trans x2)

theorem C7 {v : Value} {ns : List Int} {h : Heap} {K : Value → Heap → Prop} (hv : INS h 3 .i64 v ns) (hk : ∀ h', K (B true) h') : CallP Tryz.prog 7 [v] h K := by
  refine f7 (C32 hv ?_)
  intro u h1 x1 hu
  have hl : (ns.take 13).length ≤ 13 := by rw [List.length_take]; omega
  generalize ns.take 13 = l at hu hl
  have l0 : iLenSl (.slice none 0 0) = some (I 0) := rfl
  have a0 : IntKind.wrap .i64 (0 + 0) = 0 := by decide
  have eS : iBin .eql (S []) (.string ⟨#[]⟩) = some (B true) := rfl
  by_cases he : lenE l = 0
  · obtain ⟨ls, rfl, hok, hp, hle⟩ := lenE_nat he
    have sp := sum_pos hok hp
    have sb : (ls.map rmN).sum ≤ 6144 := by have := sum_bd hok; omega
    -- what the three of the program answer
    have main : ∀ (p r : Value) (f7 g9 : Int) (h4 : Heap), EX h1 h4 → (1024 < (ls.map rmN).sum → p = .slice none 0 0 ∧ r = .slice none 0 0 ∧ f7 = 5 ∧ g9 = 5) →
        ((ls.map rmN).sum ≤ 1024 → SS h4 p (plainW ls) ∧ f7 = 0 ∧ (risL 0 ls = none ∧ r = .slice none 0 0 ∧ g9 = 5 ∨ ∃ ws, risL 0 ls = some ws ∧ SS h4 r ws ∧ g9 = 0)) →
        CallP Tryz.prog 35 [u] h4 fun x64 h_6 => CallP Tryz.prog 36 [x64, (.int .i64 (1024))] h_6 fun x67 h_7 => CallP Tryz.prog 21 [S (krS (ls.map rmN).sum), x67] h_7 fun x68 h_8 => OP (iUn .not x68) fun x69 => p7z34 Tryz.prog K u (I 0) p (I f7) r (I g9) x64 x69 h_8 := by
      intro p r f7 g9 h4 x4 hbig hsm
      refine C35 (hu.mono x4) hle hok (krC sp sb ?_)
      intro h5 x5
      simp only [un_not, OP_some, Bool.not_true]
      rw [q7z34]
      simp only [GdP_ff, bin_neq, OP_some, decide_true, Bool.not_true, q7z36, iPick_f, q7z38]
      refine C15 ?_
      simp only [un_not, OP_some, Bool.not_true, q7z40, iPick_f, IfP_false, bin_gtr, IfP_dec]
      refine ⟨fun hb => ?_, fun hb => ?_⟩
      · obtain ⟨rfl, rfl, rfl, rfl⟩ := hbig (by omega)
        simp only [l0, OP_some, bin_add, a0, bin_eql, decide_true, q7z46, GdP_tt, q7z48, iPick_t, q7z50, q7z52]
        exact hk _
      · obtain ⟨sp1, rfl, hr⟩ := hsm (by omega)
        have tail : ∀ (want : Value) (okb : Bool) (g : Heap), (∀ q, q (B true) g → CallP Tryz.prog 38 [r, want] g q) → g9 = (if okb then 0 else 5) → p7z56 Tryz.prog K (I 0) r (I g9) want (B okb) (B true) g := by
          intro want okb g h38 hg
          have b1 : ∀ a : Bool, iEqb false (B a) (B a) = some (B true) := fun a => by cases a <;> rfl
          simp only [q7z56, GdP_tt, bin_eql, decide_true, OP_some, q7z58, iPick_t, q7z60]
          refine h38 _ ?_
          have : decide (g9 = 0) = okb := by rw [hg]; cases okb <;> rfl
          simp only [q7z62, iPick_t, OP_some, q7z64, GdP_tt, bin_eql, this, b1, q7z66, q7z68]
          subst hg
          cases okb with
          | true =>
            simp only [q7z70, GdP_tf, q7z72, GdP_tt, iPick_t, OP_some, q7z74]
            exact hk _
          | false =>
            simp only [q7z70, GdP_ff, Bool.false_eq_true, if_false, bin_eql, decide_true, OP_some, q7z72, GdP_tt, iPick_f, q7z74, iPick_t]
            exact hk _
        have pw : (plainW ls).length ≤ 1000 := by unfold plainW; rw [outW_len]; omega
        refine C37 (hu.mono (x4.trans x5)) hle hok (fun hn h6 x6 => ?_) (fun ws w h6 hs x6 own6 => ?_)
        · simp only [ext_tuple, pair0, pair1, OP_some]
          refine C39 (hu.mono (x4.trans (x5.trans x6))) hle hp hok (by omega) ?_
          intro w7 h7 x7 own7
          refine C38 (sp1.mono (x5.trans (x6.trans x7))) (own_ss own7) pw rfl ?_
          rcases hr with ⟨_, rfl, rfl⟩ | ⟨ws, e, _⟩
          · exact tail _ false h7 (fun q hq => C38 (ls1 := []) (ls2 := []) ⟨rfl, fun k hk => by simp at hk⟩ ⟨rfl, fun k hk => by simp at hk⟩ (by simp) rfl hq) rfl
          · rw [hn] at e; cases e
        · simp only [ext_tuple, pair0, pair1, OP_some]
          refine C39 (hu.mono (x4.trans (x5.trans x6))) hle hp hok (by omega) ?_
          intro w7 h7 x7 own7
          refine C38 (sp1.mono (x5.trans (x6.trans x7))) (own_ss own7) pw rfl ?_
          have wl : ws.length ≤ 1000 := by have := risL_len hs; omega
          rcases hr with ⟨e, _⟩ | ⟨ws', e, s9, rfl⟩
          · rw [hs] at e; cases e
          · rw [hs] at e; cases e
            exact tail _ true h7 (fun q hq => C38 (s9.mono (x5.trans (x6.trans x7))) ((own_ss own6).mono x7) wl rfl hq) rfl
    have num0 : numE (ls.map fun n : Nat => (n : Int)) 1 1 10 = 0 := by rw [lenE_num, he]
    have hle' : (ls.map fun n : Nat => (n : Int)).length ≤ 1000 := by rw [List.length_map]; omega
    refine C27 hu hle hp hok ?_
    intro h2 x2
    simp only [ext_tuple, pair0, pair1, OP_some]
    refine C29 (hu.mono x2) hle hp hok (fun hb h3 x3 => ?_) (fun hb w h3 x3 own3 => ?_)
    · simp only [ext_tuple, pair0, pair1, OP_some]
      refine C33 (hu.mono (x2.trans x3)) hle hp hok (fun hn h4 x4 => ?_) (fun ws w h4 hs _ _ => by rw [risL_big hok hb] at hs; cases hs)
      simp only [ext_tuple, pair0, pair1, OP_some]
      refine C34 (hu.mono (x2.trans (x3.trans x4))) hle' ?_
      simp only [num0, bin_neq, OP_some, decide_true, Bool.not_true, IfP_false]
      exact main _ _ 5 5 h4 (x2.trans (x3.trans x4)) (fun _ => ⟨rfl, rfl, rfl, rfl⟩) fun hc => absurd hb (by omega)
    · simp only [ext_tuple, pair0, pair1, OP_some]
      refine C33 (hu.mono (x2.trans x3)) hle hp hok (fun hn h4 x4 => ?_) (fun ws w4 h4 hs x4 own4 => ?_)
      · simp only [ext_tuple, pair0, pair1, OP_some]
        refine C34 (hu.mono (x2.trans (x3.trans x4))) hle' ?_
        simp only [num0, bin_neq, OP_some, decide_true, Bool.not_true, IfP_false]
        exact main _ _ 0 5 h4 (x2.trans (x3.trans x4)) (fun hc => absurd hb (by omega)) fun _ => ⟨(own_ss own3).mono x4, rfl, .inl ⟨hn, rfl, rfl⟩⟩
      · simp only [ext_tuple, pair0, pair1, OP_some]
        refine C34 (hu.mono (x2.trans (x3.trans x4))) hle' ?_
        simp only [num0, bin_neq, OP_some, decide_true, Bool.not_true, IfP_false]
        exact main _ _ 0 0 h4 (x2.trans (x3.trans x4)) (fun hc => absurd hb (by omega)) fun _ => ⟨(own_ss own3).mono x4, rfl, .inr ⟨ws, hs, own_ss own4, rfl⟩⟩
  · refine C27e hu (by omega) he ?_
    simp only [ext_tuple, pair0, pair1, OP_some]
    refine C29e hu (by omega) he ?_
    simp only [ext_tuple, pair0, pair1, OP_some]
    refine C33e hu (by omega) he ?_
    simp only [ext_tuple, pair0, pair1, OP_some]
    refine C34 hu (by omega) ?_
    rw [lenE_num]
    simp only [bin_neq, OP_some, decide_eq_false he, Bool.not_false, IfP_true, eS, q7z11, GdP_tt, bin_eql, decide_true, q7z13, iPick_t, q7z15, l0, bin_add, a0, q7z17, q7z19, q7z21, q7z23, q7z25, q7z27]
    refine C15 ?_
    rw [q7z29]
    simp only [iPick_t, OP_some]
    exact hk _

end Go.Proofs.YthplaillblmgfaaGreatDoor

