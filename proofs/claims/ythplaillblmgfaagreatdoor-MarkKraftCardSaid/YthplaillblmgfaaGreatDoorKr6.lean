/-
  Part 6 of the texts behind a statement of this seat: HCt31, HCt32, HCt33, HZR1, HCt34, HCt35, HCt36, HCt37, HCt38, HCt39, HCt40, HZR2.
-/
import Derived.Test.YthplaillblmgfaaGreatDoorProg
import Derived.KernelRfl
import Derived.Test.YthplaillblmgfaaGreatDoorKr5
namespace Go.Proofs.YthplaillblmgfaaGreatDoor
open Go.Sim

theorem fin2 {h' : Heap} {j : Nat} {b0 v0 b v : Value} {K : Value → Heap → Prop} (hg : h'[j]? = some (.arr 81 [b0, v0])) (hk : K (.agg #[b, v]) (h'.set j (.arr 81 [b, v]))) :
    OH (oStore 2 h' (pt j 0) (.agg #[b, v])) fun _ h6 => OP (iLoad true 2 h6 (pt j 0)) fun r0 => K r0 h6 := by
  rw [store2 hg]
  simp only [OH_some]
  rw [load2 (set_get hg)]
  exact OP_some.2 hk

structure Box2 (h : Heap) (va vb : Value) (sa sb : Bool) (h3 : Heap) : Prop where
  ex : EX h h3
  a0 : iLoad false 1 h3 (pt h.length 0) = some (B sa)
  a1 : iLoad false 1 h3 (pt h.length 1) = some va
  b0 : iLoad false 1 h3 (pt (h.length + 1) 0) = some (B sb)
  b1 : iLoad false 1 h3 (pt (h.length + 1) 1) = some vb
  a2 : iLoad true 2 h3 (pt h.length 0) = some (.agg #[B sa, va])
  b2 : iLoad true 2 h3 (pt (h.length + 1) 0) = some (.agg #[B sb, vb])
  out : h3[h.length + 2]? = some (.arr 81 [.bool false, .slice none 0 0])

theorem box2 {h : Heap} {va vb : Value} {sa sb : Bool} {K : Value → Value → Value → Heap → Prop} (hk : ∀ h3, Box2 h va vb sa sb h3 → K (pt h.length 0) (pt (h.length + 1) 0) (pt (h.length + 2) 0) h3) :
    OH (iBox 81 h (.agg #[B sa, va])) fun a2 h_1 => OH (iBox 81 h_1 (.agg #[B sb, vb])) fun b3 h_2 => OH (iAlloc 81 [(.bool false), (.slice none 0 0)] h_2) fun x4 h_3 => K a2 b3 x4 h_3 := by
  have e1 : ∀ (g : Heap) (s : Bool) (v : Value), iBox 81 g (.agg #[B s, v]) = some (pt g.length 0, g ++ [.arr 81 [B s, v]]) := fun _ _ _ => rfl
  have e2 : ∀ (g : Heap), iAlloc 81 [(.bool false), (.slice none 0 0)] g = some (pt g.length 0, g ++ [.arr 81 [(.bool false), (.slice none 0 0)]]) := fun _ => rfl
  simp only [e1, e2, OH_some, List.length_append, List.length_cons, List.length_nil]
  have g0 : (h ++ [IObj.arr 81 [B sa, va]] ++ [IObj.arr 81 [B sb, vb]] ++ [IObj.arr 81 [(.bool false), (.slice none 0 0)]])[h.length]? = some (.arr 81 [B sa, va]) := by simp
  have g1 : (h ++ [IObj.arr 81 [B sa, va]] ++ [IObj.arr 81 [B sb, vb]] ++ [IObj.arr 81 [(.bool false), (.slice none 0 0)]])[h.length + 1]? = some (.arr 81 [B sb, vb]) := by simp
  have g2 : (h ++ [IObj.arr 81 [B sa, va]] ++ [IObj.arr 81 [B sb, vb]] ++ [IObj.arr 81 [(.bool false), (.slice none 0 0)]])[h.length + 2]? = some (.arr 81 [(.bool false), (.slice none 0 0)]) := by simp
  refine hk _ ⟨((EX.append _ _).push _).push _, ?_, ?_, ?_, ?_, load2 g0, load2 g1, g2⟩
  · simp [iLoad, objCells, iPart]
  · simp [iLoad, objCells, iPart]
  · simp [iLoad, objCells, iPart]
  · simp [iLoad, objCells, iPart]

theorem C46 {n : Int} {h : Heap} {K : Value → Heap → Prop} (h1 : -9223372036854775808 ≤ n) (h2 : n < 9223372036854775808) (hk : ∀ r h', EX h h' → IntV h' r n → K r h') : CallP Tryz.prog 46 [I n] h K := by
  refine f46 ?_
  have e2 : iAlloc 81 [(.bool false), (.slice none 0 0)] h = some (pt h.length 0, h ++ [.arr 81 [(.bool false), (.slice none 0 0)]]) := rfl
  simp only [T46, e2, OH_some]
  have x1 : EX h (h ++ [IObj.arr 81 [(.bool false), (.slice none 0 0)]]) := EX.append _ _
  have g1 : (h ++ [IObj.arr 81 [(.bool false), (.slice none 0 0)]])[h.length]? = some (.arr 81 [(.bool false), (.slice none 0 0)]) := get_last
  generalize h ++ [IObj.arr 81 [(.bool false), (.slice none 0 0)]] = hA at x1 g1 ⊢
  have go : ∀ u : Nat, u = n.natAbs → p46z5 Tryz.prog K (I n) (pt h.length 0) (.int .u64 (u : Int)) hA := by
    intro u hu
    rw [q46z5]
    have ew : IntKind.wrap .u32 (u : Int) = ((u % 4294967296 : Nat) : Int) := by rw [wrapU32e]; omega
    simp only [bin_lss, OP_some, conv_int, shr32, ew]
    rw [wrapU32 (n := ((u / 4294967296 : Nat) : Int)) (by omega) (by omega)]
    have mk : iMkSl 116 2 [.int .u32 0] hA [(0, 1, .int .u32 ((u % 4294967296 : Nat) : Int)), (1, 1, .int .u32 ((u / 4294967296 : Nat) : Int))] = some (sl 116 hA.length 0 2, hd hA [u % 4294967296, u / 4294967296]) := rfl
    simp only [mk, OH_some]
    have hl : Lim 4294967296 [u % 4294967296, u / 4294967296] := by
      intro x hx
      simp at hx
      rcases hx with rfl | rfl <;> omega
    refine C83 (hd_DS hA [u % 4294967296, u / 4294967296]) hl (by simp) ?_
    intro v hv
    have hval : val 4294967296 [u % 4294967296, u / 4294967296] = n.natAbs := by simp [val]; omega
    rw [hval] at hv
    refine C82 hv ?_
    intro h' x'
    have xx := (hd_EX hA [u % 4294967296, u / 4294967296]).trans x'
    have g' := xx.get g1
    refine fin2 g' (hk _ _ ((x1.trans xx).set (Nat.le_refl _) _) ⟨v, ?_, (hv.mono x').setB g' _⟩)
    have : (decide (n < 0) && decide (0 < n.natAbs)) = decide (n < 0) := by
      by_cases hn : n < 0
      · simp [hn]; omega
      · simp [hn]
    rw [this]
  simp only [conv_int, OP_some, bin_lss, IfP_dec]
  refine ⟨fun hn => ?_, fun hn => ?_⟩
  · have e3 : iUn .neg (.int .u64 (IntKind.wrap .u64 n)) = some (.int .u64 ((n.natAbs : Nat) : Int)) := by
      have e : ∀ m : Int, IntKind.wrap .u64 m = m % 18446744073709551616 := fun m => by simp [IntKind.wrap, IntKind.bits, IntKind.signed]
      simp only [iUn]
      rw [e, e]
      congr 2
      omega
    simp only [e3, OP_some]
    exact go _ rfl
  · have : IntKind.wrap .u64 n = ((n.natAbs : Nat) : Int) := by rw [wrapU64 (by omega) (by omega)]; omega
    rw [this]
    exact go _ rfl

theorem C120 {va : Value} {a : Int} {h : Heap} {K : Value → Heap → Prop} (ha : IntV h va a) (hk : ∀ r h', EX h h' → IntV h' r (-a) → K r h') : CallP Tryz.prog 120 [va] h K := by
  obtain ⟨v, rfl, hv⟩ := ha
  refine f120 ?_
  have e1 : iBox 81 h (.agg #[B (decide (a < 0)), v]) = some (pt h.length 0, h ++ [.arr 81 [B (decide (a < 0)), v]]) := rfl
  simp only [T120, e1, OH_some]
  have l0 : iLoad false 1 (h ++ [.arr 81 [B (decide (a < 0)), v]]) (pt h.length 0) = some (B (decide (a < 0))) := load_last rfl
  have l1 : iLoad false 1 (h ++ [.arr 81 [B (decide (a < 0)), v]]) (pt h.length 1) = some v := load_last rfl
  have x1 : EX h (h ++ [.arr 81 [B (decide (a < 0)), v]]) := EX.append _ _
  generalize h ++ [IObj.arr 81 [B (decide (a < 0)), v]] = h1 at l0 l1 x1 ⊢
  have e2 : iAlloc 81 [(.bool false), (.slice none 0 0)] h1 = some (pt h1.length 0, h1 ++ [.arr 81 [(.bool false), (.slice none 0 0)]]) := rfl
  have x2 : EX h1 (h1 ++ [IObj.arr 81 [(.bool false), (.slice none 0 0)]]) := EX.append _ _
  have g1 : (h1 ++ [IObj.arr 81 [(.bool false), (.slice none 0 0)]])[h1.length]? = some (.arr 81 [(.bool false), (.slice none 0 0)]) := get_last
  simp only [e2, OH_some]
  generalize h1 ++ [IObj.arr 81 [(.bool false), (.slice none 0 0)]] = h2 at x2 g1 ⊢
  simp only [fadr_pt, Nat.add_zero, Nat.zero_add, OP_some, EX.load x2 l0, EX.load x2 l1, un_not]
  have hv2 := hv.mono (x1.trans x2)
  refine C82 hv2 ?_
  intro h' x'
  have g' := x'.get g1
  refine fin2 g' (hk _ _ (((x1.trans x2).trans x').set x1.1 _) ⟨v, ?_, ?_⟩)
  · have : (!decide (a < 0) && decide (0 < a.natAbs)) = decide (-a < 0) := by
      by_cases h0 : a < 0
      · rw [decide_eq_true h0, decide_eq_false (show ¬ -a < 0 by omega)]; rfl
      · by_cases h3 : a = 0
        · subst h3; rfl
        · rw [decide_eq_false h0, decide_eq_true (show 0 < a.natAbs by omega), decide_eq_true (show -a < 0 by omega)]; rfl
    rw [this]
  · have : (-a).natAbs = a.natAbs := by omega
    rw [this]
    exact (hv2.mono x').setB g' _

theorem C48 {va vb : Value} {a b : Int} {h : Heap} {K : Value → Heap → Prop} (ha : IntV h va a) (hb : IntV h vb b) (la : a.natAbs < bigW) (lb : b.natAbs < bigW) (hk : ∀ r h', EX h h' → IntV h' r (a + b) → K r h') : CallP Tryz.prog 48 [va, vb] h K := by
  obtain ⟨v, rfl, hv⟩ := ha
  obtain ⟨w, rfl, hw⟩ := hb
  refine f48 ?_
  unfold T48
  refine box2 ?_
  intro h3 x
  have hv3 := hv.mono x.ex
  have hw3 := hw.mono x.ex
  simp only [fadr_pt, Nat.add_zero, Nat.zero_add, OP_some, x.a0, x.a1, x.b0, x.b1, eqb_bool, Bool.false_eq_true, if_false]
  refine IfP_of (fun he => ?_) fun hne => ?_
  · have hs : decide (a < 0) = decide (b < 0) := by simpa using he
    have hs' : (a < 0 ↔ b < 0) := by simpa using hs
    simp only [true_and]
    refine C85 hv3 hw3 la lb ?_
    intro u h4 x4 hu
    refine ⟨⟨EX.load x4 x.a0, trivial⟩, ?_⟩
    refine C82 hu ?_
    intro h5 x5
    have g' := (x4.trans x5).get x.out
    refine fin2 g' (hk _ _ (((x.ex.trans x4).trans x5).set (by omega) _) ⟨u, ?_, ?_⟩)
    · have : (decide (a < 0) && decide (0 < a.natAbs + b.natAbs)) = decide (a + b < 0) := by
        by_cases h0 : a < 0
        · rw [decide_eq_true h0, decide_eq_true (show 0 < a.natAbs + b.natAbs by omega), decide_eq_true (show a + b < 0 by omega)]; rfl
        · rw [decide_eq_false h0, decide_eq_false (show ¬ a + b < 0 by omega)]; rfl
      rw [this]
    · have : (a + b).natAbs = a.natAbs + b.natAbs := by omega
      rw [this]
      exact (hu.mono x5).setB g' _
  · have hs : decide (a < 0) ≠ decide (b < 0) := by simpa using hne
    have hs' : ¬ (a < 0 ↔ b < 0) := fun h => hs (decide_eq_decide.2 h)
    refine C86 hv3 hw3 la lb ?_
    simp only [bin_geq, OP_some, IfP_dec]
    refine ⟨fun hge => ?_, fun hlt => ?_⟩
    · have hle : b.natAbs ≤ a.natAbs := by
        apply Classical.byContradiction
        intro hc
        unfold sgn at hge
        rw [if_pos (by omega)] at hge
        omega
      simp only [x.a0, x.a1, x.b1, OP_some, true_and]
      refine C87 hv3 hw3 la hle ?_
      intro u h4 x4 hu
      refine ⟨⟨EX.load x4 x.a0, trivial⟩, ?_⟩
      refine C82 hu ?_
      intro h5 x5
      have g' := (x4.trans x5).get x.out
      refine fin2 g' (hk _ _ (((x.ex.trans x4).trans x5).set (by omega) _) ⟨u, ?_, ?_⟩)
      · have : (decide (a < 0) && decide (0 < a.natAbs - b.natAbs)) = decide (a + b < 0) := by
          by_cases h0 : a < 0
          · by_cases h6 : 0 < a.natAbs - b.natAbs
            · rw [decide_eq_true h0, decide_eq_true h6, decide_eq_true (show a + b < 0 by omega)]; rfl
            · rw [decide_eq_true h0, decide_eq_false h6, decide_eq_false (show ¬ a + b < 0 by omega)]; rfl
          · rw [decide_eq_false h0, decide_eq_false (show ¬ a + b < 0 by omega)]; rfl
        rw [this]
      · have : (a + b).natAbs = a.natAbs - b.natAbs := by omega
        rw [this]
        exact (hu.mono x5).setB g' _
    · have hle : a.natAbs ≤ b.natAbs := by
        apply Classical.byContradiction
        intro hc
        unfold sgn at hlt
        rw [if_neg (by omega), if_pos (by omega)] at hlt
        omega
      simp only [x.b0, x.a1, x.b1, OP_some, true_and]
      refine C87 hw3 hv3 lb hle ?_
      intro u h4 x4 hu
      refine ⟨⟨EX.load x4 x.b0, trivial⟩, ?_⟩
      refine C82 hu ?_
      intro h5 x5
      have g' := (x4.trans x5).get x.out
      refine fin2 g' (hk _ _ (((x.ex.trans x4).trans x5).set (by omega) _) ⟨u, ?_, ?_⟩)
      · have : (decide (b < 0) && decide (0 < b.natAbs - a.natAbs)) = decide (a + b < 0) := by
          by_cases h0 : b < 0
          · by_cases h6 : 0 < b.natAbs - a.natAbs
            · rw [decide_eq_true h0, decide_eq_true h6, decide_eq_true (show a + b < 0 by omega)]; rfl
            · rw [decide_eq_true h0, decide_eq_false h6, decide_eq_false (show ¬ a + b < 0 by omega)]; rfl
          · rw [decide_eq_false h0, decide_eq_false (show ¬ a + b < 0 by omega)]; rfl
        rw [this]
      · have : (a + b).natAbs = b.natAbs - a.natAbs := by omega
        rw [this]
        exact (hu.mono x5).setB g' _

theorem C148 {va vb : Value} {a b : Int} {h : Heap} {K : Value → Heap → Prop} (ha : IntV h va a) (hb : IntV h vb b) (la : a.natAbs < bigW) (lb : b.natAbs < bigW) (hk : ∀ r h', EX h h' → IntV h' r (a - b) → K r h') : CallP Tryz.prog 148 [va, vb] h K := by
  have ha0 := ha
  have hb0 := hb
  obtain ⟨v, rfl, hv⟩ := ha
  obtain ⟨w, rfl, hw⟩ := hb
  refine f148 ?_
  unfold T148
  refine box2 ?_
  intro h3 x
  simp only [OP_some, x.a2, x.b2, true_and]
  refine C120 (hb0.mono x.ex) ?_
  intro r1 h4 x4 i1
  refine ⟨⟨EX.load x4 x.a2, trivial⟩, ?_⟩
  refine C48 (ha0.mono (x.ex.trans x4)) i1 la (by rw [Int.natAbs_neg]; exact lb) ?_
  intro r2 h5 x5 i2
  have g' := (x4.trans x5).get x.out
  obtain ⟨u, rfl, hu⟩ := id i2
  refine fin2 g' (hk _ _ (((x.ex.trans x4).trans x5).set (by omega) _) ?_)
  rw [Int.sub_eq_add_neg]
  exact i2.setB g' _

theorem C105 {va vb : Value} {a b : Int} {h : Heap} {K : Value → Heap → Prop} (ha : IntV h va a) (hb : IntV h vb b) (la : a.natAbs < bigW) (lb : b.natAbs < bigW) (hk : ∀ r h', EX h h' → IntV h' r (a * b) → K r h') : CallP Tryz.prog 105 [va, vb] h K := by
  obtain ⟨v, rfl, hv⟩ := ha
  obtain ⟨w, rfl, hw⟩ := hb
  refine f105 ?_
  unfold T105
  refine box2 ?_
  intro h3 x
  have hv3 := hv.mono x.ex
  have hw3 := hw.mono x.ex
  simp only [fadr_pt, Nat.add_zero, Nat.zero_add, OP_some, x.a0, x.a1, x.b0, x.b1, eqb_bool, if_true, true_and]
  refine C124 hv3 hw3 la lb ?_
  intro u h4 x4 hu
  refine ⟨⟨EX.load x4 x.a0, EX.load x4 x.b0, trivial⟩, ?_⟩
  refine C82 hu ?_
  intro h5 x5
  have g' := (x4.trans x5).get x.out
  refine fin2 g' (hk _ _ (((x.ex.trans x4).trans x5).set (by omega) _) ⟨u, ?_, ?_⟩)
  · have : ((!(decide (a < 0) == decide (b < 0))) && decide (0 < a.natAbs * b.natAbs)) = decide (a * b < 0) := by
      rcases Int.lt_trichotomy a 0 with h1 | h1 | h1
      · rcases Int.lt_trichotomy b 0 with h2 | h2 | h2
        · have := Int.mul_pos_of_neg_of_neg h1 h2
          rw [decide_eq_true h1, decide_eq_true h2, decide_eq_false (show ¬ a * b < 0 by omega)]; rfl
        · subst h2; simp
        · have := Int.mul_neg_of_neg_of_pos h1 h2
          have h3 : 0 < a.natAbs * b.natAbs := Nat.mul_pos (by omega) (by omega)
          rw [decide_eq_true h1, decide_eq_false (show ¬ b < 0 by omega), decide_eq_true h3, decide_eq_true this]; rfl
      · subst h1; simp
      · rcases Int.lt_trichotomy b 0 with h2 | h2 | h2
        · have := Int.mul_neg_of_pos_of_neg h1 h2
          have h3 : 0 < a.natAbs * b.natAbs := Nat.mul_pos (by omega) (by omega)
          rw [decide_eq_false (show ¬ a < 0 by omega), decide_eq_true h2, decide_eq_true h3, decide_eq_true this]; rfl
        · subst h2; simp
        · have := Int.mul_pos h1 h2
          rw [decide_eq_false (show ¬ a < 0 by omega), decide_eq_false (show ¬ b < 0 by omega), decide_eq_false (show ¬ a * b < 0 by omega)]; rfl
    rw [this]
  · rw [Int.natAbs_mul]
    exact (hu.mono x5).setB g' _

end Go.Proofs.YthplaillblmgfaaGreatDoor


namespace Go.Proofs.YthplaillblmgfaaGreatDoor
open Go.Sim

theorem shl32 {r : Nat} (hr : r < 4294967296) : iBin .shl (.int .u64 (r : Int)) (.int .u64 32) = some (.int .u64 ((r * 4294967296 : Nat) : Int)) := by
  simp only [iBin, iShift]
  rw [if_neg (by omega)]
  have : (min (32 : Int).toNat IntKind.u64.bits) = 32 := rfl
  rw [this]
  have e2 : (2 : Int) ^ 32 = 4294967296 := by decide
  rw [e2, wrapU64 (by omega) (by omega)]
  congr 2

theorem or64 {r x : Nat} (hr : r < 4294967296) (hx : x < 4294967296) : iBin .or (.int .u64 ((r * 4294967296 : Nat) : Int)) (.int .u64 (x : Int)) = some (.int .u64 ((r * 4294967296 + x : Nat) : Int)) := by
  have e : (BitVec.ofInt IntKind.u64.bits ((r * 4294967296 : Nat) : Int) ||| BitVec.ofInt IntKind.u64.bits (x : Int)).toNat = r * 4294967296 + x := by
    show (BitVec.ofInt 64 ((r * 4294967296 : Nat) : Int) ||| BitVec.ofInt 64 (x : Int)).toNat = _
    rw [BitVec.ofInt_natCast, BitVec.ofInt_natCast, BitVec.toNat_or, BitVec.toNat_ofNat, BitVec.toNat_ofNat, Nat.mod_eq_of_lt (by omega), Nat.mod_eq_of_lt (by omega)]
    have := Nat.two_pow_add_eq_or_of_lt (i := 32) (b := x) (by omega) r
    rw [Nat.mul_comm r]
    exact this.symm
  simp only [iBin, iInt, if_true]
  rw [e, wrapU64 (by omega) (by omega)]

theorem quo64 {a b : Nat} (hb : b ≠ 0) (ha : a < 18446744073709551616) : iBin .quo (.int .u64 (a : Int)) (.int .u64 (b : Int)) = some (.int .u64 ((a / b : Nat) : Int)) := by
  have h : ¬ ((b : Int) = 0) := by omega
  have h2 : a / b ≤ a := Nat.div_le_self _ _
  simp only [iBin, iInt, if_true, if_neg h]
  have e : (a : Int).tdiv (b : Int) = ((a / b : Nat) : Int) := rfl
  rw [e]
  generalize a / b = q at *
  rw [wrapU64 (by omega) (by omega)]

theorem C116 {va : Value} {a w : Nat} {h : Heap} {K : Value → Heap → Prop} (ha : MagV h va a) (la : a < bigW) (w0 : 0 < w) (wW : w < 4294967296) (hk : ∀ v h', EX h h' → MagV h' v (a / w) → K (.tuple #[v, .int .u32 ((a % w : Nat) : Int)]) h') :
    CallP Tryz.prog 116 [va, .int .u32 (w : Int)] h K := by
  obtain ⟨xs, hx, cx, rfl⟩ := ha
  have l1 := canW_len cx la
  have hW : (0 : Nat) < 4294967296 := by decide
  refine f116 ?_
  have e1 : IntKind.wrap .i64 ((xs.length : Int) - 1) = (xs.length : Int) - 1 := by rw [wrap64 (by omega) (by omega)]
  simp only [T116, hx.len, OP_some, make_hd (show xs.length ≤ 1000 by omega), OH_some, bin_sub, e1]
  refine loopL (σ := Nat × Nat × List Nat) (fun p => [.int .u64 (p.1 : Int), I ((p.2.1 : Int) - 1)]) (fun p => hd h p.2.2)
    (fun p => p.2.1 ≤ xs.length ∧ p.1 < w ∧ p.2.2.length = xs.length ∧ Lim 4294967296 p.2.2 ∧ val 4294967296 (xs.drop p.2.1) = w * val 4294967296 (p.2.2.drop p.2.1) + p.1) (fun p => p.2.1)
    (0, xs.length, List.replicate xs.length 0) rfl rfl ⟨Nat.le_refl _, w0, by simp, Lim.zeros hW _, by simp [val]⟩ ?_
  rintro ⟨r, i, os⟩ ⟨hi, hr, hol, hlim, hval⟩ L hL
  simp only at hi hr hol hlim hval hL ⊢
  rw [q116z7]
  have hx' := hx.mono (hd_EX h os)
  simp only [bin_geq, OP_some, IfP_dec]
  refine ⟨fun hge => ?_, fun hlt => ?_⟩
  · obtain ⟨j, rfl⟩ : ∃ j, i = j + 1 := ⟨i - 1, by omega⟩
    have ej : (((j + 1 : Nat) : Int) - 1) = (j : Int) := by omega
    rw [ej]
    obtain ⟨ia, a1, a2⟩ := hx'.get (j := j) (by omega)
    have hxl : xs[j]'(by omega) < 4294967296 := cx.1 _ (List.getElem_mem _)
    have hdx : xs.drop j = xs[j]'(by omega) :: xs.drop (j + 1) := List.drop_eq_getElem_cons (by omega)
    generalize xs[j]'(by omega) = x at a2 hxl hdx
    simp only [shl32 (show r < 4294967296 by omega), OP_some, a1, a2, conv_int]
    rw [wrapU64 (n := (x : Int)) (by omega) (by omega)]
    simp only [or64 (show r < 4294967296 by omega) hxl, OP_some, conv_int]
    rw [wrapU64 (n := (w : Int)) (by omega) (by omega)]
    have ht : r * 4294967296 + x < w * 4294967296 := by omega
    have hq : (r * 4294967296 + x) / w < 4294967296 := (Nat.div_lt_iff_lt_mul w0).2 (by omega)
    have hm := Nat.mod_lt (r * 4294967296 + x) w0
    have hdm := Nat.div_add_mod (r * 4294967296 + x) w
    rw [quo64 (by omega) (by omega), rem_nat _ _ _ (by omega)]
    generalize (r * 4294967296 + x) / w = q at *
    generalize (r * 4294967296 + x) % w = m at *
    simp only [OP_some, conv_int]
    rw [wrapU32 (n := (q : Int)) (by omega) (by omega), adr_sl (show j < xs.length by omega)]
    simp only [OP_some]
    rw [hd_store _ (by omega)]
    simp only [OH_some, bin_sub, OP_some, true_and]
    rw [wrap64 (n := (j : Int) - 1) (by omega) (by omega)]
    refine hL (m, j, os.set j q) ⟨by show j ≤ xs.length; omega, hm, by show (os.set _ _).length = _; rw [List.length_set]; exact hol, hlim.set hq _, ?_⟩ (by show j < j + 1; omega)
    show val 4294967296 (xs.drop j) = w * val 4294967296 ((os.set j q).drop j) + m
    have hdo : (os.set j q).drop j = q :: os.drop (j + 1) := by
      rw [List.drop_eq_getElem_cons (by rw [List.length_set]; omega), List.getElem_set_self, List.drop_set_of_lt (by omega)]
    rw [hdx, hdo]
    simp only [val]
    rw [hval]
    generalize val 4294967296 (os.drop (j + 1)) = Q at *
    generalize (4294967296 : Nat) = W at *
    clear hL hx hx' a1 a2 hval
    grind
  · have : i = 0 := by omega
    subst this
    rw [List.drop_zero, List.drop_zero] at hval
    rw [q116z13]
    have e : sl 116 h.length 0 xs.length = sl 116 h.length 0 os.length := by rw [hol]
    rw [e]
    refine C83 (hd_DS h _) hlim (by omega) ?_
    intro v' hm
    simp only [conv_int, OP_some]
    rw [wrapU32 (n := (r : Int)) (by omega) (by omega)]
    have h1 : val 4294967296 xs / w = val 4294967296 os := by
      rw [hval, Nat.mul_add_div w0, Nat.div_eq_of_lt hr, Nat.add_zero]
    have h2 : val 4294967296 xs % w = r := by
      rw [hval, Nat.mul_add_mod, Nat.mod_eq_of_lt hr]
    have := hk v' _ (hd_EX h os) (by rw [h1]; exact hm)
    rw [h2] at this
    exact this

theorem C117 {h : Heap} {id : Nat} {xs : List UInt8} {K : Value → Heap → Prop} (hget : h[id]? = some (.arr 5 (xs.map cv))) (hn : xs.length ≤ 100000) (hk : K (.tuple #[]) (hb h id xs.reverse)) : CallP Tryz.prog 117 [sl 5 id 0 xs.length] h K := by
  have hid := (List.getElem?_eq_some_iff.1 hget).1
  have e0 : h = hb h id xs := by
    apply List.ext_getElem?
    intro j
    by_cases hj : id = j
    · subst hj; rw [hb_get hid, hget]
    · rw [List.getElem?_set_ne hj]
  refine f117 ?_
  have e1 : iLenSl (sl 5 id 0 xs.length) = some (I xs.length) := rfl
  have e2 : IntKind.wrap .i64 ((xs.length : Int) - 1) = (xs.length : Int) - 1 := by rw [wrap64 (by omega) (by omega)]
  simp only [T117, e1, OP_some, bin_sub, e2]
  refine loopL (σ := Nat × List UInt8) (fun p => [I p.1, I ((xs.length : Int) - 1 - p.1)]) (fun p => hb h id p.2) (fun p => p.1 ≤ xs.length ∧ p.2.length = xs.length ∧ ∀ k (hk : k < p.2.length) (hk2 : k < xs.length), p.2[k] = if k < p.1 ∨ xs.length - p.1 ≤ k then xs[xs.length - 1 - k]'(by omega) else xs[k]) (fun p => xs.length - p.1)
    (0, xs) (by simp) e0.symm ⟨by simp, rfl, fun k h1 h2 => by simp; intro h3; omega⟩ ?_
  rintro ⟨i, ys⟩ ⟨hi, hl, hy⟩ L hL
  simp only at hi hl hy hL ⊢
  rw [q117z3]
  simp only [bin_lss, OP_some, IfP_dec]
  refine ⟨fun hlt => ?_, fun hge => ?_⟩
  · obtain ⟨j, hj⟩ : ∃ j : Nat, (xs.length : Int) - 1 - i = j := ⟨xs.length - 1 - i, by omega⟩
    rw [hj]
    have hjn : j = xs.length - 1 - i := by omega
    have a1 := adr_sl (id := id) (e := 5) (n := xs.length) (j := j) (by omega)
    have a2 := adr_sl (id := id) (e := 5) (n := xs.length) (j := i) (by omega)
    have g1 : ys[j]? = some (ys[j]'(by omega)) := List.getElem?_eq_getElem (by omega)
    have g2 : ys[i]? = some (ys[i]'(by omega)) := List.getElem?_eq_getElem (by omega)
    simp only [a1, a2, OP_some, hb_load hid g1, hb_load hid g2, true_and]
    rw [hb_store hid _ (by omega)]
    simp only [OH_some]
    rw [hb_store hid _ (by rw [List.length_set]; omega)]
    simp only [OH_some, bin_add, bin_sub, OP_some, inc i (by omega), true_and]
    have ej : IntKind.wrap .i64 ((j : Int) - 1) = (xs.length : Int) - 1 - ((i + 1 : Nat) : Int) := by rw [wrap64 (by omega) (by omega)]; omega
    rw [ej]
    refine hL (i + 1, (ys.set i (ys[j]'(by omega))).set j (ys[i]'(by omega))) ⟨by show i + 1 ≤ xs.length; omega, by simp [hl], ?_⟩ (by show xs.length - (i + 1) < xs.length - i; omega)
    intro k hk1 hk2
    show ((ys.set i (ys[j]'(by omega))).set j (ys[i]'(by omega)))[k] = if k < i + 1 ∨ xs.length - (i + 1) ≤ k then xs[xs.length - 1 - k]'(by omega) else xs[k]
    have hyi := hy i (by omega) (by omega)
    have hyj := hy j (by omega) (by omega)
    rw [if_neg (by omega)] at hyi hyj
    by_cases hkj : j = k
    · subst hkj
      rw [List.getElem_set_self, if_pos (by omega), hyi]
      congr 1; omega
    · rw [List.getElem_set_ne hkj]
      by_cases hki : i = k
      · subst hki
        rw [List.getElem_set_self, if_pos (by omega), hyj]
        congr 1
      · rw [List.getElem_set_ne hki, hy k (by omega) hk2]
        by_cases hc : k < i ∨ xs.length - i ≤ k
        · rw [if_pos hc, if_pos (by omega)]
        · rw [if_neg hc, if_neg (by omega)]
  · have : ys = xs.reverse := by
      apply List.ext_getElem (by simp [hl])
      intro k h1 h2
      rw [hy k h1 (by omega), List.getElem_reverse]
      split
      · rfl
      · congr 1; omega
    rw [this]
    exact hk


def dig10 (n : Nat) : List Nat := if h : n = 0 then [] else n % 10 :: dig10 (n / 10)
termination_by n
decreasing_by omega

theorem dig10_canon (n : Nat) : Canon 10 (dig10 n) ∧ val 10 (dig10 n) = n := by
  induction n using Nat.strongRecOn with
  | ind n ih =>
    rw [dig10]
    by_cases h : n = 0
    · subst h; exact ⟨Canon.nil 10, rfl⟩
    · rw [dif_neg h]
      obtain ⟨h1, h2⟩ := ih (n / 10) (by omega)
      refine ⟨⟨?_, ?_⟩, ?_⟩
      · intro x hx
        rcases List.mem_cons.1 hx with rfl | hx
        · omega
        · exact h1.1 x hx
      · cases hd : dig10 (n / 10) with
        | nil =>
          rw [hd] at h2
          simp [val] at h2
          simp
          omega
        | cons y ys =>
          rw [List.getLast?_cons_cons, ← hd]
          exact h1.2
      · simp only [val, h2]; omega

def dch (d : Nat) : UInt8 := UInt8.ofNat (48 + d)
theorem dch_toNat {d : Nat} (h : d < 10) : (dch d).toNat = 48 + d := by simp [dch, UInt8.toNat_ofNat']; omega

def decS (n : Nat) : List UInt8 := if n = 0 then [48] else ((dig10 n).map dch).reverse

def k1000 : Nat := 1000
theorem bigW_10 : bigW ≤ 10 ^ k1000 := by decide +kernel

end Go.Proofs.YthplaillblmgfaaGreatDoor


namespace Go.Proofs.YthplaillblmgfaaGreatDoor
open Go.Sim

theorem cvd {d : Nat} (h : d < 10) : (.int .u8 ((48 + d : Nat) : Int) : Value) = cv (dch d) := by rw [cv, dch_toNat h]

theorem pow10_pos (k : Nat) : 0 < 10 ^ k := Nat.pow_pos (by decide)

theorem len_of_pow {b n m : Nat} (hm : 0 < m) (h : 10 ^ b * m ≤ n) (hn : n < bigW) : b < 1000 := by
  have h1 : 10 ^ b ≤ 10 ^ b * m := Nat.le_mul_of_pos_right _ hm
  show b < k1000
  have h2 : 10 ^ b < 10 ^ k1000 := Nat.lt_of_le_of_lt (Nat.le_trans h1 h) (Nat.lt_of_lt_of_le hn bigW_10)
  exact (Nat.pow_lt_pow_iff_right (by decide)).1 h2

theorem app1M {h0 hx : Heap} {v z : Value} {x : UInt8} {bs : List UInt8} {K : Value → Heap → Prop} (o : OwnS h0.length hx 5 v (bs.map cv)) (hex : EX h0 hx) (hl : bs.length ≤ 100000)
    (hk : ∀ v' hx', EX h0 hx' → OwnS h0.length hx' 5 v' ((bs ++ [x]).map cv) → (∀ q n, MagV hx q n → MagV hx' q n) → K v' hx') :
    OH (iMkSl 5 1 [z] hx [(0, 1, cv x)]) fun a h2 => OH (iApp 5 1 1 h2 v a) K := by
  refine app1p o (by simp; omega) (by simp [maxLen]; omega) rfl rfl ?_
  intro hA hx' _ hlen hkeep hnew
  simp only [OH_some]
  refine hk _ _ ⟨by have := hex.1; omega, fun j hj => ?_⟩ (.inr ⟨hx.length + 1, by have := hex.1; omega, by simp, by simpa using hnew⟩) ?_
  · rw [hkeep j (by have := hex.1; omega) fun n hv => ?_]
    · exact hex.2 j hj
    · have := (o.lt hv).1; omega
  · rintro q n ⟨xs, d, c, hv⟩
    refine ⟨xs, ?_, c, hv⟩
    rcases d with d | ⟨i, h1, h2⟩
    · exact .inl d
    · refine .inr ⟨i, h1, ?_⟩
      rcases h2 with h2 | ⟨r, h2⟩
      · exact .inl h2
      · cases xs with
        | nil => exact .inl rfl
        | cons y ys =>
          right
          refine ⟨r, ?_⟩
          have hil : i < hx.length := by
            apply Classical.byContradiction
            intro hc
            unfold objCells at h2
            rw [List.getElem?_eq_none (by omega)] at h2
            simp at h2
          unfold objCells at h2 ⊢
          rw [hkeep i hil fun n hvv => ?_]
          · exact h2
          · have hg := (o.lt hvv).2.2
            rw [hg] at h2
            cases bs with
            | nil => simp at h2
            | cons b bs => simp [cv] at h2

theorem C88 {va : Value} {n : Nat} {h : Heap} {K : Value → Heap → Prop} (ha : MagV h va n) (la : n < bigW) (hk : ∀ h', EX h h' → K (S (decS n)) h') : CallP Tryz.prog 88 [va] h K := by
  refine f88 ?_
  obtain ⟨l0, e0, e1⟩ := ha.len0
  simp only [T88, e0, OP_some, bin_eql, IfP_dec]
  refine ⟨fun hz => ?_, fun hnz => ?_⟩
  · have : n = 0 := by omega
    subst this
    exact hk h (EX.refl h)
  · have hn0 : 0 < n := by omega
    refine loopL (σ := Value × Nat × Value × List Nat × Heap) (fun p => [p.1, p.2.2.1]) (fun p => p.2.2.2.2)
      (fun p => EX h p.2.2.2.2 ∧ MagV p.2.2.2.2 p.1 p.2.1 ∧ OwnS h.length p.2.2.2.2 5 p.2.2.1 ((p.2.2.2.1.map dch).map cv) ∧ Lim 10 p.2.2.2.1 ∧ val 10 p.2.2.2.1 + 10 ^ p.2.2.2.1.length * p.2.1 = n ∧ (p.2.1 = 0 → Canon 10 p.2.2.2.1)) (fun p => p.2.1)
      (va, n, .slice none 0 0, [], h) rfl rfl ⟨EX.refl h, ha, .inl ⟨rfl, rfl⟩, fun x hx => by simp at hx, by simp [val], fun h0 => by have h0 : n = 0 := h0; omega⟩ ?_
    rintro ⟨v, m, bv, b, hx⟩ ⟨hex, hm, hown, hlim, hval, hcan⟩ L hL
    simp only at hex hm hown hlim hval hcan hL ⊢
    rw [q88z8]
    obtain ⟨l, f0, f1⟩ := hm.len0
    simp only [f0, OP_some, bin_gtr, IfP_dec]
    refine ⟨fun hlt => ?_, fun hge => ?_⟩
    · have hm0 : 0 < m := by omega
      have hmb : m < bigW := by
        refine Nat.lt_of_le_of_lt ?_ la
        have : m ≤ 10 ^ b.length * m := Nat.le_mul_of_pos_left _ (pow10_pos _)
        omega
      have hbl := len_of_pow (b := b.length) hm0 (by omega) la
      refine C116 hm hmb (w := 1000000000) (by decide) (by decide) ?_
      intro q h1 x1 hq
      simp only [ext_tuple, pair0, pair1, OP_some]
      have hown1 : OwnS h.length h1 5 bv ((b.map dch).map cv) := hown.keep fun d k hv hd => by
        have := (hown.lt hv).2.1
        exact x1.2 d this
      have hqlt : m / 1000000000 < m := Nat.div_lt_self hm0 (by decide)
      have hdm := Nat.div_add_mod m 1000000000
      have hr9 := Nat.mod_lt m (show 1000000000 > 0 by decide)
      generalize m / 1000000000 = qn at *
      generalize m % 1000000000 = r0 at *
      have hqq := hq
      refine loopL (σ := Value × List Nat × Nat × Nat × Heap) (fun p => [p.1, .int .u32 (p.2.2.1 : Int), I p.2.2.2.1]) (fun p => p.2.2.2.2)
        (fun p => EX h p.2.2.2.2 ∧ MagV p.2.2.2.2 q qn ∧ OwnS h.length p.2.2.2.2 5 p.1 ((p.2.1.map dch).map cv) ∧ Lim 10 p.2.1 ∧ p.2.2.2.1 ≤ 9 ∧ p.2.2.1 < 10 ^ (9 - p.2.2.2.1) ∧ p.2.1.length ≤ b.length + p.2.2.2.1 ∧ val 10 p.2.1 + 10 ^ p.2.1.length * (p.2.2.1 + 10 ^ (9 - p.2.2.2.1) * qn) = n ∧ (qn = 0 → p.2.2.1 = 0 → Canon 10 p.2.1)) (fun p => 9 - p.2.2.2.1)
        (bv, b, r0, 0, h1) rfl rfl ⟨hex.trans x1, hq, hown1, hlim, by simp, by simpa using hr9, by simp, ?_, ?_⟩ ?_
      · show val 10 b + 10 ^ b.length * (r0 + 10 ^ (9 - 0) * qn) = n
        have : r0 + 10 ^ (9 - 0) * qn = m := by
          show r0 + 1000000000 * qn = m
          omega
        rw [this]; exact hval
      · intro h1 h2
        have h1 : qn = 0 := h1
        have h2 : r0 = 0 := h2
        subst h1; subst h2
        omega
      rintro ⟨cv1, c, r, i, hy⟩ ⟨hey, hqy, howny, hlimc, hi, hr, hcl, hvalc, hcanc⟩ L2 hL2
      simp only at hey hqy howny hlimc hi hr hcl hvalc hcanc hL2 ⊢
      rw [q88z16]
      -- leaving
      have stop : r = 0 → (i = 9 ∨ qn = 0) → p88z30 Tryz.prog K cv1 q L hy := by
        intro hr0 hor
        rw [q88z30]
        refine ⟨rfl, hL (q, qn, cv1, c, hy) ⟨hey, hqy, howny, hlimc, ?_, fun h0 => hcanc h0 hr0⟩ hqlt⟩
        show val 10 c + 10 ^ c.length * qn = n
        rw [hr0, Nat.zero_add] at hvalc
        rcases hor with h9 | h0
        · subst h9; simpa using hvalc
        · subst h0; simpa using hvalc
      simp only [bin_lss, OP_some]
      by_cases hi9 : i < 9
      · rw [decide_eq_true (show (i : Int) < 9 by omega)]
        simp only [q88z20, GdP_tt]
        obtain ⟨l2, g0, g1⟩ := hqy.len0
        simp only [g0, OP_some, bin_gtr]
        -- one digit more
        have step : (0 < qn ∨ 0 < r) → IfP (B true)
            (OP (iBin .rem (.int .u32 (r : Int)) (.int .u32 (10))) fun x33 =>
            OP (iBin .add (.int .u32 (48)) x33) fun x34 =>
            OP (iConv .u8 x34) fun x35 =>
            OH (iMkSl 5 1 [(.int .u8 (0))] hy [(0, 1, x35)]) fun x36 h_1 =>
            OH (iApp 5 1 1 h_1 cv1 x36) fun x37 h_2 =>
            OP (iBin .quo (.int .u32 (r : Int)) (.int .u32 (10))) fun x39 =>
            OP (iBin .add (I i) (.int .i64 (1))) fun x30 =>
            True ∧ L2 [x37, x39, x30] h_2)
            (p88z30 Tryz.prog K cv1 q L hy) := by
          intro hor
          have hrW : r < 4294967296 := Nat.lt_of_lt_of_le hr (Nat.le_trans (Nat.pow_le_pow_right (by decide) (show 9 - i ≤ 9 by omega)) (by decide))
          have ed : IntKind.wrap .u32 ((48 : Int) + ((r % 10 : Nat) : Int)) = ((48 + r % 10 : Nat) : Int) := by rw [wrapU32 (by omega) (by omega)]; omega
          have eq10 : iBin .quo (.int .u32 (r : Int)) (.int .u32 10) = some (.int .u32 ((r / 10 : Nat) : Int)) := by
            have h10 : ¬ ((10 : Int) = 0) := by omega
            simp only [iBin, iInt, if_true, if_neg h10]
            have e : (r : Int).tdiv 10 = ((r / 10 : Nat) : Int) := rfl
            rw [e, wrapU32 (by omega) (by omega)]
          simp only [IfP_true]
          rw [show (.int .u32 10 : Value) = .int .u32 ((10 : Nat) : Int) from rfl, rem_nat _ _ _ (by decide)]
          simp only [OP_some, bin_add, ed, conv_int]
          rw [wrapU8 (by omega) (by omega), cvd (show r % 10 < 10 by omega)]
          refine app1M (x := dch (r % 10)) howny hey (by simp; omega) ?_
          intro v' hx' hex' hown' hkeep
          rw [show (.int .u32 ((10 : Nat) : Int) : Value) = .int .u32 10 from rfl, eq10]
          simp only [OP_some, inc i (by omega), true_and]
          have hq' : MagV hx' q qn := hkeep q qn hqy
          refine hL2 (v', c ++ [r % 10], r / 10, i + 1, hx') ⟨hex', hq', by simpa using hown', hlimc.append (fun x hx => by simp at hx; omega), by show i + 1 ≤ 9; omega, ?_, by show (c ++ [r % 10]).length ≤ b.length + (i + 1); simp; omega, ?_, ?_⟩ (by show 9 - (i + 1) < 9 - i; omega)
          · show r / 10 < 10 ^ (9 - (i + 1))
            rw [show 9 - i = (9 - (i + 1)) + 1 by omega, Nat.pow_succ] at hr
            exact (Nat.div_lt_iff_lt_mul (by decide)).2 hr
          · show val 10 (c ++ [r % 10]) + 10 ^ (c ++ [r % 10]).length * (r / 10 + 10 ^ (9 - (i + 1)) * qn) = n
            rw [val_append, List.length_append, List.length_singleton, Nat.pow_succ]
            rw [show 9 - i = (9 - (i + 1)) + 1 by omega, Nat.pow_succ] at hvalc
            have hdm := Nat.div_add_mod r 10
            simp only [val, Nat.mul_zero, Nat.add_zero]
            generalize r / 10 = r1 at *
            generalize r % 10 = d at *
            generalize 10 ^ c.length = P at *
            generalize 10 ^ (9 - (i + 1)) = Q at *
            generalize val 10 c = V at *
            clear hL hL2 hr hcanc hval stop
            subst hdm
            grind
          · intro h1 h2
            have h2 : r / 10 = 0 := h2
            refine can_of_last (hlimc.append (fun x hx => by simp at hx; omega)) ?_
            intro _
            have : 0 < r := by rcases hor with h | h; omega; exact h
            simp
            omega
        by_cases hq0 : 0 < qn
        · rw [decide_eq_true (show (0 : Int) < (l2 : Int) by omega)]
          simp only [q88z22, GdP_tf, q88z24, iPick_t, OP_some, GdP_tt, q88z26]
          exact step (.inl hq0)
        · rw [decide_eq_false (show ¬ (0 : Int) < (l2 : Int) by omega)]
          simp only [q88z22, GdP_ff, bin_gtr, OP_some]
          by_cases hr0 : 0 < r
          · rw [decide_eq_true (show (0 : Int) < (r : Int) by omega)]
            simp only [q88z24, GdP_tt, iPick_f, OP_some, q88z26, iPick_t]
            exact step (.inr hr0)
          · rw [decide_eq_false (show ¬ (0 : Int) < (r : Int) by omega)]
            simp only [q88z24, GdP_tt, iPick_f, OP_some, q88z26, iPick_t, IfP_false]
            exact stop (by omega) (.inr (by omega))
      · have : i = 9 := by omega
        subst this
        rw [decide_eq_false (show ¬ ((9 : Nat) : Int) < 9 by omega)]
        simp only [q88z20, GdP_ft, q88z22, GdP_undef, q88z24, q88z26, iPick_f, OP_some, IfP_false]
        exact stop (by simpa using hr) (.inl rfl)
    · have hm0 : m = 0 := by omega
      subst hm0
      have hc := hcan rfl
      rw [Nat.mul_zero, Nat.add_zero] at hval
      have hb : b = dig10 n := Canon.unique (by decide) hc (dig10_canon n).1 (by rw [hval, (dig10_canon n).2])
      have hbne : b ≠ [] := by rintro rfl; simp [val] at hval; omega
      have hbl : b.length ≤ 2000 := by
        have h1 := Canon.low (by decide) hc hbne
        have h2 := len_of_pow (b := b.length - 1) (m := 1) (n := n) (by decide) (by omega) la
        omega
      rw [q88z31]
      obtain ⟨id, hid, hv, hg⟩ : ∃ id, h.length ≤ id ∧ bv = sl 5 id 0 (b.map dch).length ∧ hx[id]? = some (.arr 5 ((b.map dch).map cv)) := by
        rcases hown with ⟨_, h0⟩ | ⟨id, h1, h2, h3⟩
        · exact absurd (by simpa using h0) hbne
        · exact ⟨id, h1, by simpa using h2, h3⟩
      rw [hv]
      refine C117 hg (by simp; omega) ?_
      have hidl := (List.getElem?_eq_some_iff.1 hg).1
      have b2 : iB2s (Go.Proofs.YthplaillblmgfaaGreatDoor.hb hx id (b.map dch).reverse) (sl 5 id 0 (b.map dch).length) = some (S (b.map dch).reverse) := by
        refine b2s (b := 0) (e := 5) (l := (b.map dch).reverse) (.inr ⟨id, Nat.zero_le _, by simp, ?_⟩)
        rw [hb_get hidl]
      simp only [b2, OP_some]
      have : (b.map dch).reverse = decS n := by unfold decS; rw [if_neg (by omega), hb]
      rw [this]
      exact hk _ (hex.set hid _)

end Go.Proofs.YthplaillblmgfaaGreatDoor


namespace Go.Proofs.YthplaillblmgfaaGreatDoor
open Go.Sim
variable (P : Program) (K : VK)
/-! F13: pommel/pommelref01.Of -/
noncomputable def oc13 := compFn Tryz.prog 13 [[], [], []]
@[irreducible] noncomputable def c13 : ICode := icOf oc13
theorem k13 : oc13 = some (11, c13, [.cell true 4 2]) := by kernel_rfl
def T13 (x0 : Value) (h : Heap) : Prop :=
 OH (iAlloc 38 [(.bool false), (.slice none 0 0), (.bool false), (.slice none 0 0)] h) fun x2 h_1 =>
 CallP P 51 [x0] h_1 fun x7 h_2 =>
 OP (iExt 0 x7) fun x8 =>
 OP (iExt 1 x7) fun x9 =>
 OH (iAlloc 38 [(.bool false), (.slice none 0 0), (.bool false), (.slice none 0 0)] h_2) fun q3 h_3 =>
 OH (oStore 4 h_3 q3 x8) fun _ h_4 =>
 OP (iLoad true 4 h_4 q3) fun x10 =>
 OH (oStore 4 h_4 x2 x10) fun _ h_5 =>
 OP (iLoad true 4 h_5 x2) fun r0 =>
 K r0 h_5
theorem e13 (x0 : Value) (h : Heap) : iwpP P c13 (bodyP [.cell true 4 2] K) (frame0 [x0]) h = T13 P K x0 h := by kernel_rfl
theorem f13 {K : VK} {x0 : Value} {h : Heap} (H : T13 Tryz.prog K x0 h) : CallP Tryz.prog 13 [x0] h K :=
 callP_intro k13 (Nat.le_of_ble_eq_true rfl) ((e13 Tryz.prog K x0 h).mpr H)
/-! F14: pommel/pommelref01.Whole -/
noncomputable def oc14 := compFn Tryz.prog 14 [[], []]
@[irreducible] noncomputable def c14 : ICode := icOf oc14
theorem k14 : oc14 = some (7, c14, [.cell true 4 2]) := by kernel_rfl
def T14 (v0 : Value) (h : Heap) : Prop :=
 OH (iAlloc 38 [(.bool false), (.slice none 0 0), (.bool false), (.slice none 0 0)] h) fun x2 h_1 =>
 CallP P 22 [v0] h_1 fun x4 h_2 =>
 CallP P 22 [(.int .i64 (1))] h_2 fun x5 h_3 =>
 OP (iBuild [(.bool false), (.slice none 0 0), (.bool false), (.slice none 0 0)] [(0, 2, x4), (2, 2, x5)]) fun x6 =>
 OH (oStore 4 h_3 x2 x6) fun _ h_4 =>
 OP (iLoad true 4 h_4 x2) fun r0 =>
 K r0 h_4
theorem e14 (v0 : Value) (h : Heap) : iwpP P c14 (bodyP [.cell true 4 2] K) (frame0 [v0]) h = T14 P K v0 h := by kernel_rfl
theorem f14 {K : VK} {v0 : Value} {h : Heap} (H : T14 Tryz.prog K v0 h) : CallP Tryz.prog 14 [v0] h K :=
 callP_intro k14 (Nat.le_of_ble_eq_true rfl) ((e14 Tryz.prog K v0 h).mpr H)
/-! F22: pommel/pommelref01.Int -/
noncomputable def oc22 := compFn Tryz.prog 22 [[], [], [2, 3], [0], [], [], [], [], [0, 2, 3, 4], [], [2, 3], []]
@[irreducible] noncomputable def c22 : ICode := icOf oc22
@[irreducible] noncomputable def c22z5 : ICode := c22.r.r.l.l.l
@[irreducible] noncomputable def c22z3 : ICode := c22.r.r.r
@[irreducible] noncomputable def c22z12 : ICode := c22z5.r.l.r.r.l
@[irreducible] noncomputable def c22z14 : ICode := c22z3.l
theorem k22 : oc22 = some (25, c22, [.cell true 2 2]) := by kernel_rfl
def K22z0 (_P : Program) (K : VK) : Kont := bodyP [.cell true 2 2] K
def K22z3 : Kont := thenK (iwpP P c22z3 (K22z0 P K)) (K22z0 P K)
def K22z4 : Kont := inBlockK 0 (K22z3 P K)
def K22z5 (x2 z3 : Value) (L1 : LK) : Kont := thenK (fun f' h'' => (([2, 3] : List Nat).map f' : List Value) = [x2, z3] ∧ L1 (([0] : List Nat).map f') h'') (K22z4 P K)
def K22z8 (x2 z3 : Value) (L1 : LK) : Kont := inBlockK 1 (K22z5 P K x2 z3 L1)
def p22z5 (x2 z3 : Value) (L1 : LK) (xs : List Value) (h : Heap) : Prop := CutP (iwpP P c22z5 (K22z5 P K x2 z3 L1)) ([2, 3] ++ [0]) ([x2, z3] ++ xs) h
def p22z12 (v0 x2 z3 d4 : Value) (L1 : LK) (h : Heap) : Prop := CutP (iwpP P c22z12 (K22z8 P K x2 z3 L1)) [0, 2, 3, 4] [v0, x2, z3, d4] h
def p22z14 (x2 z3 : Value) (h : Heap) : Prop := CutP (iwpP P c22z14 (K22z0 P K)) [2, 3] [x2, z3] h
theorem q22z12 (v0 x2 z3 d4 : Value) (L1 : LK) (h : Heap) : p22z12 P K v0 x2 z3 d4 L1 h =
 (OP (iFadr 1 z3) fun x16 =>
 OP (iLoad false 1 h x16) fun x17 =>
 OH (iMkSl 3 1 [(.int .i64 (0))] h [(0, 1, d4)]) fun x19 h_1 =>
 OH (iApp 3 1 8 h_1 x17 x19) fun x20 h_2 =>
 OP (iFadr 1 z3) fun x21 =>
 OH (oStore 1 h_2 x21 x20) fun _ h_3 =>
 OP (iBin .quo v0 (.int .i64 (10000))) fun x23 =>
 ([x2, z3] : List Value) = [x2, z3] ∧ L1 [x23] h_3) := (CutP_def _ _ _ _).trans (by kernel_rfl)
theorem q22z5 (x2 z3 : Value) (L1 : LK) (v0 : Value) (h : Heap) : p22z5 P K x2 z3 L1 [v0] h =
 (OP (iBin .neq v0 (.int .i64 (0))) fun x9 =>
 IfP x9
 (OP (iBin .rem v0 (.int .i64 (10000))) fun x11 =>
 OP (iBin .lss x11 (.int .i64 (0))) fun x13 =>
 IfP x13
 (OP (iUn .neg x11) fun x15 =>
 p22z12 P K v0 x2 z3 x15 L1 h)
 (p22z12 P K v0 x2 z3 x11 L1 h))
 (p22z14 P K x2 z3 h)) := (CutP_def _ _ _ _).trans (by kernel_rfl)
theorem q22z14 (x2 z3 : Value) (h : Heap) : p22z14 P K x2 z3 h =
 (OP (iLoad true 2 h z3) fun x24 =>
 OH (oStore 2 h x2 x24) fun _ h_1 =>
 OP (iLoad true 2 h_1 x2) fun r0 =>
 K r0 h_1) := (CutP_def _ _ _ _).trans (by kernel_rfl)
def T22 (v0 : Value) (h : Heap) : Prop :=
 OH (iAlloc 36 [(.bool false), (.slice none 0 0)] h) fun x2 h_1 =>
 OP (iBin .lss v0 (.int .i64 (0))) fun x6 =>
 OP (iBuild [(.bool false), (.slice none 0 0)] [(0, 1, x6)]) fun x7 =>
 OH (iAlloc 36 [(.bool false), (.slice none 0 0)] h_1) fun z3 h_2 =>
 OH (oStore 2 h_2 z3 x7) fun _ h_3 =>
 LoopP [v0] h_3 fun L1 xs hx =>
 p22z5 P K x2 z3 L1 xs hx
theorem e22 (v0 : Value) (h : Heap) : iwpP P c22 (bodyP [.cell true 2 2] K) (frame0 [v0]) h = T22 P K v0 h := by kernel_rfl
theorem f22 {K : VK} {v0 : Value} {h : Heap} (H : T22 Tryz.prog K v0 h) : CallP Tryz.prog 22 [v0] h K :=
 callP_intro k22 (Nat.le_of_ble_eq_true rfl) ((e22 Tryz.prog K v0 h).mpr H)
/-! F51: pommel/pommelref01.Parse -/
noncomputable def oc51 := compFn Tryz.prog 51 [[], [], [], [], [], [2, 4, 5, 21], [2, 4, 5, 21, 24], [], [2, 4, 5], [], [], [2, 4, 5], [6, 7], [], [], [], [2, 4, 5, 6, 7], [2, 4, 5, 6], [], [], [], [], [], [], [], [2, 5, 8, 9, 10], [2, 5, 8, 10, 82], [2, 5, 8, 10, 82, 84], [2, 5, 8, 10, 82, 84, 88], [2, 5, 8, 10, 82, 89], [], [], [], [], [2, 8, 10], []]
@[irreducible] noncomputable def c51 : ICode := icOf oc51
@[irreducible] noncomputable def c51z9 : ICode := c51.r.r.r.l.l.r.l
@[irreducible] noncomputable def c51z7 : ICode := c51.r.r.r.l.r
@[irreducible] noncomputable def c51z6 : ICode := c51.r.r.r.r
@[irreducible] noncomputable def c51z11 : ICode := c51z9.r.l
@[irreducible] noncomputable def c51z12 : ICode := c51z6.l
@[irreducible] noncomputable def c51z17 : ICode := c51z12.r.l.r.l.l
@[irreducible] noncomputable def c51z14 : ICode := c51z12.r.r
@[irreducible] noncomputable def c51z23 : ICode := c51z17.r.r.l
@[irreducible] noncomputable def c51z24 : ICode := c51z14.l
@[irreducible] noncomputable def c51z33 : ICode := c51z24.r.r.r.l
@[irreducible] noncomputable def c51z37 : ICode := c51z33.l.l.r.l
@[irreducible] noncomputable def c51z35 : ICode := c51z33.l.r
@[irreducible] noncomputable def c51z34 : ICode := c51z33.r
@[irreducible] noncomputable def c51z39 : ICode := c51z37.r.l
@[irreducible] noncomputable def c51z47 : ICode := c51z34.r.l
@[irreducible] noncomputable def c51z41 : ICode := c51z39.r.l
@[irreducible] noncomputable def c51z43 : ICode := c51z41.r.l
theorem k51 : oc51 = some (98, c51, [.cell true 4 2, .tmp 3]) := by kernel_rfl
def K51z0 (_P : Program) (K : VK) : Kont := bodyP [.cell true 4 2, .tmp 3] K
def K51z6 : Kont := thenK (iwpP P c51z6 (K51z0 P K)) (K51z0 P K)
def K51z7 : Kont := thenK (iwpP P c51z7 (K51z6 P K)) (K51z6 P K)
def K51z14 : Kont := thenK (iwpP P c51z14 (K51z0 P K)) (K51z0 P K)
def K51z16 : Kont := inBlockK 0 (K51z14 P K)
def K51z17 (x2 s4 minus5 : Value) (L1 : LK) : Kont := thenK (fun f' h'' => (([2, 4, 5] : List Nat).map f' : List Value) = [x2, s4, minus5] ∧ L1 (([6, 7] : List Nat).map f') h'') (K51z16 P K)
def K51z34 : Kont := thenK (iwpP P c51z34 (K51z0 P K)) (K51z0 P K)
def K51z35 : Kont := thenK (iwpP P c51z35 (K51z34 P K)) (K51z34 P K)
def p51z9 (x2 s4 minus5 x21 : Value) (h : Heap) : Prop := CutP (iwpP P c51z9 (K51z7 P K)) [2, 4, 5, 21] [x2, s4, minus5, x21] h
def p51z11 (x2 s4 minus5 x21 x24 : Value) (h : Heap) : Prop := CutP (iwpP P c51z11 (K51z7 P K)) [2, 4, 5, 21, 24] [x2, s4, minus5, x21, x24] h
def p51z12 (x2 s4 minus5 : Value) (h : Heap) : Prop := CutP (iwpP P c51z12 (K51z0 P K)) [2, 4, 5] [x2, s4, minus5] h
def p51z17 (x2 s4 minus5 : Value) (L1 : LK) (xs : List Value) (h : Heap) : Prop := CutP (iwpP P c51z17 (K51z17 P K x2 s4 minus5 L1)) ([2, 4, 5] ++ [6, 7]) ([x2, s4, minus5] ++ xs) h
def p51z23 (x2 s4 minus5 slash6 i7 : Value) (L1 : LK) (h : Heap) : Prop := CutP (iwpP P c51z23 (K51z17 P K x2 s4 minus5 L1)) [2, 4, 5, 6, 7] [x2, s4, minus5, slash6, i7] h
def p51z24 (x2 s4 minus5 slash6 : Value) (h : Heap) : Prop := CutP (iwpP P c51z24 (K51z0 P K)) [2, 4, 5, 6] [x2, s4, minus5, slash6] h
def p51z33 (x2 minus5 n8 ok9 d10 : Value) (h : Heap) : Prop := CutP (iwpP P c51z33 (K51z0 P K)) [2, 5, 8, 9, 10] [x2, minus5, n8, ok9, d10] h
def p51z37 (x2 minus5 n8 d10 x82 : Value) (h : Heap) : Prop := CutP (iwpP P c51z37 (K51z35 P K)) [2, 5, 8, 10, 82] [x2, minus5, n8, d10, x82] h
def p51z39 (x2 minus5 n8 d10 x82 x84 : Value) (h : Heap) : Prop := CutP (iwpP P c51z39 (K51z35 P K)) [2, 5, 8, 10, 82, 84] [x2, minus5, n8, d10, x82, x84] h
def p51z41 (x2 minus5 n8 d10 x82 x84 x88 : Value) (h : Heap) : Prop := CutP (iwpP P c51z41 (K51z35 P K)) [2, 5, 8, 10, 82, 84, 88] [x2, minus5, n8, d10, x82, x84, x88] h
def p51z43 (x2 minus5 n8 d10 x82 x89 : Value) (h : Heap) : Prop := CutP (iwpP P c51z43 (K51z35 P K)) [2, 5, 8, 10, 82, 89] [x2, minus5, n8, d10, x82, x89] h
def p51z47 (x2 n8 d10 : Value) (h : Heap) : Prop := CutP (iwpP P c51z47 (K51z0 P K)) [2, 8, 10] [x2, n8, d10] h
theorem q51z11 (x2 s4 minus5 x21 x24 : Value) (h : Heap) : p51z11 P K x2 s4 minus5 x21 x24 h =
 (OP (iPick x21 x24 (.bool false)) fun x25 =>
 IfP x25
 (OP (iSlS s4 (some (.int .i64 (1))) none) fun x27 =>
 p51z12 P K x2 x27 (.bool true) h)
 (p51z12 P K x2 s4 minus5 h)) := (CutP_def _ _ _ _).trans (by kernel_rfl)
theorem q51z9 (x2 s4 minus5 x21 : Value) (h : Heap) : p51z9 P K x2 s4 minus5 x21 h =
 (GdP x21 true
 (OP (iIdxS s4 (.int .i64 (0))) fun x23 =>
 OP (iBin .eql x23 (.int .u8 (45))) fun x24 =>
 p51z11 P K x2 s4 minus5 x21 x24 h)
 (p51z11 P K x2 s4 minus5 x21 undef h)) := (CutP_def _ _ _ _).trans (by kernel_rfl)
theorem q51z23 (x2 s4 minus5 slash6 i7 : Value) (L1 : LK) (h : Heap) : p51z23 P K x2 s4 minus5 slash6 i7 L1 h =
 (OP (iBin .sub i7 (.int .i64 (1))) fun x36 =>
 ([x2, s4, minus5] : List Value) = [x2, s4, minus5] ∧ L1 [slash6, x36] h) := (CutP_def _ _ _ _).trans (by kernel_rfl)
theorem q51z17 (x2 s4 minus5 : Value) (L1 : LK) (slash6 i7 : Value) (h : Heap) : p51z17 P K x2 s4 minus5 L1 [slash6, i7] h =
 (OP (iBin .geq i7 (.int .i64 (0))) fun x34 =>
 IfP x34
 (OP (iIdxS s4 i7) fun x39 =>
 OP (iBin .eql x39 (.int .u8 (47))) fun x40 =>
 IfP x40
 (p51z23 P K x2 s4 minus5 i7 i7 L1 h)
 (p51z23 P K x2 s4 minus5 slash6 i7 L1 h))
 (p51z24 P K x2 s4 minus5 slash6 h)) := (CutP_def _ _ _ _).trans (by kernel_rfl)
theorem q51z43 (x2 minus5 n8 d10 x82 x89 : Value) (h : Heap) : p51z43 P K x2 minus5 n8 d10 x82 x89 h =
 (OP (iPick x82 (.bool true) x89) fun x90 =>
 IfP x90
 (OP (iBuild [(.bool false), (.slice none 0 0), (.bool false), (.slice none 0 0)] []) fun x91 =>
 OH (oStore 4 h x2 x91) fun _ h_1 =>
 OP (iLoad true 4 h_1 x2) fun r0 =>
 K (.tuple #[r0, (.bool false)]) h_1)
 (IfP minus5
 (OP (iLoad true 2 h n8) fun x93 =>
 CallP P 92 [x93] h fun x94 h_1 =>
 OH (oStore 2 h_1 n8 x94) fun _ h_2 =>
 p51z47 P K x2 n8 d10 h_2)
 (p51z47 P K x2 n8 d10 h))) := (CutP_def _ _ _ _).trans (by kernel_rfl)
theorem q51z41 (x2 minus5 n8 d10 x82 x84 x88 : Value) (h : Heap) : p51z41 P K x2 minus5 n8 d10 x82 x84 x88 h =
 (GdP x82 false
 (OP (iPick x84 x88 (.bool false)) fun x89 =>
 p51z43 P K x2 minus5 n8 d10 x82 x89 h)
 (p51z43 P K x2 minus5 n8 d10 x82 undef h)) := (CutP_def _ _ _ _).trans (by kernel_rfl)
theorem q51z39 (x2 minus5 n8 d10 x82 x84 : Value) (h : Heap) : p51z39 P K x2 minus5 n8 d10 x82 x84 h =
 (GdP x84 true
 (OP (iFadr 1 n8) fun x85 =>
 OP (iLoad false 1 h x85) fun x86 =>
 OP (iLenSl x86) fun x87 =>
 OP (iBin .eql x87 (.int .i64 (0))) fun x88 =>
 p51z41 P K x2 minus5 n8 d10 x82 x84 x88 h)
 (p51z41 P K x2 minus5 n8 d10 x82 x84 undef h)) := (CutP_def _ _ _ _).trans (by kernel_rfl)
theorem q51z37 (x2 minus5 n8 d10 x82 : Value) (h : Heap) : p51z37 P K x2 minus5 n8 d10 x82 h =
 (GdP x82 false
 (p51z39 P K x2 minus5 n8 d10 x82 minus5 h)
 (p51z39 P K x2 minus5 n8 d10 x82 undef h)) := (CutP_def _ _ _ _).trans (by kernel_rfl)
theorem q51z47 (x2 n8 d10 : Value) (h : Heap) : p51z47 P K x2 n8 d10 h =
 (OP (iLoad true 2 h n8) fun x95 =>
 OP (iLoad true 2 h d10) fun x96 =>
 OP (iBuild [(.bool false), (.slice none 0 0), (.bool false), (.slice none 0 0)] [(0, 2, x95), (2, 2, x96)]) fun x97 =>
 OH (oStore 4 h x2 x97) fun _ h_1 =>
 OP (iLoad true 4 h_1 x2) fun r0 =>
 K (.tuple #[r0, (.bool true)]) h_1) := (CutP_def _ _ _ _).trans (by kernel_rfl)
theorem q51z33 (x2 minus5 n8 ok9 d10 : Value) (h : Heap) : p51z33 P K x2 minus5 n8 ok9 d10 h =
 (OP (iUn .not ok9) fun x81 =>
 p51z37 P K x2 minus5 n8 d10 x81 h) := (CutP_def _ _ _ _).trans (by kernel_rfl)
theorem q51z24 (x2 s4 minus5 slash6 : Value) (h : Heap) : p51z24 P K x2 s4 minus5 slash6 h =
 (OP (iSlS s4 none (some slash6)) fun x45 =>
 CallP P 90 [x45] h fun x46 h_1 =>
 OP (iExt 0 x46) fun x47 =>
 OP (iExt 1 x46) fun x48 =>
 OH (iAlloc 36 [(.bool false), (.slice none 0 0)] h_1) fun n8 h_2 =>
 OH (oStore 2 h_2 n8 x47) fun _ h_3 =>
 CallP P 22 [(.int .i64 (1))] h_3 fun x49 h_4 =>
 OH (iAlloc 36 [(.bool false), (.slice none 0 0)] h_4) fun d10 h_5 =>
 OH (oStore 2 h_5 d10 x49) fun _ h_6 =>
 OP (iLenS s4) fun x52 =>
 OP (iBin .lss slash6 x52) fun x53 =>
 IfP x53
 (OP (iBin .add slash6 (.int .i64 (1))) fun x57 =>
 OP (iSlS s4 (some x57) none) fun x58 =>
 CallP P 90 [x58] h_6 fun x59 h_7 =>
 OP (iExt 0 x59) fun x60 =>
 OP (iExt 1 x59) fun x61 =>
 OH (iAlloc 36 [(.bool false), (.slice none 0 0)] h_7) fun den11 h_8 =>
 OH (oStore 2 h_8 den11 x60) fun _ h_9 =>
 OP (iUn .not x61) fun x63 =>
 GdP x63 false
 (OP (iLoad true 2 h_9 den11) fun x65 =>
 (True) ∧
 CallP P 22 [(.int .i64 (2))] h_9 fun x66 h_10 =>
 (iLoad true 2 h_10 den11 = some x65 ∧ True) ∧
 CallP P 52 [x65, x66] h_10 fun x67 h_11 =>
 (True) ∧
 OP (iBin .lss x67 (.int .i64 (0))) fun x68 =>
 OP (iPick x63 (.bool true) x68) fun x69 =>
 GdP x69 false
 (OP (iLoad true 2 h_11 n8) fun x71 =>
 (True) ∧
 OP (iLoad true 2 h_11 den11) fun x72 =>
 (True) ∧
 CallP P 91 [x71, x72] h_11 fun x73 h_12 =>
 (True) ∧
 CallP P 22 [(.int .i64 (1))] h_12 fun x74 h_13 =>
 (True) ∧
 CallP P 52 [x73, x74] h_13 fun x75 h_14 =>
 (True) ∧
 OP (iBin .neq x75 (.int .i64 (0))) fun x76 =>
 OP (iPick x69 (.bool true) x76) fun x77 =>
 IfP x77
 (OP (iBuild [(.bool false), (.slice none 0 0), (.bool false), (.slice none 0 0)] []) fun x78 =>
 OH (oStore 4 h_14 x2 x78) fun _ h_15 =>
 OP (iLoad true 4 h_15 x2) fun r0 =>
 K (.tuple #[r0, (.bool false)]) h_15)
 (OP (iLoad true 2 h_14 den11) fun x79 =>
 OH (oStore 2 h_14 d10 x79) fun _ h_15 =>
 p51z33 P K x2 minus5 n8 x48 d10 h_15))
 ((True) ∧
 (True) ∧
 (True) ∧
 OP (iPick x69 (.bool true) undef) fun x77 =>
 IfP x77
 (OP (iBuild [(.bool false), (.slice none 0 0), (.bool false), (.slice none 0 0)] []) fun x78 =>
 OH (oStore 4 h_11 x2 x78) fun _ h_12 =>
 OP (iLoad true 4 h_12 x2) fun r0 =>
 K (.tuple #[r0, (.bool false)]) h_12)
 (OP (iLoad true 2 h_11 den11) fun x79 =>
 OH (oStore 2 h_11 d10 x79) fun _ h_12 =>
 p51z33 P K x2 minus5 n8 x48 d10 h_12)))
 ((True) ∧
 (True) ∧
 OP (iPick x63 (.bool true) undef) fun x69 =>
 GdP x69 false
 (OP (iLoad true 2 h_9 n8) fun x71 =>
 (True) ∧
 OP (iLoad true 2 h_9 den11) fun x72 =>
 (True) ∧
 CallP P 91 [x71, x72] h_9 fun x73 h_10 =>
 (True) ∧
 CallP P 22 [(.int .i64 (1))] h_10 fun x74 h_11 =>
 (True) ∧
 CallP P 52 [x73, x74] h_11 fun x75 h_12 =>
 (True) ∧
 OP (iBin .neq x75 (.int .i64 (0))) fun x76 =>
 OP (iPick x69 (.bool true) x76) fun x77 =>
 IfP x77
 (OP (iBuild [(.bool false), (.slice none 0 0), (.bool false), (.slice none 0 0)] []) fun x78 =>
 OH (oStore 4 h_12 x2 x78) fun _ h_13 =>
 OP (iLoad true 4 h_13 x2) fun r0 =>
 K (.tuple #[r0, (.bool false)]) h_13)
 (OP (iLoad true 2 h_12 den11) fun x79 =>
 OH (oStore 2 h_12 d10 x79) fun _ h_13 =>
 p51z33 P K x2 minus5 n8 x48 d10 h_13))
 ((True) ∧
 (True) ∧
 (True) ∧
 OP (iPick x69 (.bool true) undef) fun x77 =>
 IfP x77
 (OP (iBuild [(.bool false), (.slice none 0 0), (.bool false), (.slice none 0 0)] []) fun x78 =>
 OH (oStore 4 h_9 x2 x78) fun _ h_10 =>
 OP (iLoad true 4 h_10 x2) fun r0 =>
 K (.tuple #[r0, (.bool false)]) h_10)
 (OP (iLoad true 2 h_9 den11) fun x79 =>
 OH (oStore 2 h_9 d10 x79) fun _ h_10 =>
 p51z33 P K x2 minus5 n8 x48 d10 h_10))))
 (p51z33 P K x2 minus5 n8 x48 d10 h_6)) := (CutP_def _ _ _ _).trans (by kernel_rfl)
theorem q51z12 (x2 s4 minus5 : Value) (h : Heap) : p51z12 P K x2 s4 minus5 h =
 (OP (iLenS s4) fun x29 =>
 OP (iLenS s4) fun x31 =>
 OP (iBin .sub x31 (.int .i64 (1))) fun x32 =>
 LoopP [x29, x32] h fun L1 xs hx =>
 p51z17 P K x2 s4 minus5 L1 xs hx) := (CutP_def _ _ _ _).trans (by kernel_rfl)
def T51 (x0 : Value) (h : Heap) : Prop :=
 OH (iAlloc 38 [(.bool false), (.slice none 0 0), (.bool false), (.slice none 0 0)] h) fun x2 h_1 =>
 OP (iLenS x0) fun x15 =>
 OP (iBin .gtr x15 (.int .i64 (8002))) fun x16 =>
 IfP x16
 (OP (iBuild [(.bool false), (.slice none 0 0), (.bool false), (.slice none 0 0)] []) fun x17 =>
 OH (oStore 4 h_1 x2 x17) fun _ h_2 =>
 OP (iLoad true 4 h_2 x2) fun r0 =>
 K (.tuple #[r0, (.bool false)]) h_2)
 (OP (iLenS x0) fun x19 =>
 OP (iBin .gtr x19 (.int .i64 (0))) fun x20 =>
 p51z9 P K x2 x0 (.bool false) x20 h_1)
theorem e51 (x0 : Value) (h : Heap) : iwpP P c51 (bodyP [.cell true 4 2, .tmp 3] K) (frame0 [x0]) h = T51 P K x0 h := by kernel_rfl
theorem f51 {K : VK} {x0 : Value} {h : Heap} (H : T51 Tryz.prog K x0 h) : CallP Tryz.prog 51 [x0] h K :=
 callP_intro k51 (Nat.le_of_ble_eq_true rfl) ((e51 Tryz.prog K x0 h).mpr H)
/-! F52: pommel/pommelref01.Cmp -/
noncomputable def oc52 := compFn Tryz.prog 52 [[], []]
@[irreducible] noncomputable def c52 : ICode := icOf oc52
theorem k52 : oc52 = some (9, c52, [.tmp 4]) := by kernel_rfl
def T52 (a0 b1 : Value) (h : Heap) : Prop :=
 OH (iBox 36 h a0) fun a2 h_1 =>
 OH (iBox 36 h_1 b1) fun b3 h_2 =>
 OP (iLoad true 2 h_2 a2) fun x5 =>
 OP (iLoad true 2 h_2 b3) fun x6 =>
 CallP P 94 [x5, x6] h_2 fun x7 h_3 =>
 CallP P 93 [x7] h_3 fun x8 h_4 =>
 K x8 h_4
theorem e52 (a0 b1 : Value) (h : Heap) : iwpP P c52 (bodyP [.tmp 4] K) (frame0 [a0, b1]) h = T52 P K a0 b1 h := by kernel_rfl
theorem f52 {K : VK} {a0 b1 : Value} {h : Heap} (H : T52 Tryz.prog K a0 b1 h) : CallP Tryz.prog 52 [a0, b1] h K :=
 callP_intro k52 (Nat.le_of_ble_eq_true rfl) ((e52 Tryz.prog K a0 b1 h).mpr H)
/-! F53: pommel/pommelref01.Mul -/
noncomputable def oc53 := compFn Tryz.prog 53 [[], [], [], [2, 3, 4, 5], [6], [], [], [], [], [2, 3, 4, 5, 6], [7, 8], [2, 3, 4, 5, 6, 7, 8, 31], [2, 3, 4, 5, 6, 7, 8, 31, 33], [], [], [], [], [2, 3, 4, 5, 6, 8, 9], [2, 3, 4, 5, 6, 7, 8], [2, 3, 4, 5, 6], [2, 3, 4, 5], []]
@[irreducible] noncomputable def c53 : ICode := icOf oc53
@[irreducible] noncomputable def c53z6 : ICode := c53.r.r.l.r.l.l
@[irreducible] noncomputable def c53z3 : ICode := c53.r.r.r
@[irreducible] noncomputable def c53z14 : ICode := c53z6.r.l.l.r.r.l.l
@[irreducible] noncomputable def c53z9 : ICode := c53z6.r.r
@[irreducible] noncomputable def c53z29 : ICode := c53z3.l
@[irreducible] noncomputable def c53z18 : ICode := c53z14.l.l.r.l
@[irreducible] noncomputable def c53z16 : ICode := c53z14.l.r
@[irreducible] noncomputable def c53z15 : ICode := c53z14.r
@[irreducible] noncomputable def c53z28 : ICode := c53z9.l
@[irreducible] noncomputable def c53z20 : ICode := c53z18.r.l
@[irreducible] noncomputable def c53z26 : ICode := c53z15.l.l.r.r.l
@[irreducible] noncomputable def c53z21 : ICode := c53z15.r
@[irreducible] noncomputable def c53z27 : ICode := c53z21.l
theorem k53 : oc53 = some (80, c53, [.cell true 2 4]) := by kernel_rfl
def K53z0 (_P : Program) (K : VK) : Kont := bodyP [.cell true 2 4] K
def K53z3 : Kont := thenK (iwpP P c53z3 (K53z0 P K)) (K53z0 P K)
def K53z5 : Kont := inBlockK 0 (K53z3 P K)
def K53z6 (a2 b3 x4 out5 : Value) (L1 : LK) : Kont := thenK (fun f' h'' => (([2, 3, 4, 5] : List Nat).map f' : List Value) = [a2, b3, x4, out5] ∧ L1 (([6] : List Nat).map f') h'') (K53z5 P K)
def K53z9 (a2 b3 x4 out5 : Value) (L1 : LK) : Kont := thenK (iwpP P c53z9 (K53z6 P K a2 b3 x4 out5 L1)) (K53z6 P K a2 b3 x4 out5 L1)
def K53z10 (a2 b3 x4 out5 : Value) (L1 : LK) : Kont := inBlockK 1 (K53z9 P K a2 b3 x4 out5 L1)
def K53z13 (a2 b3 x4 out5 : Value) (L1 : LK) : Kont := inBlockK 2 (K53z10 P K a2 b3 x4 out5 L1)
def K53z14 (a2 b3 x4 out5 i6 : Value) (L1 L2 : LK) : Kont := thenK (fun f' h'' => (([2, 3, 4, 5, 6] : List Nat).map f' : List Value) = [a2, b3, x4, out5, i6] ∧ L2 (([7, 8] : List Nat).map f') h'') (K53z13 P K a2 b3 x4 out5 L1)
def K53z15 (a2 b3 x4 out5 i6 : Value) (L1 L2 : LK) : Kont := thenK (iwpP P c53z15 (K53z14 P K a2 b3 x4 out5 i6 L1 L2)) (K53z14 P K a2 b3 x4 out5 i6 L1 L2)
def K53z16 (a2 b3 x4 out5 i6 : Value) (L1 L2 : LK) : Kont := thenK (iwpP P c53z16 (K53z15 P K a2 b3 x4 out5 i6 L1 L2)) (K53z15 P K a2 b3 x4 out5 i6 L1 L2)
def K53z21 (a2 b3 x4 out5 i6 : Value) (L1 L2 : LK) : Kont := thenK (iwpP P c53z21 (K53z14 P K a2 b3 x4 out5 i6 L1 L2)) (K53z14 P K a2 b3 x4 out5 i6 L1 L2)
def K53z22 (a2 b3 x4 out5 i6 : Value) (L1 L2 : LK) : Kont := inBlockK 3 (K53z21 P K a2 b3 x4 out5 i6 L1 L2)
def p53z6 (a2 b3 x4 out5 : Value) (L1 : LK) (xs : List Value) (h : Heap) : Prop := CutP (iwpP P c53z6 (K53z6 P K a2 b3 x4 out5 L1)) ([2, 3, 4, 5] ++ [6]) ([a2, b3, x4, out5] ++ xs) h
def p53z14 (a2 b3 x4 out5 i6 : Value) (L1 L2 : LK) (xs : List Value) (h : Heap) : Prop := CutP (iwpP P c53z14 (K53z14 P K a2 b3 x4 out5 i6 L1 L2)) ([2, 3, 4, 5, 6] ++ [7, 8]) ([a2, b3, x4, out5, i6] ++ xs) h
def p53z18 (a2 b3 x4 out5 i6 carry7 k8 x31 : Value) (L1 L2 : LK) (h : Heap) : Prop := CutP (iwpP P c53z18 (K53z16 P K a2 b3 x4 out5 i6 L1 L2)) [2, 3, 4, 5, 6, 7, 8, 31] [a2, b3, x4, out5, i6, carry7, k8, x31] h
def p53z20 (a2 b3 x4 out5 i6 carry7 k8 x31 x33 : Value) (L1 L2 : LK) (h : Heap) : Prop := CutP (iwpP P c53z20 (K53z16 P K a2 b3 x4 out5 i6 L1 L2)) [2, 3, 4, 5, 6, 7, 8, 31, 33] [a2, b3, x4, out5, i6, carry7, k8, x31, x33] h
def p53z26 (a2 b3 x4 out5 i6 k8 s9 : Value) (L1 L2 : LK) (h : Heap) : Prop := CutP (iwpP P c53z26 (K53z22 P K a2 b3 x4 out5 i6 L1 L2)) [2, 3, 4, 5, 6, 8, 9] [a2, b3, x4, out5, i6, k8, s9] h
def p53z27 (a2 b3 x4 out5 i6 carry7 k8 : Value) (L1 L2 : LK) (h : Heap) : Prop := CutP (iwpP P c53z27 (K53z14 P K a2 b3 x4 out5 i6 L1 L2)) [2, 3, 4, 5, 6, 7, 8] [a2, b3, x4, out5, i6, carry7, k8] h
def p53z28 (a2 b3 x4 out5 i6 : Value) (L1 : LK) (h : Heap) : Prop := CutP (iwpP P c53z28 (K53z6 P K a2 b3 x4 out5 L1)) [2, 3, 4, 5, 6] [a2, b3, x4, out5, i6] h
def p53z29 (a2 b3 x4 out5 : Value) (h : Heap) : Prop := CutP (iwpP P c53z29 (K53z0 P K)) [2, 3, 4, 5] [a2, b3, x4, out5] h
theorem q53z20 (a2 b3 x4 out5 i6 carry7 k8 x31 x33 : Value) (L1 L2 : LK) (h : Heap) : p53z20 P K a2 b3 x4 out5 i6 carry7 k8 x31 x33 L1 L2 h =
 (OP (iPick x31 (.bool true) x33) fun x34 =>
 IfP x34
 (OP (iBin .add i6 k8) fun x40 =>
 OP (iAdrSl 1 out5 x40) fun x41 =>
 OP (iLoad false 1 h x41) fun x42 =>
 OP (iBin .add x42 carry7) fun x44 =>
 OP (iFadr 1 b3) fun x46 =>
 OP (iLoad false 1 h x46) fun x47 =>
 OP (iLenSl x47) fun x48 =>
 OP (iBin .lss k8 x48) fun x49 =>
 IfP x49
 (OP (iFadr 1 a2) fun x51 =>
 OP (iLoad false 1 h x51) fun x52 =>
 (True) ∧
 OP (iAdrSl 1 x52 i6) fun x54 =>
 OP (iLoad false 1 h x54) fun x55 =>
 (True) ∧
 OP (iFadr 1 b3) fun x56 =>
 OP (iLoad false 1 h x56) fun x57 =>
 (True) ∧
 OP (iAdrSl 1 x57 k8) fun x59 =>
 OP (iLoad false 1 h x59) fun x60 =>
 (True) ∧
 OP (iBin .mul x55 x60) fun x61 =>
 OP (iBin .add x44 x61) fun x62 =>
 p53z26 P K a2 b3 x4 out5 i6 k8 x62 L1 L2 h)
 (p53z26 P K a2 b3 x4 out5 i6 k8 x44 L1 L2 h))
 (p53z28 P K a2 b3 x4 out5 i6 L1 h)) := (CutP_def _ _ _ _).trans (by kernel_rfl)
theorem q53z18 (a2 b3 x4 out5 i6 carry7 k8 x31 : Value) (L1 L2 : LK) (h : Heap) : p53z18 P K a2 b3 x4 out5 i6 carry7 k8 x31 L1 L2 h =
 (GdP x31 false
 (OP (iBin .gtr carry7 (.int .i64 (0))) fun x33 =>
 p53z20 P K a2 b3 x4 out5 i6 carry7 k8 x31 x33 L1 L2 h)
 (p53z20 P K a2 b3 x4 out5 i6 carry7 k8 x31 undef L1 L2 h)) := (CutP_def _ _ _ _).trans (by kernel_rfl)
theorem q53z26 (a2 b3 x4 out5 i6 k8 s9 : Value) (L1 L2 : LK) (h : Heap) : p53z26 P K a2 b3 x4 out5 i6 k8 s9 L1 L2 h =
 (OP (iBin .add i6 k8) fun x66 =>
 OP (iBin .rem s9 (.int .i64 (10000))) fun x68 =>
 OP (iBin .quo s9 (.int .i64 (10000))) fun x70 =>
 OP (iAdrSl 1 out5 x66) fun x71 =>
 OH (oStore 1 h x71 x68) fun _ h_1 =>
 p53z27 P K a2 b3 x4 out5 i6 x70 k8 L1 L2 h_1) := (CutP_def _ _ _ _).trans (by kernel_rfl)
theorem q53z27 (a2 b3 x4 out5 i6 carry7 k8 : Value) (L1 L2 : LK) (h : Heap) : p53z27 P K a2 b3 x4 out5 i6 carry7 k8 L1 L2 h =
 (OP (iBin .add k8 (.int .i64 (1))) fun x36 =>
 ([a2, b3, x4, out5, i6] : List Value) = [a2, b3, x4, out5, i6] ∧ L2 [carry7, x36] h) := (CutP_def _ _ _ _).trans (by kernel_rfl)
theorem q53z14 (a2 b3 x4 out5 i6 : Value) (L1 L2 : LK) (carry7 k8 : Value) (h : Heap) : p53z14 P K a2 b3 x4 out5 i6 L1 L2 [carry7, k8] h =
 (OP (iFadr 1 b3) fun x27 =>
 OP (iLoad false 1 h x27) fun x28 =>
 OP (iLenSl x28) fun x29 =>
 OP (iBin .lss k8 x29) fun x30 =>
 p53z18 P K a2 b3 x4 out5 i6 carry7 k8 x30 L1 L2 h) := (CutP_def _ _ _ _).trans (by kernel_rfl)
theorem q53z28 (a2 b3 x4 out5 i6 : Value) (L1 : LK) (h : Heap) : p53z28 P K a2 b3 x4 out5 i6 L1 h =
 (OP (iBin .add i6 (.int .i64 (1))) fun x25 =>
 ([a2, b3, x4, out5] : List Value) = [a2, b3, x4, out5] ∧ L1 [x25] h) := (CutP_def _ _ _ _).trans (by kernel_rfl)
theorem q53z6 (a2 b3 x4 out5 : Value) (L1 : LK) (i6 : Value) (h : Heap) : p53z6 P K a2 b3 x4 out5 L1 [i6] h =
 (OP (iFadr 1 a2) fun x20 =>
 OP (iLoad false 1 h x20) fun x21 =>
 OP (iLenSl x21) fun x22 =>
 OP (iBin .lss i6 x22) fun x23 =>
 IfP x23
 (LoopP [(.int .i64 (0)), (.int .i64 (0))] h fun L2 xs hx =>
 p53z14 P K a2 b3 x4 out5 i6 L1 L2 xs hx)
 (p53z29 P K a2 b3 x4 out5 h)) := (CutP_def _ _ _ _).trans (by kernel_rfl)
theorem q53z29 (a2 b3 x4 out5 : Value) (h : Heap) : p53z29 P K a2 b3 x4 out5 h =
 (OP (iFadr 0 a2) fun x72 =>
 OP (iLoad false 1 h x72) fun x73 =>
 OP (iFadr 0 b3) fun x74 =>
 OP (iLoad false 1 h x74) fun x75 =>
 OP (iEqb true x73 x75) fun x76 =>
 OP (iBuild [(.bool false), (.slice none 0 0)] [(0, 1, x76), (1, 1, out5)]) fun x78 =>
 CallP P 95 [x78] h fun x79 h_1 =>
 OH (oStore 2 h_1 x4 x79) fun _ h_2 =>
 OP (iLoad true 2 h_2 x4) fun r0 =>
 K r0 h_2) := (CutP_def _ _ _ _).trans (by kernel_rfl)
def T53 (a0 b1 : Value) (h : Heap) : Prop :=
 OH (iBox 36 h a0) fun a2 h_1 =>
 OH (iBox 36 h_1 b1) fun b3 h_2 =>
 OH (iAlloc 36 [(.bool false), (.slice none 0 0)] h_2) fun x4 h_3 =>
 OP (iFadr 1 a2) fun x10 =>
 OP (iLoad false 1 h_3 x10) fun x11 =>
 OP (iLenSl x11) fun x12 =>
 OP (iFadr 1 b3) fun x13 =>
 OP (iLoad false 1 h_3 x13) fun x14 =>
 OP (iLenSl x14) fun x15 =>
 OP (iBin .add x12 x15) fun x16 =>
 OP (iBin .add x16 (.int .i64 (1))) fun x17 =>
 OH (iMake 3 8 [(.int .i64 (0))] h_3 x17 x17) fun x18 h_4 =>
 LoopP [(.int .i64 (0))] h_4 fun L1 xs hx =>
 p53z6 P K a2 b3 x4 x18 L1 xs hx
theorem e53 (a0 b1 : Value) (h : Heap) : iwpP P c53 (bodyP [.cell true 2 4] K) (frame0 [a0, b1]) h = T53 P K a0 b1 h := by kernel_rfl
theorem f53 {K : VK} {a0 b1 : Value} {h : Heap} (H : T53 Tryz.prog K a0 b1 h) : CallP Tryz.prog 53 [a0, b1] h K :=
 callP_intro k53 (Nat.le_of_ble_eq_true rfl) ((e53 Tryz.prog K a0 b1 h).mpr H)
/-! F62: pommel/pommelref01.Add -/
noncomputable def oc62 := compFn Tryz.prog 62 [[], [], [], [], [], [], [], []]
@[irreducible] noncomputable def c62 : ICode := icOf oc62
theorem k62 : oc62 = some (43, c62, [.cell true 2 4]) := by kernel_rfl
def T62 (a0 b1 : Value) (h : Heap) : Prop :=
 OH (iBox 36 h a0) fun a2 h_1 =>
 OH (iBox 36 h_1 b1) fun b3 h_2 =>
 OH (iAlloc 36 [(.bool false), (.slice none 0 0)] h_2) fun x4 h_3 =>
 OP (iFadr 0 a2) fun x5 =>
 OP (iLoad false 1 h_3 x5) fun x6 =>
 OP (iFadr 0 b3) fun x7 =>
 OP (iLoad false 1 h_3 x7) fun x8 =>
 OP (iEqb false x6 x8) fun x9 =>
 IfP x9
 (OP (iFadr 0 a2) fun x10 =>
 OP (iLoad false 1 h_3 x10) fun x11 =>
 (True) ∧
 OP (iFadr 1 a2) fun x12 =>
 OP (iLoad false 1 h_3 x12) fun x13 =>
 (True) ∧
 OP (iFadr 1 b3) fun x14 =>
 OP (iLoad false 1 h_3 x14) fun x15 =>
 (True) ∧
 CallP P 97 [x13, x15] h_3 fun x16 h_4 =>
 (iLoad false 1 h_4 x10 = some x11 ∧ True) ∧
 OP (iBuild [(.bool false), (.slice none 0 0)] [(0, 1, x11), (1, 1, x16)]) fun x17 =>
 CallP P 95 [x17] h_4 fun x18 h_5 =>
 (True) ∧
 OH (oStore 2 h_5 x4 x18) fun _ h_6 =>
 (True) ∧
 OP (iLoad true 2 h_6 x4) fun r0 =>
 K r0 h_6)
 (OP (iFadr 1 a2) fun x19 =>
 OP (iLoad false 1 h_3 x19) fun x20 =>
 OP (iFadr 1 b3) fun x21 =>
 OP (iLoad false 1 h_3 x21) fun x22 =>
 CallP P 98 [x20, x22] h_3 fun x23 h_4 =>
 OP (iBin .geq x23 (.int .i64 (0))) fun x24 =>
 IfP x24
 (OP (iFadr 0 a2) fun x25 =>
 OP (iLoad false 1 h_4 x25) fun x26 =>
 (True) ∧
 OP (iFadr 1 a2) fun x27 =>
 OP (iLoad false 1 h_4 x27) fun x28 =>
 (True) ∧
 OP (iFadr 1 b3) fun x29 =>
 OP (iLoad false 1 h_4 x29) fun x30 =>
 (True) ∧
 CallP P 99 [x28, x30] h_4 fun x31 h_5 =>
 (iLoad false 1 h_5 x25 = some x26 ∧ True) ∧
 OP (iBuild [(.bool false), (.slice none 0 0)] [(0, 1, x26), (1, 1, x31)]) fun x32 =>
 CallP P 95 [x32] h_5 fun x33 h_6 =>
 (True) ∧
 OH (oStore 2 h_6 x4 x33) fun _ h_7 =>
 (True) ∧
 OP (iLoad true 2 h_7 x4) fun r0 =>
 K r0 h_7)
 (OP (iFadr 0 b3) fun x34 =>
 OP (iLoad false 1 h_4 x34) fun x35 =>
 (True) ∧
 OP (iFadr 1 b3) fun x36 =>
 OP (iLoad false 1 h_4 x36) fun x37 =>
 (True) ∧
 OP (iFadr 1 a2) fun x38 =>
 OP (iLoad false 1 h_4 x38) fun x39 =>
 (True) ∧
 CallP P 99 [x37, x39] h_4 fun x40 h_5 =>
 (iLoad false 1 h_5 x34 = some x35 ∧ True) ∧
 OP (iBuild [(.bool false), (.slice none 0 0)] [(0, 1, x35), (1, 1, x40)]) fun x41 =>
 CallP P 95 [x41] h_5 fun x42 h_6 =>
 (True) ∧
 OH (oStore 2 h_6 x4 x42) fun _ h_7 =>
 (True) ∧
 OP (iLoad true 2 h_7 x4) fun r0 =>
 K r0 h_7))
theorem e62 (a0 b1 : Value) (h : Heap) : iwpP P c62 (bodyP [.cell true 2 4] K) (frame0 [a0, b1]) h = T62 P K a0 b1 h := by kernel_rfl
theorem f62 {K : VK} {a0 b1 : Value} {h : Heap} (H : T62 Tryz.prog K a0 b1 h) : CallP Tryz.prog 62 [a0, b1] h K :=
 callP_intro k62 (Nat.le_of_ble_eq_true rfl) ((e62 Tryz.prog K a0 b1 h).mpr H)
/-! F90: pommel/pommelref01.digits -/
noncomputable def oc90 := compFn Tryz.prog 90 [[], [0, 2, 11], [0, 2, 11, 14], [0, 2, 16], [0, 2, 16, 20], [0, 2, 16, 20, 23], [0, 2, 16, 24], [], [], [], [], [], [0, 2, 4], [5], [], [], [], [], [0, 2, 4, 5], [6, 7], [], [], [0, 2, 4, 5, 6, 7, 46], [0, 2, 4, 5, 6, 7, 46, 50], [], [], [], [], [0, 2, 4, 5, 6], [0, 2, 4, 5], [2, 4], []]
@[irreducible] noncomputable def c90 : ICode := icOf oc90
@[irreducible] noncomputable def c90z5 : ICode := c90.r.l.l.r.l
@[irreducible] noncomputable def c90z3 : ICode := c90.r.l.r
@[irreducible] noncomputable def c90z2 : ICode := c90.r.r
@[irreducible] noncomputable def c90z7 : ICode := c90z5.r.l
@[irreducible] noncomputable def c90z21 : ICode := c90z2.r.l.r.l.l
@[irreducible] noncomputable def c90z18 : ICode := c90z2.r.r
@[irreducible] noncomputable def c90z9 : ICode := c90z7.r.l
@[irreducible] noncomputable def c90z30 : ICode := c90z21.r.l.l.r.l.r.l.l
@[irreducible] noncomputable def c90z27 : ICode := c90z21.r.l.l.r.r
@[irreducible] noncomputable def c90z24 : ICode := c90z21.r.r
@[irreducible] noncomputable def c90z44 : ICode := c90z18.l
@[irreducible] noncomputable def c90z11 : ICode := c90z9.r.l
@[irreducible] noncomputable def c90z38 : ICode := c90z30.r.l.l.l.l.r.l
@[irreducible] noncomputable def c90z36 : ICode := c90z30.r.l.l.l.r
@[irreducible] noncomputable def c90z35 : ICode := c90z30.r.l.l.r
@[irreducible] noncomputable def c90z33 : ICode := c90z30.r.r
@[irreducible] noncomputable def c90z42 : ICode := c90z27.l
@[irreducible] noncomputable def c90z43 : ICode := c90z24.l
@[irreducible] noncomputable def c90z13 : ICode := c90z11.r.l
@[irreducible] noncomputable def c90z40 : ICode := c90z38.r.l
@[irreducible] noncomputable def c90z15 : ICode := c90z13.r.l
theorem k90 : oc90 = some (69, c90, [.cell true 2 2, .tmp 3]) := by kernel_rfl
def K90z0 (_P : Program) (K : VK) : Kont := bodyP [.cell true 2 2, .tmp 3] K
def K90z2 : Kont := thenK (iwpP P c90z2 (K90z0 P K)) (K90z0 P K)
def K90z3 : Kont := thenK (iwpP P c90z3 (K90z2 P K)) (K90z2 P K)
def K90z18 : Kont := thenK (iwpP P c90z18 (K90z0 P K)) (K90z0 P K)
def K90z20 : Kont := inBlockK 0 (K90z18 P K)
def K90z21 (s0 x2 z4 : Value) (L1 : LK) : Kont := thenK (fun f' h'' => (([0, 2, 4] : List Nat).map f' : List Value) = [s0, x2, z4] ∧ L1 (([5] : List Nat).map f') h'') (K90z20 P K)
def K90z24 (s0 x2 z4 : Value) (L1 : LK) : Kont := thenK (iwpP P c90z24 (K90z21 P K s0 x2 z4 L1)) (K90z21 P K s0 x2 z4 L1)
def K90z25 (s0 x2 z4 : Value) (L1 : LK) : Kont := inBlockK 1 (K90z24 P K s0 x2 z4 L1)
def K90z27 (s0 x2 z4 : Value) (L1 : LK) : Kont := thenK (iwpP P c90z27 (K90z25 P K s0 x2 z4 L1)) (K90z25 P K s0 x2 z4 L1)
def K90z29 (s0 x2 z4 : Value) (L1 : LK) : Kont := inBlockK 2 (K90z27 P K s0 x2 z4 L1)
def K90z30 (s0 x2 z4 at5 : Value) (L1 L2 : LK) : Kont := thenK (fun f' h'' => (([0, 2, 4, 5] : List Nat).map f' : List Value) = [s0, x2, z4, at5] ∧ L2 (([6, 7] : List Nat).map f') h'') (K90z29 P K s0 x2 z4 L1)
def K90z33 (s0 x2 z4 at5 : Value) (L1 L2 : LK) : Kont := thenK (iwpP P c90z33 (K90z30 P K s0 x2 z4 at5 L1 L2)) (K90z30 P K s0 x2 z4 at5 L1 L2)
def K90z34 (s0 x2 z4 at5 : Value) (L1 L2 : LK) : Kont := inBlockK 3 (K90z33 P K s0 x2 z4 at5 L1 L2)
def K90z35 (s0 x2 z4 at5 : Value) (L1 L2 : LK) : Kont := thenK (iwpP P c90z35 (K90z34 P K s0 x2 z4 at5 L1 L2)) (K90z34 P K s0 x2 z4 at5 L1 L2)
def K90z36 (s0 x2 z4 at5 : Value) (L1 L2 : LK) : Kont := thenK (iwpP P c90z36 (K90z35 P K s0 x2 z4 at5 L1 L2)) (K90z35 P K s0 x2 z4 at5 L1 L2)
def p90z5 (s0 x2 x11 : Value) (h : Heap) : Prop := CutP (iwpP P c90z5 (K90z3 P K)) [0, 2, 11] [s0, x2, x11] h
def p90z7 (s0 x2 x11 x14 : Value) (h : Heap) : Prop := CutP (iwpP P c90z7 (K90z3 P K)) [0, 2, 11, 14] [s0, x2, x11, x14] h
def p90z9 (s0 x2 x16 : Value) (h : Heap) : Prop := CutP (iwpP P c90z9 (K90z3 P K)) [0, 2, 16] [s0, x2, x16] h
def p90z11 (s0 x2 x16 x20 : Value) (h : Heap) : Prop := CutP (iwpP P c90z11 (K90z3 P K)) [0, 2, 16, 20] [s0, x2, x16, x20] h
def p90z13 (s0 x2 x16 x20 x23 : Value) (h : Heap) : Prop := CutP (iwpP P c90z13 (K90z3 P K)) [0, 2, 16, 20, 23] [s0, x2, x16, x20, x23] h
def p90z15 (s0 x2 x16 x24 : Value) (h : Heap) : Prop := CutP (iwpP P c90z15 (K90z3 P K)) [0, 2, 16, 24] [s0, x2, x16, x24] h
def p90z21 (s0 x2 z4 : Value) (L1 : LK) (xs : List Value) (h : Heap) : Prop := CutP (iwpP P c90z21 (K90z21 P K s0 x2 z4 L1)) ([0, 2, 4] ++ [5]) ([s0, x2, z4] ++ xs) h
def p90z30 (s0 x2 z4 at5 : Value) (L1 L2 : LK) (xs : List Value) (h : Heap) : Prop := CutP (iwpP P c90z30 (K90z30 P K s0 x2 z4 at5 L1 L2)) ([0, 2, 4, 5] ++ [6, 7]) ([s0, x2, z4, at5] ++ xs) h
def p90z38 (s0 x2 z4 at5 d6 i7 x46 : Value) (L1 L2 : LK) (h : Heap) : Prop := CutP (iwpP P c90z38 (K90z36 P K s0 x2 z4 at5 L1 L2)) [0, 2, 4, 5, 6, 7, 46] [s0, x2, z4, at5, d6, i7, x46] h
def p90z40 (s0 x2 z4 at5 d6 i7 x46 x50 : Value) (L1 L2 : LK) (h : Heap) : Prop := CutP (iwpP P c90z40 (K90z36 P K s0 x2 z4 at5 L1 L2)) [0, 2, 4, 5, 6, 7, 46, 50] [s0, x2, z4, at5, d6, i7, x46, x50] h
def p90z42 (s0 x2 z4 at5 d6 : Value) (L1 : LK) (h : Heap) : Prop := CutP (iwpP P c90z42 (K90z25 P K s0 x2 z4 L1)) [0, 2, 4, 5, 6] [s0, x2, z4, at5, d6] h
def p90z43 (s0 x2 z4 at5 : Value) (L1 : LK) (h : Heap) : Prop := CutP (iwpP P c90z43 (K90z21 P K s0 x2 z4 L1)) [0, 2, 4, 5] [s0, x2, z4, at5] h
def p90z44 (x2 z4 : Value) (h : Heap) : Prop := CutP (iwpP P c90z44 (K90z0 P K)) [2, 4] [x2, z4] h
theorem q90z15 (s0 x2 x16 x24 : Value) (h : Heap) : p90z15 P K s0 x2 x16 x24 h =
 (OP (iPick x16 (.bool true) x24) fun x25 =>
 IfP x25
 (OP (iBuild [(.bool false), (.slice none 0 0)] []) fun x26 =>
 OH (oStore 2 h x2 x26) fun _ h_1 =>
 OP (iLoad true 2 h_1 x2) fun r0 =>
 K (.tuple #[r0, (.bool false)]) h_1)
 (OP (iBuild [(.bool false), (.slice none 0 0)] []) fun x27 =>
 OH (iAlloc 36 [(.bool false), (.slice none 0 0)] h) fun z4 h_1 =>
 OH (oStore 2 h_1 z4 x27) fun _ h_2 =>
 OP (iLenS s0) fun x29 =>
 LoopP [x29] h_2 fun L1 xs hx =>
 p90z21 P K s0 x2 z4 L1 xs hx)) := (CutP_def _ _ _ _).trans (by kernel_rfl)
theorem q90z13 (s0 x2 x16 x20 x23 : Value) (h : Heap) : p90z13 P K s0 x2 x16 x20 x23 h =
 (GdP x16 false
 (OP (iPick x20 x23 (.bool false)) fun x24 =>
 p90z15 P K s0 x2 x16 x24 h)
 (p90z15 P K s0 x2 x16 undef h)) := (CutP_def _ _ _ _).trans (by kernel_rfl)
theorem q90z11 (s0 x2 x16 x20 : Value) (h : Heap) : p90z11 P K s0 x2 x16 x20 h =
 (GdP x20 true
 (OP (iLenS s0) fun x22 =>
 OP (iBin .gtr x22 (.int .i64 (1))) fun x23 =>
 p90z13 P K s0 x2 x16 x20 x23 h)
 (p90z13 P K s0 x2 x16 x20 undef h)) := (CutP_def _ _ _ _).trans (by kernel_rfl)
theorem q90z9 (s0 x2 x16 : Value) (h : Heap) : p90z9 P K s0 x2 x16 h =
 (GdP x16 false
 (OP (iIdxS s0 (.int .i64 (0))) fun x18 =>
 OP (iBin .eql x18 (.int .u8 (48))) fun x19 =>
 p90z11 P K s0 x2 x16 x19 h)
 (p90z11 P K s0 x2 x16 undef h)) := (CutP_def _ _ _ _).trans (by kernel_rfl)
theorem q90z7 (s0 x2 x11 x14 : Value) (h : Heap) : p90z7 P K s0 x2 x11 x14 h =
 (OP (iPick x11 (.bool true) x14) fun x15 =>
 p90z9 P K s0 x2 x15 h) := (CutP_def _ _ _ _).trans (by kernel_rfl)
theorem q90z5 (s0 x2 x11 : Value) (h : Heap) : p90z5 P K s0 x2 x11 h =
 (GdP x11 false
 (OP (iLenS s0) fun x13 =>
 OP (iBin .gtr x13 (.int .i64 (4000))) fun x14 =>
 p90z7 P K s0 x2 x11 x14 h)
 (p90z7 P K s0 x2 x11 undef h)) := (CutP_def _ _ _ _).trans (by kernel_rfl)
theorem q90z40 (s0 x2 z4 at5 d6 i7 x46 x50 : Value) (L1 L2 : LK) (h : Heap) : p90z40 P K s0 x2 z4 at5 d6 i7 x46 x50 L1 L2 h =
 (OP (iPick x46 (.bool true) x50) fun x51 =>
 IfP x51
 (OP (iBuild [(.bool false), (.slice none 0 0)] []) fun x52 =>
 OH (oStore 2 h x2 x52) fun _ h_1 =>
 OP (iLoad true 2 h_1 x2) fun r0 =>
 K (.tuple #[r0, (.bool false)]) h_1)
 (OP (iBin .mul (.int .i64 (10)) d6) fun x54 =>
 OP (iIdxS s0 i7) fun x57 =>
 OP (iBin .sub x57 (.int .u8 (48))) fun x58 =>
 OP (iConv .i64 x58) fun x59 =>
 OP (iBin .add x54 x59) fun x60 =>
 OP (iBin .add i7 (.int .i64 (1))) fun x41 =>
 ([s0, x2, z4, at5] : List Value) = [s0, x2, z4, at5] ∧ L2 [x60, x41] h)) := (CutP_def _ _ _ _).trans (by kernel_rfl)
theorem q90z38 (s0 x2 z4 at5 d6 i7 x46 : Value) (L1 L2 : LK) (h : Heap) : p90z38 P K s0 x2 z4 at5 d6 i7 x46 L1 L2 h =
 (GdP x46 false
 (OP (iIdxS s0 i7) fun x49 =>
 OP (iBin .gtr x49 (.int .u8 (57))) fun x50 =>
 p90z40 P K s0 x2 z4 at5 d6 i7 x46 x50 L1 L2 h)
 (p90z40 P K s0 x2 z4 at5 d6 i7 x46 undef L1 L2 h)) := (CutP_def _ _ _ _).trans (by kernel_rfl)
theorem q90z30 (s0 x2 z4 at5 : Value) (L1 L2 : LK) (d6 i7 : Value) (h : Heap) : p90z30 P K s0 x2 z4 at5 L1 L2 [d6, i7] h =
 (OP (iBin .lss i7 at5) fun x39 =>
 IfP x39
 (OP (iIdxS s0 i7) fun x44 =>
 OP (iBin .lss x44 (.int .u8 (48))) fun x45 =>
 p90z38 P K s0 x2 z4 at5 d6 i7 x45 L1 L2 h)
 (p90z42 P K s0 x2 z4 at5 d6 L1 h)) := (CutP_def _ _ _ _).trans (by kernel_rfl)
theorem q90z42 (s0 x2 z4 at5 d6 : Value) (L1 : LK) (h : Heap) : p90z42 P K s0 x2 z4 at5 d6 L1 h =
 (OP (iFadr 1 z4) fun x61 =>
 OP (iLoad false 1 h x61) fun x62 =>
 OH (iMkSl 3 1 [(.int .i64 (0))] h [(0, 1, d6)]) fun x64 h_1 =>
 OH (iApp 3 1 8 h_1 x62 x64) fun x65 h_2 =>
 OP (iFadr 1 z4) fun x66 =>
 OH (oStore 1 h_2 x66 x65) fun _ h_3 =>
 p90z43 P K s0 x2 z4 at5 L1 h_3) := (CutP_def _ _ _ _).trans (by kernel_rfl)
theorem q90z43 (s0 x2 z4 at5 : Value) (L1 : LK) (h : Heap) : p90z43 P K s0 x2 z4 at5 L1 h =
 (OP (iBin .sub at5 (.int .i64 (4))) fun x33 =>
 ([s0, x2, z4] : List Value) = [s0, x2, z4] ∧ L1 [x33] h) := (CutP_def _ _ _ _).trans (by kernel_rfl)
theorem q90z21 (s0 x2 z4 : Value) (L1 : LK) (at5 : Value) (h : Heap) : p90z21 P K s0 x2 z4 L1 [at5] h =
 (OP (iBin .gtr at5 (.int .i64 (0))) fun x31 =>
 IfP x31
 (OP (iBin .sub at5 (.int .i64 (4))) fun x35 =>
 OP (iMinmax true [(.int .i64 (0)), x35]) fun x36 =>
 LoopP [(.int .i64 (0)), x36] h fun L2 xs hx =>
 p90z30 P K s0 x2 z4 at5 L1 L2 xs hx)
 (p90z44 P K x2 z4 h)) := (CutP_def _ _ _ _).trans (by kernel_rfl)
theorem q90z44 (x2 z4 : Value) (h : Heap) : p90z44 P K x2 z4 h =
 (OP (iLoad true 2 h z4) fun x67 =>
 CallP P 95 [x67] h fun x68 h_1 =>
 OH (oStore 2 h_1 x2 x68) fun _ h_2 =>
 OP (iLoad true 2 h_2 x2) fun r0 =>
 K (.tuple #[r0, (.bool true)]) h_2) := (CutP_def _ _ _ _).trans (by kernel_rfl)
def T90 (s0 : Value) (h : Heap) : Prop :=
 OH (iAlloc 36 [(.bool false), (.slice none 0 0)] h) fun x2 h_1 =>
 OP (iLenS s0) fun x9 =>
 OP (iBin .lss x9 (.int .i64 (1))) fun x10 =>
 p90z5 P K s0 x2 x10 h_1
theorem e90 (s0 : Value) (h : Heap) : iwpP P c90 (bodyP [.cell true 2 2, .tmp 3] K) (frame0 [s0]) h = T90 P K s0 h := by kernel_rfl
theorem f90 {K : VK} {s0 : Value} {h : Heap} (H : T90 Tryz.prog K s0 h) : CallP Tryz.prog 90 [s0] h K :=
 callP_intro k90 (Nat.le_of_ble_eq_true rfl) ((e90 Tryz.prog K s0 h).mpr H)
/-! F92: pommel/pommelref01.Neg -/
noncomputable def oc92 := compFn Tryz.prog 92 [[], [1, 2, 6], [1, 2, 6, 10], [], []]
@[irreducible] noncomputable def c92 : ICode := icOf oc92
@[irreducible] noncomputable def c92z4 : ICode := c92.r.l.r.l
@[irreducible] noncomputable def c92z2 : ICode := c92.r.r
@[irreducible] noncomputable def c92z6 : ICode := c92z4.r.l
theorem k92 : oc92 = some (14, c92, [.cell true 2 2]) := by kernel_rfl
def K92z0 (_P : Program) (K : VK) : Kont := bodyP [.cell true 2 2] K
def K92z2 : Kont := thenK (iwpP P c92z2 (K92z0 P K)) (K92z0 P K)
def p92z4 (a1 x2 x6 : Value) (h : Heap) : Prop := CutP (iwpP P c92z4 (K92z2 P K)) [1, 2, 6] [a1, x2, x6] h
def p92z6 (a1 x2 x6 x10 : Value) (h : Heap) : Prop := CutP (iwpP P c92z6 (K92z2 P K)) [1, 2, 6, 10] [a1, x2, x6, x10] h
theorem q92z6 (a1 x2 x6 x10 : Value) (h : Heap) : p92z6 P K a1 x2 x6 x10 h =
 (OP (iPick x6 x10 (.bool false)) fun x11 =>
 OP (iFadr 0 a1) fun x12 =>
 OH (oStore 1 h x12 x11) fun _ h_1 =>
 OP (iLoad true 2 h_1 a1) fun x13 =>
 OH (oStore 2 h_1 x2 x13) fun _ h_2 =>
 OP (iLoad true 2 h_2 x2) fun r0 =>
 K r0 h_2) := (CutP_def _ _ _ _).trans (by kernel_rfl)
theorem q92z4 (a1 x2 x6 : Value) (h : Heap) : p92z4 P K a1 x2 x6 h =
 (GdP x6 true
 (OP (iFadr 1 a1) fun x7 =>
 OP (iLoad false 1 h x7) fun x8 =>
 OP (iLenSl x8) fun x9 =>
 OP (iBin .gtr x9 (.int .i64 (0))) fun x10 =>
 p92z6 P K a1 x2 x6 x10 h)
 (p92z6 P K a1 x2 x6 undef h)) := (CutP_def _ _ _ _).trans (by kernel_rfl)
def T92 (a0 : Value) (h : Heap) : Prop :=
 OH (iBox 36 h a0) fun a1 h_1 =>
 OH (iAlloc 36 [(.bool false), (.slice none 0 0)] h_1) fun x2 h_2 =>
 OP (iFadr 0 a1) fun x3 =>
 OP (iLoad false 1 h_2 x3) fun x4 =>
 OP (iUn .not x4) fun x5 =>
 p92z4 P K a1 x2 x5 h_2
theorem e92 (a0 : Value) (h : Heap) : iwpP P c92 (bodyP [.cell true 2 2] K) (frame0 [a0]) h = T92 P K a0 h := by kernel_rfl
theorem f92 {K : VK} {a0 : Value} {h : Heap} (H : T92 Tryz.prog K a0 h) : CallP Tryz.prog 92 [a0] h K :=
 callP_intro k92 (Nat.le_of_ble_eq_true rfl) ((e92 Tryz.prog K a0 h).mpr H)
/-! F93: pommel/pommelref01.Sign -/
noncomputable def oc93 := compFn Tryz.prog 93 [[], [], [], [], [], [], [], []]
@[irreducible] noncomputable def c93 : ICode := icOf oc93
theorem k93 : oc93 = some (9, c93, [.tmp 2]) := by kernel_rfl
def T93 (P : Program) (K : VK) (a0 : Value) (h : Heap) : Prop :=
 OH (iBox 36 h a0) fun a1 h_1 =>
 OP (iFadr 1 a1) fun x3 =>
 OP (iLoad false 1 h_1 x3) fun x4 =>
 OP (iLenSl x4) fun x5 =>
 OP (iBin .eql x5 (.int .i64 (0))) fun x6 =>
 IfP x6
 (K (.int .i64 (0)) h_1)
 (OP (iFadr 0 a1) fun x7 =>
 OP (iLoad false 1 h_1 x7) fun x8 =>
 IfP x8
 (K (.int .i64 (-1)) h_1)
 (K (.int .i64 (1)) h_1))
theorem e93 (a0 : Value) (h : Heap) : iwpP P c93 (bodyP [.tmp 2] K) (frame0 [a0]) h = T93 P K a0 h := by kernel_rfl
theorem f93 {K : VK} {a0 : Value} {h : Heap} (H : T93 Tryz.prog K a0 h) : CallP Tryz.prog 93 [a0] h K :=
 callP_intro k93 (Nat.le_of_ble_eq_true rfl) ((e93 Tryz.prog K a0 h).mpr H)
/-! F94: pommel/pommelref01.Sub -/
noncomputable def oc94 := compFn Tryz.prog 94 [[], []]
@[irreducible] noncomputable def c94 : ICode := icOf oc94
theorem k94 : oc94 = some (9, c94, [.cell true 2 4]) := by kernel_rfl
def T94 (a0 b1 : Value) (h : Heap) : Prop :=
 OH (iBox 36 h a0) fun a2 h_1 =>
 OH (iBox 36 h_1 b1) fun b3 h_2 =>
 OH (iAlloc 36 [(.bool false), (.slice none 0 0)] h_2) fun x4 h_3 =>
 OP (iLoad true 2 h_3 a2) fun x5 =>
 (True) ∧
 OP (iLoad true 2 h_3 b3) fun x6 =>
 (True) ∧
 CallP P 92 [x6] h_3 fun x7 h_4 =>
 (iLoad true 2 h_4 a2 = some x5 ∧ True) ∧
 CallP P 62 [x5, x7] h_4 fun x8 h_5 =>
 (True) ∧
 OH (oStore 2 h_5 x4 x8) fun _ h_6 =>
 (True) ∧
 OP (iLoad true 2 h_6 x4) fun r0 =>
 K r0 h_6
theorem e94 (a0 b1 : Value) (h : Heap) : iwpP P c94 (bodyP [.cell true 2 4] K) (frame0 [a0, b1]) h = T94 P K a0 b1 h := by kernel_rfl
theorem f94 {K : VK} {a0 b1 : Value} {h : Heap} (H : T94 Tryz.prog K a0 b1 h) : CallP Tryz.prog 94 [a0, b1] h K :=
 callP_intro k94 (Nat.le_of_ble_eq_true rfl) ((e94 Tryz.prog K a0 b1 h).mpr H)
/-! F95: pommel/pommelref01.lean -/
noncomputable def oc95 := compFn Tryz.prog 95 [[], [], [1, 2], [3], [1, 2, 3, 9], [1, 2, 3, 9, 16], [], [], [1, 2, 3], [], [1, 2, 3, 29], [1, 2, 29, 31], [], []]
@[irreducible] noncomputable def c95 : ICode := icOf oc95
@[irreducible] noncomputable def c95z5 : ICode := c95.r.r.l.l.l
@[irreducible] noncomputable def c95z3 : ICode := c95.r.r.r
@[irreducible] noncomputable def c95z9 : ICode := c95z5.l.l.r.l
@[irreducible] noncomputable def c95z7 : ICode := c95z5.l.r
@[irreducible] noncomputable def c95z6 : ICode := c95z5.r
@[irreducible] noncomputable def c95z13 : ICode := c95z3.l
@[irreducible] noncomputable def c95z11 : ICode := c95z9.r.l
@[irreducible] noncomputable def c95z17 : ICode := c95z13.r.l.r.l
@[irreducible] noncomputable def c95z15 : ICode := c95z13.r.r
@[irreducible] noncomputable def c95z19 : ICode := c95z17.r.l
theorem k95 : oc95 = some (35, c95, [.cell true 2 2]) := by kernel_rfl
def K95z0 (_P : Program) (K : VK) : Kont := bodyP [.cell true 2 2] K
def K95z3 : Kont := thenK (iwpP P c95z3 (K95z0 P K)) (K95z0 P K)
def K95z4 : Kont := inBlockK 0 (K95z3 P K)
def K95z5 (z1 x2 : Value) (L1 : LK) : Kont := thenK (fun f' h'' => (([1, 2] : List Nat).map f' : List Value) = [z1, x2] ∧ L1 (([3] : List Nat).map f') h'') (K95z4 P K)
def K95z6 (z1 x2 : Value) (L1 : LK) : Kont := thenK (iwpP P c95z6 (K95z5 P K z1 x2 L1)) (K95z5 P K z1 x2 L1)
def K95z7 (z1 x2 : Value) (L1 : LK) : Kont := thenK (iwpP P c95z7 (K95z6 P K z1 x2 L1)) (K95z6 P K z1 x2 L1)
def K95z15 : Kont := thenK (iwpP P c95z15 (K95z0 P K)) (K95z0 P K)
def p95z5 (z1 x2 : Value) (L1 : LK) (xs : List Value) (h : Heap) : Prop := CutP (iwpP P c95z5 (K95z5 P K z1 x2 L1)) ([1, 2] ++ [3]) ([z1, x2] ++ xs) h
def p95z9 (z1 x2 n3 x9 : Value) (L1 : LK) (h : Heap) : Prop := CutP (iwpP P c95z9 (K95z7 P K z1 x2 L1)) [1, 2, 3, 9] [z1, x2, n3, x9] h
def p95z11 (z1 x2 n3 x9 x16 : Value) (L1 : LK) (h : Heap) : Prop := CutP (iwpP P c95z11 (K95z7 P K z1 x2 L1)) [1, 2, 3, 9, 16] [z1, x2, n3, x9, x16] h
def p95z13 (z1 x2 n3 : Value) (h : Heap) : Prop := CutP (iwpP P c95z13 (K95z0 P K)) [1, 2, 3] [z1, x2, n3] h
def p95z17 (z1 x2 n3 x29 : Value) (h : Heap) : Prop := CutP (iwpP P c95z17 (K95z15 P K)) [1, 2, 3, 29] [z1, x2, n3, x29] h
def p95z19 (z1 x2 x29 x31 : Value) (h : Heap) : Prop := CutP (iwpP P c95z19 (K95z15 P K)) [1, 2, 29, 31] [z1, x2, x29, x31] h
theorem q95z11 (z1 x2 n3 x9 x16 : Value) (L1 : LK) (h : Heap) : p95z11 P K z1 x2 n3 x9 x16 L1 h =
 (OP (iPick x9 x16 (.bool false)) fun x17 =>
 IfP x17
 (OP (iBin .sub n3 (.int .i64 (1))) fun x19 =>
 ([z1, x2] : List Value) = [z1, x2] ∧ L1 [x19] h)
 (p95z13 P K z1 x2 n3 h)) := (CutP_def _ _ _ _).trans (by kernel_rfl)
theorem q95z9 (z1 x2 n3 x9 : Value) (L1 : LK) (h : Heap) : p95z9 P K z1 x2 n3 x9 L1 h =
 (GdP x9 true
 (OP (iFadr 1 z1) fun x10 =>
 OP (iLoad false 1 h x10) fun x11 =>
 OP (iBin .sub n3 (.int .i64 (1))) fun x13 =>
 OP (iAdrSl 1 x11 x13) fun x14 =>
 OP (iLoad false 1 h x14) fun x15 =>
 OP (iBin .eql x15 (.int .i64 (0))) fun x16 =>
 p95z11 P K z1 x2 n3 x9 x16 L1 h)
 (p95z11 P K z1 x2 n3 x9 undef L1 h)) := (CutP_def _ _ _ _).trans (by kernel_rfl)
theorem q95z5 (z1 x2 : Value) (L1 : LK) (n3 : Value) (h : Heap) : p95z5 P K z1 x2 L1 [n3] h =
 (OP (iBin .gtr n3 (.int .i64 (0))) fun x8 =>
 p95z9 P K z1 x2 n3 x8 L1 h) := (CutP_def _ _ _ _).trans (by kernel_rfl)
theorem q95z19 (z1 x2 x29 x31 : Value) (h : Heap) : p95z19 P K z1 x2 x29 x31 h =
 (OP (iPick x29 x31 (.bool false)) fun x32 =>
 OP (iFadr 0 z1) fun x33 =>
 OH (oStore 1 h x33 x32) fun _ h_1 =>
 OP (iLoad true 2 h_1 z1) fun x34 =>
 OH (oStore 2 h_1 x2 x34) fun _ h_2 =>
 OP (iLoad true 2 h_2 x2) fun r0 =>
 K r0 h_2) := (CutP_def _ _ _ _).trans (by kernel_rfl)
theorem q95z17 (z1 x2 n3 x29 : Value) (h : Heap) : p95z17 P K z1 x2 n3 x29 h =
 (GdP x29 true
 (OP (iBin .gtr n3 (.int .i64 (0))) fun x31 =>
 p95z19 P K z1 x2 x29 x31 h)
 (p95z19 P K z1 x2 x29 undef h)) := (CutP_def _ _ _ _).trans (by kernel_rfl)
theorem q95z13 (z1 x2 n3 : Value) (h : Heap) : p95z13 P K z1 x2 n3 h =
 (OH (iMkSl 3 0 [(.int .i64 (0))] h []) fun x20 h_1 =>
 OP (iFadr 1 z1) fun x21 =>
 OP (iLoad false 1 h_1 x21) fun x22 =>
 OP (iSlSl 3 1 x22 none (some n3)) fun x24 =>
 OH (iApp 3 1 8 h_1 x20 x24) fun x25 h_2 =>
 OP (iFadr 1 z1) fun x26 =>
 OH (oStore 1 h_2 x26 x25) fun _ h_3 =>
 OP (iFadr 0 z1) fun x27 =>
 OP (iLoad false 1 h_3 x27) fun x28 =>
 p95z17 P K z1 x2 n3 x28 h_3) := (CutP_def _ _ _ _).trans (by kernel_rfl)
def T95 (z0 : Value) (h : Heap) : Prop :=
 OH (iBox 36 h z0) fun z1 h_1 =>
 OH (iAlloc 36 [(.bool false), (.slice none 0 0)] h_1) fun x2 h_2 =>
 OP (iFadr 1 z1) fun x4 =>
 OP (iLoad false 1 h_2 x4) fun x5 =>
 OP (iLenSl x5) fun x6 =>
 LoopP [x6] h_2 fun L1 xs hx =>
 p95z5 P K z1 x2 L1 xs hx
theorem e95 (z0 : Value) (h : Heap) : iwpP P c95 (bodyP [.cell true 2 2] K) (frame0 [z0]) h = T95 P K z0 h := by kernel_rfl
theorem f95 {K : VK} {z0 : Value} {h : Heap} (H : T95 Tryz.prog K z0 h) : CallP Tryz.prog 95 [z0] h K :=
 callP_intro k95 (Nat.le_of_ble_eq_true rfl) ((e95 Tryz.prog K z0 h).mpr H)
/-! F97: pommel/pommelref01.plus -/
noncomputable def oc97 := compFn Tryz.prog 97 [[], [], [], [0, 1], [5, 6, 7], [0, 1, 5, 6, 7, 14], [0, 1, 5, 6, 7, 14, 18], [0, 1, 5, 6, 7, 20], [0, 1, 5, 6, 7, 20, 22], [], [], [], [], [0, 1, 5, 7, 8], [], [0, 1, 5, 7, 8], [0, 1, 5, 6, 7], [5], []]
@[irreducible] noncomputable def c97 : ICode := icOf oc97
@[irreducible] noncomputable def c97z6 : ICode := c97.r.r.l.r.l.l
@[irreducible] noncomputable def c97z3 : ICode := c97.r.r.r
@[irreducible] noncomputable def c97z10 : ICode := c97z6.l.l.r.l
@[irreducible] noncomputable def c97z8 : ICode := c97z6.l.r
@[irreducible] noncomputable def c97z7 : ICode := c97z6.r
@[irreducible] noncomputable def c97z27 : ICode := c97z3.l
@[irreducible] noncomputable def c97z12 : ICode := c97z10.r.l
@[irreducible] noncomputable def c97z22 : ICode := c97z7.l.l.r.r.l
@[irreducible] noncomputable def c97z17 : ICode := c97z7.r
@[irreducible] noncomputable def c97z14 : ICode := c97z12.r.l
@[irreducible] noncomputable def c97z25 : ICode := c97z22.r.l
@[irreducible] noncomputable def c97z26 : ICode := c97z17.l
@[irreducible] noncomputable def c97z16 : ICode := c97z14.r.l
theorem k97 : oc97 = some (55, c97, [.tmp 4]) := by kernel_rfl
def K97z0 (_P : Program) (K : VK) : Kont := bodyP [.tmp 4] K
def K97z3 : Kont := thenK (iwpP P c97z3 (K97z0 P K)) (K97z0 P K)
def K97z5 : Kont := inBlockK 0 (K97z3 P K)
def K97z6 (a0 b1 : Value) (L1 : LK) : Kont := thenK (fun f' h'' => (([0, 1] : List Nat).map f' : List Value) = [a0, b1] ∧ L1 (([5, 6, 7] : List Nat).map f') h'') (K97z5 P K)
def K97z7 (a0 b1 : Value) (L1 : LK) : Kont := thenK (iwpP P c97z7 (K97z6 P K a0 b1 L1)) (K97z6 P K a0 b1 L1)
def K97z8 (a0 b1 : Value) (L1 : LK) : Kont := thenK (iwpP P c97z8 (K97z7 P K a0 b1 L1)) (K97z7 P K a0 b1 L1)
def K97z17 (a0 b1 : Value) (L1 : LK) : Kont := thenK (iwpP P c97z17 (K97z6 P K a0 b1 L1)) (K97z6 P K a0 b1 L1)
def K97z18 (a0 b1 : Value) (L1 : LK) : Kont := inBlockK 1 (K97z17 P K a0 b1 L1)
def p97z6 (a0 b1 : Value) (L1 : LK) (xs : List Value) (h : Heap) : Prop := CutP (iwpP P c97z6 (K97z6 P K a0 b1 L1)) ([0, 1] ++ [5, 6, 7]) ([a0, b1] ++ xs) h
def p97z10 (a0 b1 out5 carry6 i7 x14 : Value) (L1 : LK) (h : Heap) : Prop := CutP (iwpP P c97z10 (K97z8 P K a0 b1 L1)) [0, 1, 5, 6, 7, 14] [a0, b1, out5, carry6, i7, x14] h
def p97z12 (a0 b1 out5 carry6 i7 x14 x18 : Value) (L1 : LK) (h : Heap) : Prop := CutP (iwpP P c97z12 (K97z8 P K a0 b1 L1)) [0, 1, 5, 6, 7, 14, 18] [a0, b1, out5, carry6, i7, x14, x18] h
def p97z14 (a0 b1 out5 carry6 i7 x20 : Value) (L1 : LK) (h : Heap) : Prop := CutP (iwpP P c97z14 (K97z8 P K a0 b1 L1)) [0, 1, 5, 6, 7, 20] [a0, b1, out5, carry6, i7, x20] h
def p97z16 (a0 b1 out5 carry6 i7 x20 x22 : Value) (L1 : LK) (h : Heap) : Prop := CutP (iwpP P c97z16 (K97z8 P K a0 b1 L1)) [0, 1, 5, 6, 7, 20, 22] [a0, b1, out5, carry6, i7, x20, x22] h
def p97z22 (a0 b1 out5 i7 s8 : Value) (L1 : LK) (h : Heap) : Prop := CutP (iwpP P c97z22 (K97z18 P K a0 b1 L1)) [0, 1, 5, 7, 8] [a0, b1, out5, i7, s8] h
def p97z25 (a0 b1 out5 i7 s8 : Value) (L1 : LK) (h : Heap) : Prop := CutP (iwpP P c97z25 (K97z18 P K a0 b1 L1)) [0, 1, 5, 7, 8] [a0, b1, out5, i7, s8] h
def p97z26 (a0 b1 out5 carry6 i7 : Value) (L1 : LK) (h : Heap) : Prop := CutP (iwpP P c97z26 (K97z6 P K a0 b1 L1)) [0, 1, 5, 6, 7] [a0, b1, out5, carry6, i7] h
def p97z27 (out5 : Value) (h : Heap) : Prop := CutP (iwpP P c97z27 (K97z0 P K)) [5] [out5] h
theorem q97z16 (a0 b1 out5 carry6 i7 x20 x22 : Value) (L1 : LK) (h : Heap) : p97z16 P K a0 b1 out5 carry6 i7 x20 x22 L1 h =
 (OP (iPick x20 (.bool true) x22) fun x23 =>
 IfP x23
 (OP (iLenSl a0) fun x29 =>
 OP (iBin .lss i7 x29) fun x30 =>
 IfP x30
 (OP (iAdrSl 1 a0 i7) fun x34 =>
 OP (iLoad false 1 h x34) fun x35 =>
 OP (iBin .add carry6 x35) fun x36 =>
 p97z22 P K a0 b1 out5 i7 x36 L1 h)
 (p97z22 P K a0 b1 out5 i7 carry6 L1 h))
 (p97z27 P K out5 h)) := (CutP_def _ _ _ _).trans (by kernel_rfl)
theorem q97z14 (a0 b1 out5 carry6 i7 x20 : Value) (L1 : LK) (h : Heap) : p97z14 P K a0 b1 out5 carry6 i7 x20 L1 h =
 (GdP x20 false
 (OP (iBin .gtr carry6 (.int .i64 (0))) fun x22 =>
 p97z16 P K a0 b1 out5 carry6 i7 x20 x22 L1 h)
 (p97z16 P K a0 b1 out5 carry6 i7 x20 undef L1 h)) := (CutP_def _ _ _ _).trans (by kernel_rfl)
theorem q97z12 (a0 b1 out5 carry6 i7 x14 x18 : Value) (L1 : LK) (h : Heap) : p97z12 P K a0 b1 out5 carry6 i7 x14 x18 L1 h =
 (OP (iPick x14 (.bool true) x18) fun x19 =>
 p97z14 P K a0 b1 out5 carry6 i7 x19 L1 h) := (CutP_def _ _ _ _).trans (by kernel_rfl)
theorem q97z10 (a0 b1 out5 carry6 i7 x14 : Value) (L1 : LK) (h : Heap) : p97z10 P K a0 b1 out5 carry6 i7 x14 L1 h =
 (GdP x14 false
 (OP (iLenSl b1) fun x17 =>
 OP (iBin .lss i7 x17) fun x18 =>
 p97z12 P K a0 b1 out5 carry6 i7 x14 x18 L1 h)
 (p97z12 P K a0 b1 out5 carry6 i7 x14 undef L1 h)) := (CutP_def _ _ _ _).trans (by kernel_rfl)
theorem q97z25 (a0 b1 out5 i7 s8 : Value) (L1 : LK) (h : Heap) : p97z25 P K a0 b1 out5 i7 s8 L1 h =
 (OP (iBin .rem s8 (.int .i64 (10000))) fun x49 =>
 OH (iMkSl 3 1 [(.int .i64 (0))] h [(0, 1, x49)]) fun x50 h_1 =>
 OH (iApp 3 1 8 h_1 out5 x50) fun x51 h_2 =>
 OP (iBin .quo s8 (.int .i64 (10000))) fun x53 =>
 p97z26 P K a0 b1 x51 x53 i7 L1 h_2) := (CutP_def _ _ _ _).trans (by kernel_rfl)
theorem q97z22 (a0 b1 out5 i7 s8 : Value) (L1 : LK) (h : Heap) : p97z22 P K a0 b1 out5 i7 s8 L1 h =
 (OP (iLenSl b1) fun x39 =>
 OP (iBin .lss i7 x39) fun x40 =>
 IfP x40
 (OP (iAdrSl 1 b1 i7) fun x44 =>
 OP (iLoad false 1 h x44) fun x45 =>
 OP (iBin .add s8 x45) fun x46 =>
 p97z25 P K a0 b1 out5 i7 x46 L1 h)
 (p97z25 P K a0 b1 out5 i7 s8 L1 h)) := (CutP_def _ _ _ _).trans (by kernel_rfl)
theorem q97z26 (a0 b1 out5 carry6 i7 : Value) (L1 : LK) (h : Heap) : p97z26 P K a0 b1 out5 carry6 i7 L1 h =
 (OP (iBin .add i7 (.int .i64 (1))) fun x25 =>
 ([a0, b1] : List Value) = [a0, b1] ∧ L1 [out5, carry6, x25] h) := (CutP_def _ _ _ _).trans (by kernel_rfl)
theorem q97z6 (a0 b1 : Value) (L1 : LK) (out5 carry6 i7 : Value) (h : Heap) : p97z6 P K a0 b1 L1 [out5, carry6, i7] h =
 (OP (iLenSl a0) fun x12 =>
 OP (iBin .lss i7 x12) fun x13 =>
 p97z10 P K a0 b1 out5 carry6 i7 x13 L1 h) := (CutP_def _ _ _ _).trans (by kernel_rfl)
theorem q97z27 (out5 : Value) (h : Heap) : p97z27 P K out5 h =
 (K out5 h) := (CutP_def _ _ _ _).trans (by kernel_rfl)
def T97 (a0 b1 : Value) (h : Heap) : Prop :=
 OH (iMkSl 3 0 [(.int .i64 (0))] h []) fun x9 h_1 =>
 LoopP [x9, (.int .i64 (0)), (.int .i64 (0))] h_1 fun L1 xs hx =>
 p97z6 P K a0 b1 L1 xs hx
theorem e97 (a0 b1 : Value) (h : Heap) : iwpP P c97 (bodyP [.tmp 4] K) (frame0 [a0, b1]) h = T97 P K a0 b1 h := by kernel_rfl
theorem f97 {K : VK} {a0 b1 : Value} {h : Heap} (H : T97 Tryz.prog K a0 b1 h) : CallP Tryz.prog 97 [a0, b1] h K :=
 callP_intro k97 (Nat.le_of_ble_eq_true rfl) ((e97 Tryz.prog K a0 b1 h).mpr H)
/-! F98: pommel/pommelref01.sizes -/
noncomputable def oc98 := compFn Tryz.prog 98 [[], [], [], [], [], [], [], [], [0, 1], [5], [], [], [], [], [], [], [], [], [], []]
@[irreducible] noncomputable def c98 : ICode := icOf oc98
@[irreducible] noncomputable def c98z11 : ICode := c98.r.r.l.r.l.l
@[irreducible] noncomputable def c98z8 : ICode := c98.r.r.r
theorem k98 : oc98 = some (41, c98, [.tmp 4]) := by kernel_rfl
def K98z0 (_P : Program) (K : VK) : Kont := bodyP [.tmp 4] K
def K98z8 : Kont := thenK (iwpP P c98z8 (K98z0 P K)) (K98z0 P K)
def K98z10 : Kont := inBlockK 0 (K98z8 P K)
def K98z11 (a0 b1 : Value) (L1 : LK) : Kont := thenK (fun f' h'' => (([0, 1] : List Nat).map f' : List Value) = [a0, b1] ∧ L1 (([5] : List Nat).map f') h'') (K98z10 P K)
def p98z11 (a0 b1 : Value) (L1 : LK) (xs : List Value) (h : Heap) : Prop := CutP (iwpP P c98z11 (K98z11 P K a0 b1 L1)) ([0, 1] ++ [5]) ([a0, b1] ++ xs) h
theorem q98z11 (a0 b1 : Value) (L1 : LK) (i5 : Value) (h : Heap) : p98z11 P K a0 b1 L1 [i5] h =
 (OP (iBin .geq i5 (.int .i64 (0))) fun x20 =>
 IfP x20
 (OP (iAdrSl 1 a0 i5) fun x25 =>
 OP (iLoad false 1 h x25) fun x26 =>
 (True) ∧
 OP (iAdrSl 1 b1 i5) fun x29 =>
 OP (iLoad false 1 h x29) fun x30 =>
 (True) ∧
 OP (iBin .lss x26 x30) fun x31 =>
 IfP x31
 (K (.int .i64 (-1)) h)
 (OP (iAdrSl 1 a0 i5) fun x34 =>
 OP (iLoad false 1 h x34) fun x35 =>
 (True) ∧
 OP (iAdrSl 1 b1 i5) fun x38 =>
 OP (iLoad false 1 h x38) fun x39 =>
 (True) ∧
 OP (iBin .gtr x35 x39) fun x40 =>
 IfP x40
 (K (.int .i64 (1)) h)
 (OP (iBin .sub i5 (.int .i64 (1))) fun x22 =>
 ([a0, b1] : List Value) = [a0, b1] ∧ L1 [x22] h)))
 (K (.int .i64 (0)) h)) := (CutP_def _ _ _ _).trans (by kernel_rfl)
def T98 (a0 b1 : Value) (h : Heap) : Prop :=
 OP (iLenSl a0) fun x7 =>
 OP (iLenSl b1) fun x9 =>
 OP (iBin .neq x7 x9) fun x10 =>
 IfP x10
 (OP (iLenSl a0) fun x12 =>
 OP (iLenSl b1) fun x14 =>
 OP (iBin .lss x12 x14) fun x15 =>
 IfP x15
 (K (.int .i64 (-1)) h)
 (K (.int .i64 (1)) h))
 (OP (iLenSl a0) fun x17 =>
 OP (iBin .sub x17 (.int .i64 (1))) fun x18 =>
 LoopP [x18] h fun L1 xs hx =>
 p98z11 P K a0 b1 L1 xs hx)
theorem e98 (a0 b1 : Value) (h : Heap) : iwpP P c98 (bodyP [.tmp 4] K) (frame0 [a0, b1]) h = T98 P K a0 b1 h := by kernel_rfl
theorem f98 {K : VK} {a0 b1 : Value} {h : Heap} (H : T98 Tryz.prog K a0 b1 h) : CallP Tryz.prog 98 [a0, b1] h K :=
 callP_intro k98 (Nat.le_of_ble_eq_true rfl) ((e98 Tryz.prog K a0 b1 h).mpr H)
/-! F99: pommel/pommelref01.less -/
noncomputable def oc99 := compFn Tryz.prog 99 [[], [], [], [0, 1], [5, 6, 7], [], [], [], [], [0, 1, 5, 7, 8], [], [], [0, 1, 5, 6, 7, 8], [0, 1, 5, 6, 7], [5], []]
@[irreducible] noncomputable def c99 : ICode := icOf oc99
@[irreducible] noncomputable def c99z6 : ICode := c99.r.r.l.r.l.l
@[irreducible] noncomputable def c99z3 : ICode := c99.r.r.r
@[irreducible] noncomputable def c99z14 : ICode := c99z6.r.l.l.r.r.l
@[irreducible] noncomputable def c99z9 : ICode := c99z6.r.r
@[irreducible] noncomputable def c99z20 : ICode := c99z3.l
@[irreducible] noncomputable def c99z18 : ICode := c99z14.r.r.l
@[irreducible] noncomputable def c99z19 : ICode := c99z9.l
theorem k99 : oc99 = some (41, c99, [.tmp 4]) := by kernel_rfl
def K99z0 (_P : Program) (K : VK) : Kont := bodyP [.tmp 4] K
def K99z3 : Kont := thenK (iwpP P c99z3 (K99z0 P K)) (K99z0 P K)
def K99z5 : Kont := inBlockK 0 (K99z3 P K)
def K99z6 (a0 b1 : Value) (L1 : LK) : Kont := thenK (fun f' h'' => (([0, 1] : List Nat).map f' : List Value) = [a0, b1] ∧ L1 (([5, 6, 7] : List Nat).map f') h'') (K99z5 P K)
def K99z9 (a0 b1 : Value) (L1 : LK) : Kont := thenK (iwpP P c99z9 (K99z6 P K a0 b1 L1)) (K99z6 P K a0 b1 L1)
def K99z10 (a0 b1 : Value) (L1 : LK) : Kont := inBlockK 1 (K99z9 P K a0 b1 L1)
def p99z6 (a0 b1 : Value) (L1 : LK) (xs : List Value) (h : Heap) : Prop := CutP (iwpP P c99z6 (K99z6 P K a0 b1 L1)) ([0, 1] ++ [5, 6, 7]) ([a0, b1] ++ xs) h
def p99z14 (a0 b1 out5 i7 s8 : Value) (L1 : LK) (h : Heap) : Prop := CutP (iwpP P c99z14 (K99z10 P K a0 b1 L1)) [0, 1, 5, 7, 8] [a0, b1, out5, i7, s8] h
def p99z18 (a0 b1 out5 borrow6 i7 s8 : Value) (L1 : LK) (h : Heap) : Prop := CutP (iwpP P c99z18 (K99z10 P K a0 b1 L1)) [0, 1, 5, 6, 7, 8] [a0, b1, out5, borrow6, i7, s8] h
def p99z19 (a0 b1 out5 borrow6 i7 : Value) (L1 : LK) (h : Heap) : Prop := CutP (iwpP P c99z19 (K99z6 P K a0 b1 L1)) [0, 1, 5, 6, 7] [a0, b1, out5, borrow6, i7] h
def p99z20 (out5 : Value) (h : Heap) : Prop := CutP (iwpP P c99z20 (K99z0 P K)) [5] [out5] h
theorem q99z18 (a0 b1 out5 borrow6 i7 s8 : Value) (L1 : LK) (h : Heap) : p99z18 P K a0 b1 out5 borrow6 i7 s8 L1 h =
 (OH (iMkSl 3 1 [(.int .i64 (0))] h [(0, 1, s8)]) fun x38 h_1 =>
 OH (iApp 3 1 8 h_1 out5 x38) fun x39 h_2 =>
 p99z19 P K a0 b1 x39 borrow6 i7 L1 h_2) := (CutP_def _ _ _ _).trans (by kernel_rfl)
theorem q99z14 (a0 b1 out5 i7 s8 : Value) (L1 : LK) (h : Heap) : p99z14 P K a0 b1 out5 i7 s8 L1 h =
 (OP (iBin .lss s8 (.int .i64 (0))) fun x33 =>
 IfP x33
 (OP (iBin .add s8 (.int .i64 (10000))) fun x35 =>
 p99z18 P K a0 b1 out5 (.int .i64 (1)) i7 x35 L1 h)
 (p99z18 P K a0 b1 out5 (.int .i64 (0)) i7 s8 L1 h)) := (CutP_def _ _ _ _).trans (by kernel_rfl)
theorem q99z19 (a0 b1 out5 borrow6 i7 : Value) (L1 : LK) (h : Heap) : p99z19 P K a0 b1 out5 borrow6 i7 L1 h =
 (OP (iBin .add i7 (.int .i64 (1))) fun x15 =>
 ([a0, b1] : List Value) = [a0, b1] ∧ L1 [out5, borrow6, x15] h) := (CutP_def _ _ _ _).trans (by kernel_rfl)
theorem q99z6 (a0 b1 : Value) (L1 : LK) (out5 borrow6 i7 : Value) (h : Heap) : p99z6 P K a0 b1 L1 [out5, borrow6, i7] h =
 (OP (iLenSl a0) fun x12 =>
 OP (iBin .lss i7 x12) fun x13 =>
 IfP x13
 (OP (iAdrSl 1 a0 i7) fun x18 =>
 OP (iLoad false 1 h x18) fun x19 =>
 OP (iBin .sub x19 borrow6) fun x21 =>
 OP (iLenSl b1) fun x24 =>
 OP (iBin .lss i7 x24) fun x25 =>
 IfP x25
 (OP (iAdrSl 1 b1 i7) fun x29 =>
 OP (iLoad false 1 h x29) fun x30 =>
 OP (iBin .sub x21 x30) fun x31 =>
 p99z14 P K a0 b1 out5 i7 x31 L1 h)
 (p99z14 P K a0 b1 out5 i7 x21 L1 h))
 (p99z20 P K out5 h)) := (CutP_def _ _ _ _).trans (by kernel_rfl)
theorem q99z20 (out5 : Value) (h : Heap) : p99z20 P K out5 h =
 (K out5 h) := (CutP_def _ _ _ _).trans (by kernel_rfl)
def T99 (a0 b1 : Value) (h : Heap) : Prop :=
 OH (iMkSl 3 0 [(.int .i64 (0))] h []) fun x9 h_1 =>
 LoopP [x9, (.int .i64 (0)), (.int .i64 (0))] h_1 fun L1 xs hx =>
 p99z6 P K a0 b1 L1 xs hx
theorem e99 (a0 b1 : Value) (h : Heap) : iwpP P c99 (bodyP [.tmp 4] K) (frame0 [a0, b1]) h = T99 P K a0 b1 h := by kernel_rfl
theorem f99 {K : VK} {a0 b1 : Value} {h : Heap} (H : T99 Tryz.prog K a0 b1 h) : CallP Tryz.prog 99 [a0, b1] h K :=
 callP_intro k99 (Nat.le_of_ble_eq_true rfl) ((e99 Tryz.prog K a0 b1 h).mpr H)
/-! F101: pommel/pommelref01.Abs -/
noncomputable def oc101 := compFn Tryz.prog 101 [[], [], []]
@[irreducible] noncomputable def c101 : ICode := icOf oc101
theorem k101 : oc101 = some (5, c101, [.cell true 2 2]) := by kernel_rfl
def T101 (P : Program) (K : VK) (a0 : Value) (h : Heap) : Prop :=
 OH (iBox 36 h a0) fun a1 h_1 =>
 OH (iAlloc 36 [(.bool false), (.slice none 0 0)] h_1) fun x2 h_2 =>
 OP (iFadr 0 a1) fun x3 =>
 OH (oStore 1 h_2 x3 (.bool false)) fun _ h_3 =>
 OP (iLoad true 2 h_3 a1) fun x4 =>
 OH (oStore 2 h_3 x2 x4) fun _ h_4 =>
 OP (iLoad true 2 h_4 x2) fun r0 =>
 K r0 h_4
theorem e101 (a0 : Value) (h : Heap) : iwpP P c101 (bodyP [.cell true 2 2] K) (frame0 [a0]) h = T101 P K a0 h := by kernel_rfl
theorem f101 {K : VK} {a0 : Value} {h : Heap} (H : T101 Tryz.prog K a0 h) : CallP Tryz.prog 101 [a0] h K :=
 callP_intro k101 (Nat.le_of_ble_eq_true rfl) ((e101 Tryz.prog K a0 h).mpr H)
/-! F125: pommel/pommelref01.times -/
noncomputable def oc125 := compFn Tryz.prog 125 [[], []]
@[irreducible] noncomputable def c125 : ICode := icOf oc125
theorem k125 : oc125 = some (12, c125, [.tmp 4]) := by kernel_rfl
def T125 (a0 d1 : Value) (h : Heap) : Prop :=
 OP (iBuild [(.bool false), (.slice none 0 0)] [(1, 1, a0)]) fun x6 =>
 CallP P 22 [d1] h fun x8 h_1 =>
 CallP P 53 [x6, x8] h_1 fun x9 h_2 =>
 CallP P 95 [x9] h_2 fun x10 h_3 =>
 OP (iFld false 1 1 x10) fun x11 =>
 K x11 h_3
theorem e125 (a0 d1 : Value) (h : Heap) : iwpP P c125 (bodyP [.tmp 4] K) (frame0 [a0, d1]) h = T125 P K a0 d1 h := by kernel_rfl
theorem f125 {K : VK} {a0 d1 : Value} {h : Heap} (H : T125 Tryz.prog K a0 d1 h) : CallP Tryz.prog 125 [a0, d1] h K :=
 callP_intro k125 (Nat.le_of_ble_eq_true rfl) ((e125 Tryz.prog K a0 d1 h).mpr H)
end Go.Proofs.YthplaillblmgfaaGreatDoor

namespace Go.Proofs.YthplaillblmgfaaGreatDoor
open Go.Sim

theorem bigW_Z : bigW ≤ 10000 ^ 250 := by decide +kernel
theorem canZ_len {xs : List Nat} (h : Canon 10000 xs) (hv : val 10000 xs < bigW) : xs.length ≤ 250 := h.len (by decide) (Nat.lt_of_lt_of_le hv bigW_Z)

def OwnD (b : Nat) (hx : Heap) (v : Value) (os : List Nat) : Prop := OwnS b hx 3 v (os.map fun d : Nat => I d)

theorem OwnD.ds {b : Nat} {hx : Heap} {v : Value} {os : List Nat} (o : OwnD b hx v os) : DS 3 .i64 hx v os := by
  rcases o with ⟨h1, h2⟩ | ⟨i, _, h2, h3⟩
  · exact .inl ⟨h1, by simpa using h2⟩
  · refine .inr ⟨i, by rw [h2, List.length_map], .inr ⟨[], ?_⟩⟩
    simp [objCells, h3]

theorem DS.cells {e : TypeId} {k : IntKind} {h : Heap} {v : Value} {xs : List Nat} (p : DS e k h v xs) : sliceCells h 1 v = some (xs.map fun d : Nat => Value.int k (d : Int)) ∧ lenOfSl v = some xs.length := by
  rcases p with ⟨rfl, rfl⟩ | ⟨i, rfl, hc⟩
  · exact ⟨rfl, rfl⟩
  · refine ⟨?_, rfl⟩
    unfold sliceCells sl
    simp only
    by_cases hz : xs.length = 0
    · rw [if_pos hz]
      have : xs = [] := List.length_eq_zero_iff.1 hz
      subst this
      rfl
    · obtain ⟨r, hc⟩ := hc.resolve_left (by rintro rfl; simp at hz)
      rw [if_neg hz, hc]
      simp only [Option.bind_some]
      rw [if_pos (by simp)]
      have : ((xs.map (fun d : Nat => Value.int k (d : Int)) ++ r).drop 0).take (xs.length * 1) = xs.map fun d : Nat => Value.int k (d : Int) := by
        rw [List.drop_zero, Nat.mul_one, List.take_append_of_le_length (by simp), List.take_of_length_le (by simp)]
      rw [this]

def MagZ (h : Heap) (v : Value) (n : Nat) : Prop := ∃ xs, DS 3 .i64 h v xs ∧ Canon 10000 xs ∧ val 10000 xs = n
theorem MagZ.mono {h h' : Heap} {v : Value} {n : Nat} (x : EX h h') (p : MagZ h v n) : MagZ h' v n := let ⟨xs, a, b, c⟩ := p; ⟨xs, a.mono x, b, c⟩

theorem DS.setB {e e' : TypeId} {k : IntKind} {h : Heap} {v : Value} {xs : List Nat} {j : Nat} {b : Bool} {r : List Value} (d : DS e k h v xs) (hj : h[j]? = some (.arr e' (.bool b :: r))) (o : IObj) : DS e k (h.set j o) v xs := by
  rcases d with d | ⟨i, h1, h2⟩
  · exact .inl d
  · refine .inr ⟨i, h1, ?_⟩
    rcases h2 with h2 | ⟨rest, h2⟩
    · exact .inl h2
    · cases xs with
      | nil => exact .inl rfl
      | cons x xs =>
        right
        refine ⟨rest, ?_⟩
        have hne : j ≠ i := by
          rintro rfl
          unfold objCells at h2
          rw [hj] at h2
          simp at h2
        unfold objCells at h2 ⊢
        rw [List.getElem?_set_ne hne]
        exact h2

theorem MagZ.setB {h : Heap} {v : Value} {n j : Nat} {e : TypeId} {b : Bool} {r : List Value} (p : MagZ h v n) (hj : h[j]? = some (.arr e (.bool b :: r))) (o : IObj) : MagZ (h.set j o) v n :=
  let ⟨xs, d, c, hv⟩ := p; ⟨xs, d.setB hj o, c, hv⟩

def ZV (h : Heap) (val : Value) (z : Int) : Prop := ∃ v, val = .agg #[B (decide (z < 0)), v] ∧ MagZ h v z.natAbs
theorem ZV.mono {h h' : Heap} {v : Value} {z : Int} (x : EX h h') (p : ZV h v z) : ZV h' v z := let ⟨w, a, b⟩ := p; ⟨w, a, b.mono x⟩
theorem ZV.setB {h : Heap} {v : Value} {z : Int} {j : Nat} {e : TypeId} {b : Bool} {r : List Value} (p : ZV h v z) (hj : h[j]? = some (.arr e (.bool b :: r))) (o : IObj) : ZV (h.set j o) v z :=
  let ⟨w, a, q⟩ := p; ⟨w, a, q.setB hj o⟩

theorem appD {h0 hx : Heap} {v : Value} {os : List Nat} {d : Nat} {K : Value → Heap → Prop} (o : OwnD h0.length hx v os) (hex : EX h0 hx) (hl : os.length ≤ 10000)
    (hk : ∀ v' hx', EX h0 hx' → OwnD h0.length hx' v' (os ++ [d]) → K v' hx') : OH (iMkSl 3 1 [.int .i64 0] hx [(0, 1, I d)]) fun a h2 => OH (iApp 3 1 8 h2 v a) K := by
  refine app1 o hex (by simp; omega) (by simp [maxLen]; omega) rfl rfl ?_
  intro v' hx' h1 h2
  exact hk v' hx' h1 (by unfold OwnD; simpa using h2)

theorem C95f {s : Bool} {v : Value} {xs : List Nat} {h : Heap} {K : Value → Heap → Prop} (hd : DS 3 .i64 h v xs) (hl : Lim 10000 xs) (hs : xs.length ≤ 1000)
    (hk : ∀ r h', EX h h' → ZV h' r (if s then -(val 10000 xs : Int) else val 10000 xs) → (∃ b i n, r = .agg #[B b, sl 3 i 0 n] ∧ h.length ≤ i) → K r h') : CallP Tryz.prog 95 [.agg #[B s, v]] h K := by
  refine f95 ?_
  have e1 : iBox 36 h (.agg #[B s, v]) = some (pt h.length 0, h ++ [.arr 36 [B s, v]]) := rfl
  have e2 : ∀ g : Heap, iAlloc 36 [(.bool false), (.slice none 0 0)] g = some (pt g.length 0, g ++ [.arr 36 [(.bool false), (.slice none 0 0)]]) := fun _ => rfl
  simp only [T95, e1, OH_some, e2, List.length_append, List.length_cons, List.length_nil]
  have g0 : (h ++ [IObj.arr 36 [B s, v]] ++ [IObj.arr 36 [(.bool false), (.slice none 0 0)]])[h.length]? = some (.arr 36 [B s, v]) := by simp
  have g1 : (h ++ [IObj.arr 36 [B s, v]] ++ [IObj.arr 36 [(.bool false), (.slice none 0 0)]])[h.length + 1]? = some (.arr 36 [(.bool false), (.slice none 0 0)]) := by simp
  have x1 : EX h (h ++ [IObj.arr 36 [B s, v]] ++ [IObj.arr 36 [(.bool false), (.slice none 0 0)]]) := (EX.append _ _).push _
  have hlen : (h ++ [IObj.arr 36 [B s, v]] ++ [IObj.arr 36 [(.bool false), (.slice none 0 0)]]).length = h.length + 2 := by simp
  generalize h ++ [IObj.arr 36 [B s, v]] ++ [IObj.arr 36 [(.bool false), (.slice none 0 0)]] = h1 at g0 g1 x1 hlen ⊢
  have ld1 : iLoad false 1 h1 (pt h.length 1) = some v := by simp [iLoad, objCells, g0, iPart]
  have hd1 := hd.mono x1
  simp only [fadr_pt, Nat.zero_add, OP_some, ld1, hd1.len]
  refine loopL (σ := Nat) (fun n => [I n]) (fun _ => h1) (fun n => n ≤ xs.length ∧ val 10000 (xs.take n) = val 10000 xs) (fun n => n) xs.length rfl rfl ⟨Nat.le_refl _, by rw [List.take_length]⟩ ?_
  rintro n ⟨hn, hval⟩ L hL
  rw [q95z5]
  -- the end
  have fin : Canon 10000 (xs.take n) → p95z13 Tryz.prog K (pt h.length 0) (pt (h.length + 1) 0) (I n) h1 := by
    intro hc
    rw [q95z13]
    have mk : iMkSl 3 0 [.int .i64 0] h1 [] = some (sl 3 h1.length 0 0, h1 ++ [.arr 3 []]) := rfl
    have x2 : EX h1 (h1 ++ [.arr 3 []]) := EX.append _ _
    obtain ⟨v', p1, p2⟩ := (hd1.mono x2).pop hn
    obtain ⟨c1, c2⟩ := p2.cells
    have hnl : (xs.take n).length = n := by rw [List.length_take]; omega
    simp only [mk, OH_some, fadr_pt, Nat.zero_add, OP_some, EX.load x2 ld1, p1]
    -- copied
    have app : ∃ w h3, iApp 3 1 8 (h1 ++ [.arr 3 []]) (sl 3 h1.length 0 0) v' = some (w, h3) ∧ EX h1 h3 ∧ DS 3 .i64 h3 w (xs.take n) ∧ ∃ i n, w = sl 3 i 0 n ∧ h.length ≤ i := by
      by_cases hn0 : n = 0
      · subst hn0
        refine ⟨sl 3 h1.length 0 0, h1 ++ [.arr 3 []], ?_, x2, .inr ⟨h1.length, by simp, .inl (by simp)⟩, h1.length, 0, rfl, by omega⟩
        simp [iApp, c1, c2, sl]
      · refine ⟨sl 3 (h1.length + 1) 0 n, (h1 ++ [IObj.arr 3 []]).set h1.length .dead ++ [.arr 3 ((xs.take n).map fun d : Nat => I d)], ?_, (x2.set (Nat.le_refl _) _).push _, .inr ⟨h1.length + 1, by rw [hnl], .inr ⟨[], ?_⟩⟩, h1.length + 1, n, rfl, by omega⟩
        · have hg : (h1 ++ [IObj.arr 3 []])[h1.length]? = some (.arr 3 []) := get_last
          simp only [iApp, c1, c2, hnl]
          simp only [sl, hg]
          rw [if_pos ⟨trivial, trivial, by simp, by omega, by unfold maxLen; omega⟩, if_neg hn0]
          simp
        · unfold objCells
          rw [List.getElem?_append_right (by simp)]
          simp
    obtain ⟨w, h3, a1, a2, a3, wi, wn, hwi, hwl⟩ := app
    simp only [a1, OH_some]
    have g0' := a2.get g0
    have g1' := a2.get g1
    rw [store_at g0' (by simp) a3.one.1 a3.one.2]
    simp only [OH_some, List.set_cons_succ, List.set_cons_zero]
    have k0 : (h3.set h.length (.arr 36 [B s, w]))[h.length]? = some (.arr 36 [B s, w]) := set_get g0'
    have k1 : (h3.set h.length (.arr 36 [B s, w]))[h.length + 1]? = some (.arr 36 [(.bool false), (.slice none 0 0)]) := by rw [List.getElem?_set_ne (by omega)]; exact g1'
    have d1 := a3.setB g0' (.arr 36 [B s, w])
    have x3 : EX h (h3.set h.length (.arr 36 [B s, w])) := (x1.trans a2).set (Nat.le_refl _) _
    generalize h3.set h.length (.arr 36 [B s, w]) = h4 at k0 k1 d1 x3 ⊢
    have ld0 : iLoad false 1 h4 (pt h.length 0) = some (B s) := by simp [iLoad, objCells, k0, iPart]
    simp only [Nat.add_zero, ld0, OP_some]
    have last : ∀ c : Bool, c = (s && decide (0 < n)) → OH (oStore 1 h4 (pt h.length 0) (B c)) fun _ h_1 => OP (iLoad true 2 h_1 (pt h.length 0)) fun x34 => OH (oStore 2 h_1 (pt (h.length + 1) 0) x34) fun _ h_2 => OP (iLoad true 2 h_2 (pt (h.length + 1) 0)) fun r0 => K r0 h_2 := by
      rintro c rfl
      rw [store_at k0 (by simp) rfl rfl]
      simp only [OH_some, List.set_cons_zero]
      rw [load2 (set_get k0)]
      simp only [OP_some]
      have m1 : (h4.set h.length (.arr 36 [B (s && decide (0 < n)), w]))[h.length + 1]? = some (.arr 36 [(.bool false), (.slice none 0 0)]) := by rw [List.getElem?_set_ne (by omega)]; exact k1
      rw [store2 m1]
      simp only [OH_some]
      rw [load2 (set_get m1)]
      simp only [OP_some]
      refine hk _ _ ((x3.set (Nat.le_refl _) _).set (by omega) _) ⟨w, ?_, (xs.take n), (d1.setB k0 _).setB m1 _, hc, ?_⟩ ⟨_, wi, wn, by rw [hwi], hwl⟩
      · have h0n : (0 < n ↔ 0 < val 10000 xs) := by
          rw [← hval]
          constructor
          · intro h0
            have := Canon.low (by decide) hc (by intro h; rw [h] at hnl; simp at hnl; omega)
            have : 0 < 10000 ^ ((xs.take n).length - 1) := Nat.pow_pos (by decide)
            omega
          · intro h0
            by_cases hn0 : n = 0
            · subst hn0; simp [val] at h0
            · omega
        have : (s && decide (0 < n)) = decide ((if s = true then -(val 10000 xs : Int) else (val 10000 xs : Int)) < 0) := by
          cases s with
          | true =>
            by_cases h0 : 0 < n
            · have := h0n.1 h0
              rw [decide_eq_true h0, decide_eq_true (by simp; omega)]; rfl
            · have : ¬ 0 < val 10000 xs := fun h => h0 (h0n.2 h)
              rw [decide_eq_false h0, decide_eq_false (by simp; omega)]; rfl
          | false => simp
        rw [this]
      · rw [hval]; cases s <;> simp
    cases s with
    | true =>
      simp only [q95z17, GdP_tt, bin_gtr, OP_some, q95z19, iPick_t, fadr_pt, Nat.add_zero]
      refine last _ ?_
      rw [Bool.true_and]
      by_cases h0 : 0 < n
      · simp [h0]
      · simp [h0]
    | false =>
      simp only [q95z17, GdP_ft, q95z19, iPick_f, OP_some, fadr_pt, Nat.add_zero]
      exact last _ rfl
  simp only [bin_gtr, OP_some]
  by_cases hn0 : n = 0
  · subst hn0
    rw [decide_eq_false (show ¬ (0 : Int) < ((0 : Nat) : Int) by omega)]
    simp only [q95z9, GdP_ft, q95z11, iPick_f, OP_some, IfP_false]
    exact fin (by simpa using Canon.nil 10000)
  · rw [decide_eq_true (show (0 : Int) < (n : Int) by omega)]
    have e3 : IntKind.wrap .i64 ((n : Int) - 1) = ((n - 1 : Nat) : Int) := by rw [wrap64 (by omega) (by omega)]; omega
    obtain ⟨i, p1, p2⟩ := hd1.get (j := n - 1) (by omega)
    simp only [q95z9, GdP_tt, fadr_pt, Nat.zero_add, OP_some, ld1, bin_sub, e3, p1, p2, bin_eql, q95z11, iPick_t, IfP_dec]
    refine ⟨fun hz => ?_, fun hz => ?_⟩
    · simp only [true_and]
      refine hL (n - 1) ⟨by omega, ?_⟩ (by omega)
      have := val_take_succ 10000 xs (i := n - 1) (by omega)
      rw [show n - 1 + 1 = n by omega] at this
      have hz' : xs[n - 1]'(by omega) = 0 := by omega
      rw [hz', Nat.mul_zero] at this
      omega
    · refine fin (can_of_last (hl.mono fun y hy => List.mem_of_mem_take hy) ?_)
      intro h1 h2
      rw [List.getElem_take] at h2
      simp only [List.length_take] at h2
      apply hz
      have hm : min n xs.length - 1 = n - 1 := by omega
      simp only [hm] at h2
      omega

theorem C95 {s : Bool} {v : Value} {xs : List Nat} {h : Heap} {K : Value → Heap → Prop} (hd : DS 3 .i64 h v xs) (hl : Lim 10000 xs) (hs : xs.length ≤ 1000)
    (hk : ∀ r h', EX h h' → ZV h' r (if s then -(val 10000 xs : Int) else val 10000 xs) → K r h') : CallP Tryz.prog 95 [.agg #[B s, v]] h K :=
  C95f hd hl hs fun r h' x z _ => hk r h' x z

end Go.Proofs.YthplaillblmgfaaGreatDoor


namespace Go.Proofs.YthplaillblmgfaaGreatDoor
open Go.Sim

theorem quoI {a b : Nat} (hb : b ≠ 0) (ha : a < 9223372036854775808) : iBin .quo (.int .i64 (a : Int)) (.int .i64 (b : Int)) = some (I ((a / b : Nat) : Int)) := by
  have h : ¬ ((b : Int) = 0) := by omega
  have h2 : a / b ≤ a := Nat.div_le_self _ _
  simp only [iBin, iInt, if_true, if_neg h]
  have e : (a : Int).tdiv (b : Int) = ((a / b : Nat) : Int) := rfl
  rw [e]
  generalize a / b = q at *
  rw [wrap64 (by omega) (by omega)]

theorem mkD0 (h : Heap) : iMkSl 3 0 [.int .i64 0] h [] = some (sl 3 h.length 0 0, h ++ [.arr 3 []]) := rfl

theorem ownD0 (h : Heap) : OwnD h.length (h ++ [.arr 3 []]) (sl 3 h.length 0 0) [] := .inr ⟨h.length, Nat.le_refl _, rfl, by simp⟩

theorem C97 {va vb : Value} {xs ys : List Nat} {h : Heap} {K : Value → Heap → Prop} (hx : DS 3 .i64 h va xs) (hy : DS 3 .i64 h vb ys) (lx : Lim 10000 xs) (ly : Lim 10000 ys) (sx : xs.length ≤ 400) (sy : ys.length ≤ 400)
    (hk : ∀ v h' os, EX h h' → DS 3 .i64 h' v os → Lim 10000 os → os.length ≤ 500 → val 10000 os = val 10000 xs + val 10000 ys → K v h') : CallP Tryz.prog 97 [va, vb] h K := by
  refine f97 ?_
  simp only [T97, mkD0, OH_some]
  refine loopL (σ := Value × Nat × List Nat × Heap) (fun p => [p.1, I p.2.1, I p.2.2.1.length]) (fun p => p.2.2.2)
    (fun p => EX h p.2.2.2 ∧ OwnD h.length p.2.2.2 p.1 p.2.2.1 ∧ p.2.1 ≤ 1 ∧ Lim 10000 p.2.2.1 ∧ p.2.2.1.length ≤ max xs.length ys.length + 1 ∧ (p.2.2.1.length = max xs.length ys.length + 1 → p.2.1 = 0) ∧ val 10000 p.2.2.1 + 10000 ^ p.2.2.1.length * p.2.1 = val 10000 (xs.take p.2.2.1.length) + val 10000 (ys.take p.2.2.1.length)) (fun p => max xs.length ys.length + 1 - p.2.2.1.length)
    (sl 3 h.length 0 0, 0, [], h ++ [.arr 3 []]) rfl rfl ⟨EX.append _ _, ownD0 h, by simp, fun x hx => by simp at hx, by simp, by simp, by simp [val]⟩ ?_
  rintro ⟨v, c, os, hx'⟩ ⟨hex, hown, hc, hlim, hlen, hend, hval⟩ L hL
  simp only at hex hown hc hlim hlen hend hval hL ⊢
  rw [q97z6]
  have dx := hx.mono hex
  have dy := hy.mono hex
  -- one digit
  have dig : ∀ (x y : Nat), x < 10000 → y < 10000 → (os.length < max xs.length ys.length ∨ 0 < c) → val 10000 (xs.take (os.length + 1)) = val 10000 (xs.take os.length) + 10000 ^ os.length * x → val 10000 (ys.take (os.length + 1)) = val 10000 (ys.take os.length) + 10000 ^ os.length * y →
      (x = 0 ∧ y = 0 ∨ os.length < max xs.length ys.length) → p97z25 Tryz.prog K va vb v (I os.length) (I ((c + x + y : Nat) : Int)) L hx' := by
    intro x y hxl hyl hor e1 e2 hlast
    rw [q97z25]
    rw [show (.int .i64 10000 : Value) = .int .i64 ((10000 : Nat) : Int) from rfl, rem_nat _ _ _ (by decide)]
    simp only [OP_some]
    refine appD hown hex (by omega) ?_
    intro v' h2 x2 o2
    rw [quoI (by decide) (by omega)]
    simp only [OP_some, q97z26, bin_add, inc os.length (by omega), true_and]
    have hlen' : os.length < max xs.length ys.length + 1 := by
      rcases hor with h | h
      · omega
      · apply Classical.byContradiction
        intro hc2
        have := hend (by omega)
        omega
    have hm : (c + x + y) % 10000 < 10000 := Nat.mod_lt _ (by decide)
    have hdm := Nat.mod_add_div (c + x + y) 10000
    have el : (os ++ [(c + x + y) % 10000]).length = os.length + 1 := by simp
    have := hL (v', (c + x + y) / 10000, os ++ [(c + x + y) % 10000], h2) ⟨x2, o2, by show (c + x + y) / 10000 ≤ 1; omega, hlim.append (fun z hz => by simp at hz; omega), by rw [el]; omega, ?_, ?_⟩ (by rw [el]; omega)
    · rw [el] at this
      exact this
    · intro h9
      rw [el] at h9
      show (c + x + y) / 10000 = 0
      rcases hlast with ⟨rfl, rfl⟩ | h
      · omega
      · omega
    · rw [el]
      show val 10000 (os ++ [(c + x + y) % 10000]) + 10000 ^ (os.length + 1) * ((c + x + y) / 10000) = _
      rw [val_append, e1, e2, Nat.pow_succ]
      simp only [val, Nat.mul_zero, Nat.add_zero]
      generalize (c + x + y) / 10000 = q at *
      generalize (c + x + y) % 10000 = m at *
      generalize 10000 ^ os.length = P at *
      generalize val 10000 os = V at *
      clear hL dx dy hx hy hown
      grind
  have next : (os.length < max xs.length ys.length ∨ 0 < c) → OP (iLenSl va) fun x29 => OP (iBin .lss (I os.length) x29) fun x30 => IfP x30
      (OP (iAdrSl 1 va (I os.length)) fun x34 => OP (iLoad false 1 hx' x34) fun x35 => OP (iBin .add (I c) x35) fun x36 => p97z22 Tryz.prog K va vb v (I os.length) x36 L hx')
      (p97z22 Tryz.prog K va vb v (I os.length) (I c) L hx') := by
    intro hor
    have second : ∀ x : Nat, x < 10000 → val 10000 (xs.take (os.length + 1)) = val 10000 (xs.take os.length) + 10000 ^ os.length * x → (x = 0 ∨ os.length < xs.length) → p97z22 Tryz.prog K va vb v (I os.length) (I ((c + x : Nat) : Int)) L hx' := by
      intro x hxl e1 hx0
      rw [q97z22]
      simp only [dy.len, OP_some, bin_lss, IfP_dec]
      refine ⟨fun hlt => ?_, fun hge => ?_⟩
      · obtain ⟨i, g1, g2⟩ := dy.get (j := os.length) (by omega)
        have hyl := ly _ (List.getElem_mem (show os.length < ys.length by omega))
        have e2 := val_take_succ 10000 ys (i := os.length) (by omega)
        generalize ys[os.length]'(by omega) = y at g2 hyl e2
        have ea : IntKind.wrap .i64 (((c + x : Nat) : Int) + (y : Int)) = ((c + x + y : Nat) : Int) := by rw [wrap64 (by omega) (by omega)]; omega
        simp only [g1, OP_some, g2, bin_add, ea]
        exact dig x y hxl hyl hor e1 e2 (.inr (by omega))
      · have := dig x 0 hxl (by decide) hor e1 (by rw [List.take_of_length_le (by omega), List.take_of_length_le (by omega)]; simp) (by rcases hx0 with h | h; exact .inl ⟨h, rfl⟩; exact .inr (by omega))
        simpa using this
    simp only [dx.len, OP_some, bin_lss, IfP_dec]
    refine ⟨fun hlt => ?_, fun hge => ?_⟩
    · obtain ⟨i, g1, g2⟩ := dx.get (j := os.length) (by omega)
      have hxl := lx _ (List.getElem_mem (show os.length < xs.length by omega))
      have e1 := val_take_succ 10000 xs (i := os.length) (by omega)
      generalize xs[os.length]'(by omega) = x at g2 hxl e1
      have ea : IntKind.wrap .i64 ((c : Int) + (x : Int)) = ((c + x : Nat) : Int) := by rw [wrap64 (by omega) (by omega)]; omega
      simp only [g1, OP_some, g2, bin_add, ea]
      exact second x hxl e1 (.inr (by omega))
    · have := second 0 (by decide) (by rw [List.take_of_length_le (by omega), List.take_of_length_le (by omega)]; simp) (.inl rfl)
      simpa using this
  have done : ¬ (os.length < max xs.length ys.length ∨ 0 < c) → p97z27 Tryz.prog K v hx' := by
    intro hno
    rw [q97z27]
    refine hk v hx' os hex hown.ds hlim (by omega) ?_
    have hc0 : c = 0 := by omega
    rw [hc0, Nat.mul_zero, Nat.add_zero, List.take_of_length_le (by omega), List.take_of_length_le (by omega)] at hval
    exact hval
  simp only [dx.len, OP_some, bin_lss]
  by_cases h1 : os.length < xs.length
  · rw [decide_eq_true (show (os.length : Int) < (xs.length : Int) by omega)]
    simp only [q97z10, GdP_tf, q97z12, iPick_t, OP_some, q97z14, q97z16, IfP_true]
    exact next (.inl (by omega))
  · rw [decide_eq_false (show ¬ (os.length : Int) < (xs.length : Int) by omega)]
    simp only [q97z10, GdP_ff, dy.len, OP_some, bin_lss]
    by_cases h2 : os.length < ys.length
    · rw [decide_eq_true (show (os.length : Int) < (ys.length : Int) by omega)]
      simp only [q97z12, iPick_f, OP_some, q97z14, GdP_tf, q97z16, iPick_t, IfP_true]
      exact next (.inl (by omega))
    · rw [decide_eq_false (show ¬ (os.length : Int) < (ys.length : Int) by omega)]
      simp only [q97z12, iPick_f, OP_some, q97z14, GdP_ff, bin_gtr]
      by_cases h3 : 0 < c
      · rw [decide_eq_true (show (0 : Int) < (c : Int) by omega)]
        simp only [q97z16, iPick_f, OP_some, IfP_true]
        exact next (.inr h3)
      · rw [decide_eq_false (show ¬ (0 : Int) < (c : Int) by omega)]
        simp only [q97z16, iPick_f, OP_some, IfP_false]
        exact done (by omega)

theorem C99 {va vb : Value} {xs ys : List Nat} {h : Heap} {K : Value → Heap → Prop} (hx : DS 3 .i64 h va xs) (hy : DS 3 .i64 h vb ys) (lx : Lim 10000 xs) (ly : Lim 10000 ys) (sx : xs.length ≤ 400) (hyx : ys.length ≤ xs.length) (hle : val 10000 ys ≤ val 10000 xs)
    (hk : ∀ v h' os, EX h h' → DS 3 .i64 h' v os → Lim 10000 os → os.length ≤ 500 → val 10000 os = val 10000 xs - val 10000 ys → K v h') : CallP Tryz.prog 99 [va, vb] h K := by
  refine f99 ?_
  simp only [T99, mkD0, OH_some]
  refine loopL (σ := Value × Nat × List Nat × Heap) (fun p => [p.1, I p.2.1, I p.2.2.1.length]) (fun p => p.2.2.2)
    (fun p => EX h p.2.2.2 ∧ OwnD h.length p.2.2.2 p.1 p.2.2.1 ∧ p.2.1 ≤ 1 ∧ Lim 10000 p.2.2.1 ∧ p.2.2.1.length ≤ xs.length ∧ val 10000 p.2.2.1 + val 10000 (ys.take p.2.2.1.length) = val 10000 (xs.take p.2.2.1.length) + 10000 ^ p.2.2.1.length * p.2.1) (fun p => xs.length - p.2.2.1.length)
    (sl 3 h.length 0 0, 0, [], h ++ [.arr 3 []]) rfl rfl ⟨EX.append _ _, ownD0 h, by simp, fun x hx => by simp at hx, by simp, by simp [val]⟩ ?_
  rintro ⟨v, c, os, hx'⟩ ⟨hex, hown, hc, hlim, hlen, hval⟩ L hL
  simp only at hex hown hc hlim hlen hval hL ⊢
  rw [q99z6]
  have dx := hx.mono hex
  have dy := hy.mono hex
  simp only [dx.len, OP_some, bin_lss, IfP_dec]
  refine ⟨fun hlt => ?_, fun hge => ?_⟩
  · have hil : os.length < xs.length := by omega
    obtain ⟨i, g1, g2⟩ := dx.get hil
    have hxl := lx _ (List.getElem_mem hil)
    have e1 := val_take_succ 10000 xs hil
    generalize xs[os.length] = x at g2 hxl e1
    have dig : ∀ y : Nat, y < 10000 → val 10000 (ys.take (os.length + 1)) = val 10000 (ys.take os.length) + 10000 ^ os.length * y → p99z14 Tryz.prog K va vb v (I os.length) (I ((x : Int) - c - y)) L hx' := by
      intro y hyl e2
      rw [q99z14]
      have go : ∀ d b : Nat, d < 10000 → b ≤ 1 → d + y + c = x + 10000 * b → p99z18 Tryz.prog K va vb v (I b) (I os.length) (I d) L hx' := by
        intro d b hd hb he
        rw [q99z18]
        refine appD hown hex (by omega) ?_
        intro v' h2 x2 o2
        simp only [q99z19, bin_add, OP_some, inc os.length (by omega), true_and]
        have el : (os ++ [d]).length = os.length + 1 := by simp
        have := hL (v', b, os ++ [d], h2) ⟨x2, o2, hb, hlim.append (fun z hz => by simp at hz; omega), by rw [el]; omega, ?_⟩ (by rw [el]; omega)
        · rw [el] at this
          exact this
        · rw [el]
          show val 10000 (os ++ [d]) + _ = _
          rw [val_append, e1, e2, Nat.pow_succ]
          simp only [val, Nat.mul_zero, Nat.add_zero]
          generalize 10000 ^ os.length = P at *
          generalize val 10000 os = V at *
          clear hL dx dy hx hy hown
          grind
      simp only [bin_lss, OP_some, IfP_dec]
      refine ⟨fun hneg => ?_, fun hpos => ?_⟩
      · obtain ⟨d, hd⟩ : ∃ d : Nat, (x : Int) - c - y + 10000 = d := ⟨((x : Int) - c - y + 10000).toNat, by omega⟩
        simp only [bin_add, OP_some, hd]
        rw [wrap64 (by omega) (by omega)]
        exact go d 1 (by omega) (by omega) (by omega)
      · obtain ⟨d, hd⟩ : ∃ d : Nat, (x : Int) - c - y = d := ⟨((x : Int) - c - y).toNat, by omega⟩
        rw [hd]
        exact go d 0 (by omega) (by omega) (by omega)
    simp only [g1, OP_some, g2, bin_sub, dy.len, bin_lss, IfP_dec]
    rw [wrap64 (n := (x : Int) - c) (by omega) (by omega)]
    refine ⟨fun hly => ?_, fun hgy => ?_⟩
    · obtain ⟨i', k1, k2⟩ := dy.get (j := os.length) (by omega)
      have hyl := ly _ (List.getElem_mem (show os.length < ys.length by omega))
      have e2 := val_take_succ 10000 ys (i := os.length) (by omega)
      generalize ys[os.length]'(by omega) = y at k2 hyl e2
      simp only [k1, OP_some, k2, bin_sub]
      rw [wrap64 (by omega) (by omega)]
      exact dig y hyl e2
    · have := dig 0 (by decide) (by rw [List.take_of_length_le (by omega), List.take_of_length_le (by omega)]; simp)
      simpa using this
  · have hl : os.length = xs.length := by omega
    rw [q99z20]
    rw [hl, List.take_length, List.take_of_length_le hyx] at hval
    have hlt := val_lt hlim
    rw [hl] at hlt
    have hc0 : c = 0 := by
      apply Classical.byContradiction
      intro hne
      have : c = 1 := by omega
      subst this
      omega
    subst hc0
    exact hk v hx' os hex hown.ds hlim (by omega) (by omega)

theorem C98 {va vb : Value} {a b : Nat} {h : Heap} {K : Value → Heap → Prop} (ha : MagZ h va a) (hb : MagZ h vb b) (la : a < bigW) (lb : b < bigW) (hk : K (I (sgn a b)) h) : CallP Tryz.prog 98 [va, vb] h K := by
  obtain ⟨xs, hx, cx, rfl⟩ := ha
  obtain ⟨ys, hy, cy, rfl⟩ := hb
  have l1 := canZ_len cx la
  have l2 := canZ_len cy lb
  have less : val 10000 xs < val 10000 ys → K (.int .i64 (-1)) h := fun h1 => by unfold sgn at hk; rw [if_pos h1] at hk; exact hk
  have more : val 10000 ys < val 10000 xs → K (.int .i64 1) h := fun h1 => by unfold sgn at hk; rw [if_neg (by omega), if_pos h1] at hk; exact hk
  have same : val 10000 xs = val 10000 ys → K (.int .i64 0) h := fun h1 => by unfold sgn at hk; rw [if_neg (by omega), if_neg (by omega)] at hk; exact hk
  refine f98 ?_
  simp only [T98, hx.len, hy.len, OP_some, bin_neq, IfP_ndec, bin_lss, IfP_dec]
  refine ⟨fun hne => ⟨fun hlt => less (Canon.lt_of_len (by decide) cx cy (by omega)), fun hge => more (Canon.lt_of_len (by decide) cy cx (by omega))⟩, fun he => ?_⟩
  have he' : xs.length = ys.length := by omega
  simp only [bin_sub, OP_some]
  have e1 : IntKind.wrap .i64 ((xs.length : Int) - 1) = (xs.length : Int) - 1 := by rw [wrap64 (by omega) (by omega)]
  rw [e1]
  refine loopL (σ := Nat) (fun i => [I ((i : Int) - 1)]) (fun _ => h) (fun i => i ≤ xs.length ∧ xs.drop i = ys.drop i) (fun i => i) xs.length rfl rfl ⟨Nat.le_refl _, by rw [List.drop_length, he', List.drop_length]⟩ ?_
  rintro i ⟨hi, hdr⟩ L hL
  rw [q98z11]
  simp only [bin_geq, OP_some, IfP_dec]
  refine ⟨fun hge => ?_, fun hlt => ?_⟩
  · obtain ⟨j, rfl⟩ : ∃ j, i = j + 1 := ⟨i - 1, by omega⟩
    have ej : (((j + 1 : Nat) : Int) - 1) = (j : Int) := by omega
    rw [ej]
    obtain ⟨ia, a1, a2⟩ := hx.get (j := j) (by omega)
    obtain ⟨ib, b1, b2⟩ := hy.get (j := j) (by omega)
    simp only [a1, a2, b1, b2, OP_some, true_and, bin_lss, IfP_dec]
    refine ⟨fun hlt => less (val_lt_of_top cx.1 cy.1 he' (i := j) (by omega) hdr (by omega)), fun hge => ?_⟩
    simp only [bin_gtr, OP_some, IfP_dec]
    refine ⟨fun hgt => more (val_lt_of_top cy.1 cx.1 he'.symm (i := j) (by omega) hdr.symm (by omega)), fun hle => ?_⟩
    simp only [bin_sub, OP_some]
    rw [wrap64 (by omega) (by omega)]
    refine hL j ⟨by omega, ?_⟩ (by omega)
    rw [List.drop_eq_getElem_cons (by omega), List.drop_eq_getElem_cons (show j < ys.length by omega), hdr]
    congr 1
    omega
  · have : i = 0 := by omega
    subst this
    rw [List.drop_zero, List.drop_zero] at hdr
    exact same (by rw [hdr])

end Go.Proofs.YthplaillblmgfaaGreatDoor


namespace Go.Proofs.YthplaillblmgfaaGreatDoor
open Go.Sim

theorem fin2z {h' : Heap} {j : Nat} {b0 v0 b v : Value} {K : Value → Heap → Prop} (hg : h'[j]? = some (.arr 36 [b0, v0])) (hk : K (.agg #[b, v]) (h'.set j (.arr 36 [b, v]))) :
    OH (oStore 2 h' (pt j 0) (.agg #[b, v])) fun _ h6 => OP (iLoad true 2 h6 (pt j 0)) fun r0 => K r0 h6 := by
  rw [store2 hg]
  simp only [OH_some]
  rw [load2 (set_get hg)]
  exact OP_some.2 hk

structure Box2z (h : Heap) (va vb : Value) (sa sb : Bool) (h3 : Heap) : Prop where
  ex : EX h h3
  a0 : iLoad false 1 h3 (pt h.length 0) = some (B sa)
  a1 : iLoad false 1 h3 (pt h.length 1) = some va
  b0 : iLoad false 1 h3 (pt (h.length + 1) 0) = some (B sb)
  b1 : iLoad false 1 h3 (pt (h.length + 1) 1) = some vb
  a2 : iLoad true 2 h3 (pt h.length 0) = some (.agg #[B sa, va])
  b2 : iLoad true 2 h3 (pt (h.length + 1) 0) = some (.agg #[B sb, vb])
  out : h3[h.length + 2]? = some (.arr 36 [.bool false, .slice none 0 0])

theorem box2z {h : Heap} {va vb : Value} {sa sb : Bool} {K : Value → Value → Value → Heap → Prop} (hk : ∀ h3, Box2z h va vb sa sb h3 → K (pt h.length 0) (pt (h.length + 1) 0) (pt (h.length + 2) 0) h3) :
    OH (iBox 36 h (.agg #[B sa, va])) fun a2 h_1 => OH (iBox 36 h_1 (.agg #[B sb, vb])) fun b3 h_2 => OH (iAlloc 36 [(.bool false), (.slice none 0 0)] h_2) fun x4 h_3 => K a2 b3 x4 h_3 := by
  have e1 : ∀ (g : Heap) (s : Bool) (v : Value), iBox 36 g (.agg #[B s, v]) = some (pt g.length 0, g ++ [.arr 36 [B s, v]]) := fun _ _ _ => rfl
  have e2 : ∀ (g : Heap), iAlloc 36 [(.bool false), (.slice none 0 0)] g = some (pt g.length 0, g ++ [.arr 36 [(.bool false), (.slice none 0 0)]]) := fun _ => rfl
  simp only [e1, e2, OH_some, List.length_append, List.length_cons, List.length_nil]
  have g0 : (h ++ [IObj.arr 36 [B sa, va]] ++ [IObj.arr 36 [B sb, vb]] ++ [IObj.arr 36 [(.bool false), (.slice none 0 0)]])[h.length]? = some (.arr 36 [B sa, va]) := by simp
  have g1 : (h ++ [IObj.arr 36 [B sa, va]] ++ [IObj.arr 36 [B sb, vb]] ++ [IObj.arr 36 [(.bool false), (.slice none 0 0)]])[h.length + 1]? = some (.arr 36 [B sb, vb]) := by simp
  have g2 : (h ++ [IObj.arr 36 [B sa, va]] ++ [IObj.arr 36 [B sb, vb]] ++ [IObj.arr 36 [(.bool false), (.slice none 0 0)]])[h.length + 2]? = some (.arr 36 [(.bool false), (.slice none 0 0)]) := by simp
  refine hk _ ⟨((EX.append _ _).push _).push _, ?_, ?_, ?_, ?_, load2 g0, load2 g1, g2⟩
  · simp [iLoad, objCells, iPart]
  · simp [iLoad, objCells, iPart]
  · simp [iLoad, objCells, iPart]
  · simp [iLoad, objCells, iPart]

theorem build2 {b : Bool} {e : TypeId} {k : IntKind} {h : Heap} {v : Value} {xs : List Nat} (d : DS e k h v xs) : iBuild [(.bool false), (.slice none 0 0)] [(0, 1, B b), (1, 1, v)] = some (.agg #[B b, v]) := by
  rcases d with ⟨rfl, _⟩ | ⟨i, rfl, _⟩ <;> rfl

theorem C62 {va vb : Value} {a b : Int} {h : Heap} {K : Value → Heap → Prop} (ha : ZV h va a) (hb : ZV h vb b) (la : a.natAbs < bigW) (lb : b.natAbs < bigW) (hk : ∀ r h', EX h h' → ZV h' r (a + b) → K r h') : CallP Tryz.prog 62 [va, vb] h K := by
  obtain ⟨v, rfl, hv⟩ := ha
  obtain ⟨w, rfl, hw⟩ := hb
  refine f62 ?_
  unfold T62
  refine box2z ?_
  intro h3 x
  have hv3 := hv.mono x.ex
  have hw3 := hw.mono x.ex
  obtain ⟨xs, dx, cx, ex⟩ := id hv3
  obtain ⟨ys, dy, cy, ey⟩ := id hw3
  have l1 := canZ_len cx (by rw [ex]; exact la)
  have l2 := canZ_len cy (by rw [ey]; exact lb)
  simp only [fadr_pt, Nat.add_zero, Nat.zero_add, OP_some, x.a0, x.a1, x.b0, x.b1, eqb_bool, Bool.false_eq_true, if_false]
  -- the result, put in its place
  have put : ∀ (s : Bool) (u : Value) (os : List Nat) (h4 : Heap) (z : Int), EX h3 h4 → DS 3 .i64 h4 u os → Lim 10000 os → os.length ≤ 500 → (if s then -(val 10000 os : Int) else (val 10000 os : Int)) = z → z = a + b →
      OP (iBuild [(.bool false), (.slice none 0 0)] [(0, 1, B s), (1, 1, u)]) fun x17 => CallP Tryz.prog 95 [x17] h4 fun x18 h_5 => OH (oStore 2 h_5 (pt (h.length + 2) 0) x18) fun _ h_6 => OP (iLoad true 2 h_6 (pt (h.length + 2) 0)) fun r0 => K r0 h_6 := by
    intro s u os h4 z x4 d4 l4 s4 hz hz2
    simp only [build2 d4, OP_some]
    refine C95 d4 l4 (by omega) ?_
    intro r h5 x5 zr
    rw [hz, hz2] at zr
    obtain ⟨q, rfl, hq⟩ := id zr
    have g' := (x4.trans x5).get x.out
    exact fin2z g' (hk _ _ (((x.ex.trans x4).trans x5).set (by omega) _) (zr.setB g' _))
  refine IfP_of (fun he => ?_) fun hne => ?_
  · have hs : decide (a < 0) = decide (b < 0) := by simpa using he
    have hs' : (a < 0 ↔ b < 0) := by simpa using hs
    simp only [true_and]
    refine C97 dx dy cx.1 cy.1 (by omega) (by omega) ?_
    intro u h4 os x4 d4 l4 s4 v4
    refine ⟨⟨EX.load x4 x.a0, trivial⟩, ?_⟩
    have := put (decide (a < 0)) u os h4 _ x4 d4 l4 s4 rfl (by
      rw [v4, ex, ey]
      by_cases h0 : a < 0
      · rw [decide_eq_true h0]; simp; omega
      · rw [decide_eq_false h0]; simp; omega)
    simpa using this
  · have hs : decide (a < 0) ≠ decide (b < 0) := by simpa using hne
    have hs' : ¬ (a < 0 ↔ b < 0) := fun h => hs (decide_eq_decide.2 h)
    refine C98 hv3 hw3 la lb ?_
    simp only [bin_geq, OP_some, IfP_dec]
    have ll : ∀ {p q : List Nat}, Canon 10000 p → Canon 10000 q → val 10000 q ≤ val 10000 p → q.length ≤ p.length := by
      intro p q cp cq hpq
      apply Classical.byContradiction
      intro hc
      have := Canon.lt_of_len (by decide) cp cq (by omega)
      omega
    refine ⟨fun hge => ?_, fun hlt => ?_⟩
    · have hle : b.natAbs ≤ a.natAbs := by
        apply Classical.byContradiction
        intro hc
        unfold sgn at hge
        rw [if_pos (by omega)] at hge
        omega
      simp only [x.a0, x.a1, x.b1, OP_some, true_and]
      refine C99 dx dy cx.1 cy.1 (by omega) (ll cx cy (by omega)) (by omega) ?_
      intro u h4 os x4 d4 l4 s4 v4
      refine ⟨⟨EX.load x4 x.a0, trivial⟩, ?_⟩
      have := put (decide (a < 0)) u os h4 _ x4 d4 l4 s4 rfl (by
        rw [v4, ex, ey]
        by_cases h0 : a < 0
        · rw [decide_eq_true h0]; simp; omega
        · rw [decide_eq_false h0]; simp; omega)
      simpa using this
    · have hle : a.natAbs ≤ b.natAbs := by
        apply Classical.byContradiction
        intro hc
        unfold sgn at hlt
        rw [if_neg (by omega), if_pos (by omega)] at hlt
        omega
      simp only [x.b0, x.a1, x.b1, OP_some, true_and]
      refine C99 dy dx cy.1 cx.1 (by omega) (ll cy cx (by omega)) (by omega) ?_
      intro u h4 os x4 d4 l4 s4 v4
      refine ⟨⟨EX.load x4 x.b0, trivial⟩, ?_⟩
      have := put (decide (b < 0)) u os h4 _ x4 d4 l4 s4 rfl (by
        rw [v4, ex, ey]
        by_cases h0 : b < 0
        · rw [decide_eq_true h0]; simp; omega
        · rw [decide_eq_false h0]; simp; omega)
      simpa using this

theorem MagZ.len0 {h : Heap} {v : Value} {n : Nat} (p : MagZ h v n) : ∃ l : Nat, iLenSl v = some (I l) ∧ (0 < l ↔ 0 < n) := by
  obtain ⟨xs, d, c, rfl⟩ := p
  refine ⟨xs.length, d.len, ?_⟩
  constructor
  · intro h0
    have := Canon.low (by decide) c (by rintro rfl; simp at h0)
    have : 0 < 10000 ^ (xs.length - 1) := Nat.pow_pos (by decide)
    omega
  · intro h0
    cases xs with
    | nil => simp [val] at h0
    | cons x xs => simp

theorem C92 {va : Value} {a : Int} {h : Heap} {K : Value → Heap → Prop} (ha : ZV h va a) (hk : ∀ r h', EX h h' → ZV h' r (-a) → K r h') : CallP Tryz.prog 92 [va] h K := by
  obtain ⟨v, rfl, hv⟩ := ha
  refine f92 ?_
  have e1 : iBox 36 h (.agg #[B (decide (a < 0)), v]) = some (pt h.length 0, h ++ [.arr 36 [B (decide (a < 0)), v]]) := rfl
  have e2 : ∀ (g : Heap), iAlloc 36 [(.bool false), (.slice none 0 0)] g = some (pt g.length 0, g ++ [.arr 36 [(.bool false), (.slice none 0 0)]]) := fun _ => rfl
  simp only [T92, e1, e2, OH_some, List.length_append, List.length_cons, List.length_nil]
  have g0 : (h ++ [IObj.arr 36 [B (decide (a < 0)), v]] ++ [IObj.arr 36 [(.bool false), (.slice none 0 0)]])[h.length]? = some (.arr 36 [B (decide (a < 0)), v]) := by simp
  have g1 : (h ++ [IObj.arr 36 [B (decide (a < 0)), v]] ++ [IObj.arr 36 [(.bool false), (.slice none 0 0)]])[h.length + 1]? = some (.arr 36 [(.bool false), (.slice none 0 0)]) := by simp
  have x1 : EX h (h ++ [IObj.arr 36 [B (decide (a < 0)), v]] ++ [IObj.arr 36 [(.bool false), (.slice none 0 0)]]) := (EX.append _ _).push _
  generalize h ++ [IObj.arr 36 [B (decide (a < 0)), v]] ++ [IObj.arr 36 [(.bool false), (.slice none 0 0)]] = h1 at g0 g1 x1 ⊢
  have l0 : iLoad false 1 h1 (pt h.length 0) = some (B (decide (a < 0))) := by simp [iLoad, objCells, g0, iPart]
  have l1 : iLoad false 1 h1 (pt h.length 1) = some v := by simp [iLoad, objCells, g0, iPart]
  have hv1 := hv.mono x1
  obtain ⟨l, n1, n2⟩ := hv1.len0
  have last : ∀ c : Bool, c = decide (-a < 0) → OH (oStore 1 h1 (pt h.length 0) (B c)) fun _ h_1 => OP (iLoad true 2 h_1 (pt h.length 0)) fun x13 => OH (oStore 2 h_1 (pt (h.length + 1) 0) x13) fun _ h_2 => OP (iLoad true 2 h_2 (pt (h.length + 1) 0)) fun r0 => K r0 h_2 := by
    rintro c rfl
    rw [store_at g0 (by simp) rfl rfl]
    simp only [OH_some, List.set_cons_zero]
    rw [load2 (set_get g0)]
    simp only [OP_some]
    have m1 : (h1.set h.length (.arr 36 [B (decide (-a < 0)), v]))[h.length + 1]? = some (.arr 36 [(.bool false), (.slice none 0 0)]) := by rw [List.getElem?_set_ne (by omega)]; exact g1
    refine fin2z m1 (hk _ _ ((x1.set (Nat.le_refl _) _).set (by omega) _) ⟨v, rfl, ?_⟩)
    have : (-a).natAbs = a.natAbs := by omega
    rw [this]
    exact (hv1.setB g0 _).setB m1 _
  simp only [fadr_pt, Nat.add_zero, OP_some, l0, un_not]
  by_cases h0 : a < 0
  · rw [decide_eq_true h0]
    simp only [Bool.not_true, q92z4, GdP_ft, q92z6, iPick_f, OP_some, fadr_pt, Nat.add_zero]
    rw [decide_eq_true h0] at *
    exact last _ (by simp; omega)
  · rw [decide_eq_false h0]
    simp only [Bool.not_false, q92z4, GdP_tt, fadr_pt, Nat.zero_add, OP_some, l1, n1, bin_gtr, q92z6, iPick_t, Nat.add_zero]
    refine last _ ?_
    rw [decide_eq_decide]
    omega

theorem C94 {va vb : Value} {a b : Int} {h : Heap} {K : Value → Heap → Prop} (ha : ZV h va a) (hb : ZV h vb b) (la : a.natAbs < bigW) (lb : b.natAbs < bigW) (hk : ∀ r h', EX h h' → ZV h' r (a - b) → K r h') : CallP Tryz.prog 94 [va, vb] h K := by
  have ha0 := ha
  have hb0 := hb
  obtain ⟨v, rfl, hv⟩ := ha
  obtain ⟨w, rfl, hw⟩ := hb
  refine f94 ?_
  unfold T94
  refine box2z ?_
  intro h3 x
  simp only [OP_some, x.a2, x.b2, true_and]
  refine C92 (hb0.mono x.ex) ?_
  intro r1 h4 x4 i1
  refine ⟨⟨EX.load x4 x.a2, trivial⟩, ?_⟩
  refine C62 (ha0.mono (x.ex.trans x4)) i1 la (by rw [Int.natAbs_neg]; exact lb) ?_
  intro r2 h5 x5 i2
  have g' := (x4.trans x5).get x.out
  obtain ⟨u, rfl, hu⟩ := id i2
  refine fin2z g' (hk _ _ (((x.ex.trans x4).trans x5).set (by omega) _) ?_)
  rw [Int.sub_eq_add_neg]
  exact i2.setB g' _

def isgn (z : Int) : Int := if z = 0 then 0 else if z < 0 then -1 else 1

theorem C93 {va : Value} {a : Int} {h : Heap} {K : Value → Heap → Prop} (ha : ZV h va a) (hk : ∀ h', EX h h' → K (I (isgn a)) h') : CallP Tryz.prog 93 [va] h K := by
  obtain ⟨v, rfl, hv⟩ := ha
  refine f93 ?_
  have e1 : iBox 36 h (.agg #[B (decide (a < 0)), v]) = some (pt h.length 0, h ++ [.arr 36 [B (decide (a < 0)), v]]) := rfl
  simp only [T93, e1, OH_some]
  have l0 : iLoad false 1 (h ++ [.arr 36 [B (decide (a < 0)), v]]) (pt h.length 0) = some (B (decide (a < 0))) := load_last rfl
  have l1 : iLoad false 1 (h ++ [.arr 36 [B (decide (a < 0)), v]]) (pt h.length 1) = some v := load_last rfl
  have x1 : EX h (h ++ [.arr 36 [B (decide (a < 0)), v]]) := EX.append _ _
  obtain ⟨l, n1, n2⟩ := hv.len0
  have hk' := hk _ x1
  unfold isgn at hk'
  simp only [fadr_pt, Nat.zero_add, Nat.add_zero, OP_some, l1, n1, bin_eql, IfP_dec, l0]
  refine ⟨fun h0 => ?_, fun h0 => ⟨fun hn => ?_, fun hn => ?_⟩⟩
  · rw [if_pos (by omega)] at hk'; exact hk'
  · rw [if_neg (by omega), if_pos hn] at hk'; exact hk'
  · rw [if_neg (by omega), if_neg hn] at hk'; exact hk'

theorem C52 {va vb : Value} {a b : Int} {h : Heap} {K : Value → Heap → Prop} (ha : ZV h va a) (hb : ZV h vb b) (la : a.natAbs < bigW) (lb : b.natAbs < bigW) (hk : ∀ h', EX h h' → K (I (isgn (a - b))) h') : CallP Tryz.prog 52 [va, vb] h K := by
  have ha0 := ha
  have hb0 := hb
  obtain ⟨v, rfl, hv⟩ := ha
  obtain ⟨w, rfl, hw⟩ := hb
  refine f52 ?_
  have e1 : ∀ (g : Heap) (s : Bool) (v : Value), iBox 36 g (.agg #[B s, v]) = some (pt g.length 0, g ++ [.arr 36 [B s, v]]) := fun _ _ _ => rfl
  simp only [T52, e1, OH_some, List.length_append, List.length_cons, List.length_nil]
  have g0 : (h ++ [IObj.arr 36 [B (decide (a < 0)), v]] ++ [IObj.arr 36 [B (decide (b < 0)), w]])[h.length]? = some (.arr 36 [B (decide (a < 0)), v]) := by simp
  have g1 : (h ++ [IObj.arr 36 [B (decide (a < 0)), v]] ++ [IObj.arr 36 [B (decide (b < 0)), w]])[h.length + 1]? = some (.arr 36 [B (decide (b < 0)), w]) := by simp
  have x1 : EX h (h ++ [IObj.arr 36 [B (decide (a < 0)), v]] ++ [IObj.arr 36 [B (decide (b < 0)), w]]) := (EX.append _ _).push _
  simp only [Nat.zero_add, load2 g0, load2 g1, OP_some]
  refine C94 (ha0.mono x1) (hb0.mono x1) la lb ?_
  intro r h2 x2 zr
  refine C93 zr ?_
  intro h3 x3
  exact hk h3 ((x1.trans x2).trans x3)

end Go.Proofs.YthplaillblmgfaaGreatDoor


namespace Go.Proofs.YthplaillblmgfaaGreatDoor
open Go.Sim

theorem appD' {b : Nat} {hx : Heap} {v : Value} {os : List Nat} {d : Nat} {K : Value → Heap → Prop} (hb : b ≤ hx.length) (o : OwnD b hx v os) (hl : os.length ≤ 10000)
    (hk : ∀ v' hx', (∀ d, d < b → hx'[d]? = hx[d]?) → b ≤ hx'.length → OwnD b hx' v' (os ++ [d]) → K v' hx') : OH (iMkSl 3 1 [.int .i64 0] hx [(0, 1, I d)]) fun a h2 => OH (iApp 3 1 8 h2 v a) K := by
  have hlen : (hx.take b).length = b := by rw [List.length_take]; omega
  have hex : EX (hx.take b) hx := by
    refine ⟨by omega, fun i hi => ?_⟩
    rw [List.getElem?_take_of_lt (by omega)]
  refine appD (h0 := hx.take b) (by rw [hlen]; exact o) hex hl ?_
  intro v' hx' x o'
  rw [hlen] at o'
  refine hk v' hx' (fun d hd => ?_) (by have := x.1; omega) o'
  rw [x.2 d (by omega), List.getElem?_take_of_lt hd]

theorem OwnD.set {b j : Nat} {hx : Heap} {v : Value} {os : List Nat} (o : OwnD b hx v os) (hj : j < b) (x : IObj) : OwnD b (hx.set j x) v os :=
  OwnS.keep o fun d _ _ hd => by rw [List.getElem?_set_ne (by omega)]

theorem remI {a : Int} {b : Nat} (hb : b ≠ 0) : iBin .rem (.int .i64 a) (.int .i64 (b : Int)) = some (I (a.tmod b)) := by
  have h : ¬ ((b : Int) = 0) := by omega
  simp only [iBin, iInt, if_true, if_neg h]
theorem quoII {a : Int} {b : Nat} (hb : b ≠ 0) (h1 : -9223372036854775808 < a) (h2 : a < 9223372036854775808) : iBin .quo (.int .i64 a) (.int .i64 (b : Int)) = some (I (a.tdiv b)) := by
  have h : ¬ ((b : Int) = 0) := by omega
  have h3 : (a.tdiv b).natAbs ≤ a.natAbs := by
    rw [Int.natAbs_tdiv, Int.natAbs_natCast]; exact Nat.div_le_self _ _
  simp only [iBin, iInt, if_true, if_neg h]
  rw [wrap64 (by omega) (by omega)]

theorem C22 {z : Int} {h : Heap} {K : Value → Heap → Prop} (hz : z.natAbs < 1000000000000000000) (hk : ∀ r h', EX h h' → ZV h' r z → K r h') : CallP Tryz.prog 22 [I z] h K := by
  refine f22 ?_
  have e2 : ∀ g : Heap, iAlloc 36 [(.bool false), (.slice none 0 0)] g = some (pt g.length 0, g ++ [.arr 36 [(.bool false), (.slice none 0 0)]]) := fun _ => rfl
  have e3 : ∀ b : Bool, iBuild [(.bool false), (.slice none 0 0)] [(0, 1, B b)] = some (.agg #[B b, .slice none 0 0]) := fun _ => rfl
  simp only [T22, e2, OH_some, bin_lss, OP_some, e3, List.length_append, List.length_cons, List.length_nil]
  have g1 : (h ++ [IObj.arr 36 [(.bool false), (.slice none 0 0)]] ++ [IObj.arr 36 [(.bool false), (.slice none 0 0)]])[h.length + 1]? = some (.arr 36 [(.bool false), (.slice none 0 0)]) := by simp
  have g0 : (h ++ [IObj.arr 36 [(.bool false), (.slice none 0 0)]] ++ [IObj.arr 36 [(.bool false), (.slice none 0 0)]])[h.length]? = some (.arr 36 [(.bool false), (.slice none 0 0)]) := by simp
  have x1 : EX h (h ++ [IObj.arr 36 [(.bool false), (.slice none 0 0)]] ++ [IObj.arr 36 [(.bool false), (.slice none 0 0)]]) := (EX.append _ _).push _
  have hl1 : (h ++ [IObj.arr 36 [(.bool false), (.slice none 0 0)]] ++ [IObj.arr 36 [(.bool false), (.slice none 0 0)]]).length = h.length + 2 := by simp
  generalize h ++ [IObj.arr 36 [(.bool false), (.slice none 0 0)]] ++ [IObj.arr 36 [(.bool false), (.slice none 0 0)]] = h1 at *
  simp only [Nat.zero_add]
  rw [store2 g1]
  simp only [OH_some]
  refine loopL (σ := Int × List Nat × Value × Heap) (fun p => [I p.1]) (fun p => p.2.2.2)
    (fun p => h.length + 2 ≤ p.2.2.2.length ∧ EX h p.2.2.2 ∧ p.2.2.2[h.length]? = some (.arr 36 [.bool false, .slice none 0 0]) ∧ p.2.2.2[h.length + 1]? = some (.arr 36 [B (decide (z < 0)), p.2.2.1]) ∧ OwnD (h.length + 2) p.2.2.2 p.2.2.1 p.2.1 ∧ Lim 10000 p.2.1 ∧ p.2.1.length ≤ 5 ∧ p.1.natAbs < 10000 ^ (5 - p.2.1.length) ∧ val 10000 p.2.1 + 10000 ^ p.2.1.length * p.1.natAbs = z.natAbs ∧ (p.1 = 0 → Canon 10000 p.2.1)) (fun p => p.1.natAbs)
    (z, [], .slice none 0 0, h1.set (h.length + 1) (.arr 36 [B (decide (z < 0)), .slice none 0 0])) rfl rfl
    ⟨by simp [hl1], x1.set (by omega) _, by rw [List.getElem?_set_ne (by omega)]; exact g0, set_get g1, .inl ⟨rfl, rfl⟩, fun _ hx => by simp at hx, by simp, by simp; omega, by simp [val], fun _ => Canon.nil _⟩ ?_
  rintro ⟨a, os, v, hx⟩ ⟨hlen, hex, k0, k1, hown, hlim, hol, hab, hval, hcan⟩ L hL
  simp only at hlen hex k0 k1 hown hlim hol hab hval hcan hL ⊢
  rw [q22z5]
  simp only [bin_neq, OP_some, IfP_ndec]
  refine ⟨fun hne => ?_, fun heq => ?_⟩
  · have ha0 : a ≠ 0 := hne
    have hzle : a.natAbs ≤ z.natAbs := by
      have : 1 * a.natAbs ≤ 10000 ^ os.length * a.natAbs := Nat.mul_le_mul_right _ (Nat.pow_pos (by decide))
      omega
    have hol' : os.length < 5 := by
      apply Classical.byContradiction
      intro hc
      have : 5 - os.length = 0 := by omega
      rw [this] at hab
      omega
    have hmod : (a.tmod 10000).natAbs = a.natAbs % 10000 := Int.natAbs_tmod _ _
    have hdiv : (a.tdiv 10000).natAbs = a.natAbs / 10000 := Int.natAbs_tdiv _ _
    have step : p22z12 Tryz.prog K (I a) (pt h.length 0) (pt (h.length + 1) 0) (I ((a.natAbs % 10000 : Nat) : Int)) L hx := by
      rw [q22z12]
      have ld : iLoad false 1 hx (pt (h.length + 1) 1) = some v := by simp [iLoad, objCells, k1, iPart]
      simp only [fadr_pt, Nat.zero_add, OP_some, ld]
      refine appD' hlen hown (by omega) ?_
      intro v' hx' hs hl' hown'
      have k1' : hx'[h.length + 1]? = some (.arr 36 [B (decide (z < 0)), v]) := by rw [hs _ (by omega)]; exact k1
      rw [store_at k1' (by simp) hown'.ds.one.1 hown'.ds.one.2]
      simp only [OH_some, List.set_cons_succ, List.set_cons_zero]
      rw [show (.int .i64 10000 : Value) = .int .i64 ((10000 : Nat) : Int) from rfl, quoII (by decide) (by omega) (by omega)]
      simp only [OP_some, true_and]
      have hdm := Nat.mod_add_div a.natAbs 10000
      have el : (os ++ [a.natAbs % 10000]).length = os.length + 1 := by simp
      have hm : a.natAbs % 10000 < 10000 := Nat.mod_lt _ (by decide)
      have hdiv' : (a.tdiv ((10000 : Nat) : Int)).natAbs = a.natAbs / 10000 := hdiv
      refine hL (a.tdiv ((10000 : Nat) : Int), os ++ [a.natAbs % 10000], v', hx'.set (h.length + 1) (.arr 36 [B (decide (z < 0)), v'])) ⟨?_, ?_, ?_, set_get k1', hown'.set (by omega) _, hlim.append (fun y hy => by simp at hy; omega), by rw [el]; omega, ?_, ?_, ?_⟩ ?_
      · rw [List.length_set]; exact hl'
      · refine EX.set ⟨by have := hex.1; omega, fun i hi => ?_⟩ (by omega) _
        rw [hs i (by omega)]; exact hex.2 i hi
      · rw [List.getElem?_set_ne (by omega), hs _ (by omega)]; exact k0
      · show (a.tdiv ((10000 : Nat) : Int)).natAbs < _
        rw [el, hdiv']
        have : 5 - os.length = (5 - (os.length + 1)) + 1 := by omega
        rw [this, Nat.pow_succ] at hab
        exact Nat.div_lt_of_lt_mul (by rw [Nat.mul_comm]; exact hab)
      · show val 10000 (os ++ [a.natAbs % 10000]) + 10000 ^ (os ++ [a.natAbs % 10000]).length * (a.tdiv ((10000 : Nat) : Int)).natAbs = _
        rw [el, val_append, hdiv', ← hval, Nat.pow_succ]
        simp only [val, Nat.mul_zero, Nat.add_zero]
        have := congrArg (10000 ^ os.length * ·) hdm
        rw [Nat.mul_add] at this
        rw [← this, Nat.mul_assoc, Nat.add_assoc]
      · intro h0
        have h0' : a.natAbs / 10000 = 0 := by
          have h0b : a.tdiv ((10000 : Nat) : Int) = 0 := h0
          rw [← hdiv', h0b]; rfl
        refine can_of_last (hlim.append (fun y hy => by simp at hy; omega)) ?_
        intro h1 h2
        simp only [el, Nat.add_sub_cancel] at h2
        rw [List.getElem_append_right (Nat.le_refl _)] at h2
        simp at h2
        omega
      · show (a.tdiv ((10000 : Nat) : Int)).natAbs < a.natAbs
        rw [hdiv']
        exact Nat.div_lt_self (by omega) (by decide)
    rw [show (.int .i64 10000 : Value) = .int .i64 ((10000 : Nat) : Int) from rfl, remI (by decide)]
    simp only [OP_some, bin_lss, IfP_dec]
    have hmod' : (a.tmod ((10000 : Nat) : Int)).natAbs = a.natAbs % 10000 := hmod
    refine ⟨fun hn => ?_, fun hn => ?_⟩
    · have e4 : iUn .neg (I (a.tmod ((10000 : Nat) : Int))) = some (I (-(a.tmod ((10000 : Nat) : Int)))) := by
        simp only [iUn]
        rw [wrap64 (by omega) (by omega), Int.zero_sub]
      rw [e4]
      simp only [OP_some]
      rw [show -(a.tmod ((10000 : Nat) : Int)) = ((a.natAbs % 10000 : Nat) : Int) by omega]
      exact step
    · rw [show a.tmod ((10000 : Nat) : Int) = ((a.natAbs % 10000 : Nat) : Int) by omega]
      exact step
  · have ha : a = 0 := heq
    subst ha
    rw [q22z14]
    rw [load2 k1]
    simp only [OP_some]
    rw [store2 k0]
    simp only [OH_some]
    rw [load2 (set_get k0)]
    refine OP_some.2 (hk _ _ (hex.set (Nat.le_refl _) _) ⟨v, rfl, os, hown.ds.setB k0 _, hcan rfl, ?_⟩)
    simpa using hval


abbrev hz (h : Heap) (os : List Nat) : Heap := h ++ [.arr 3 (os.map fun d : Nat => I d)]

theorem make_hz {h : Heap} {n : Nat} (hn : n ≤ 1000) : iMake 3 8 [.int .i64 0] h (I n) (I n) = some (sl 3 h.length 0 n, hz h (List.replicate n 0)) := by
  have hzr : ∀ m, zrep [Value.int .i64 0] m = (List.replicate m 0).map fun d : Nat => I d := by
    intro m
    induction m with
    | zero => rfl
    | succ m ih =>
      have : zrep [Value.int .i64 0] (m + 1) = Value.int .i64 0 :: zrep [Value.int .i64 0] m := by simp [zrep, List.replicate_succ]
      rw [this, ih, List.replicate_succ]; rfl
  simp only [iMake]
  rw [if_pos ⟨by omega, by omega, by omega, by omega⟩, Int.toNat_natCast, hzr]

theorem hz_get (h : Heap) (os : List Nat) : (hz h os)[h.length]? = some (.arr 3 (os.map fun d : Nat => I d)) := by simp [hz]

theorem hz_store {h : Heap} {os : List Nat} {j : Nat} (d : Nat) (hj : j < os.length) : oStore 1 (hz h os) (pt h.length j) (I d) = some (undef, hz h (os.set j d)) := by
  rw [store_at (hz_get h os) (by simpa using hj) rfl rfl]
  simp [hz, List.map_set]

theorem hz_load {h : Heap} {os : List Nat} {j : Nat} (hj : j < os.length) : iLoad false 1 (hz h os) (pt h.length j) = some (I os[j]) := by
  simp [iLoad, objCells, hz_get, iPart, hj]

theorem hz_DS (h : Heap) (os : List Nat) : DS 3 .i64 (hz h os) (sl 3 h.length 0 os.length) os := .inr ⟨h.length, rfl, .inr ⟨[], by simp [objCells, hz]⟩⟩
theorem hz_EX (h : Heap) (os : List Nat) : EX h (hz h os) := EX.append _ _

theorem mul_lt4 {x y : Nat} (hx : x < 10000) (hy : y < 10000) : x * y ≤ 99980001 := by
  have := Nat.mul_le_mul (show x ≤ 9999 by omega) (show y ≤ 9999 by omega)
  omega

theorem sgn_mul (a b : Int) : (if (!(decide (a < 0) == decide (b < 0))) = true then -((a.natAbs * b.natAbs : Nat) : Int) else ((a.natAbs * b.natAbs : Nat) : Int)) = a * b := by
  have ea : (a.natAbs : Int) = if a < 0 then -a else a := by split <;> omega
  have eb : (b.natAbs : Int) = if b < 0 then -b else b := by split <;> omega
  rw [Int.natCast_mul, ea, eb]
  by_cases h1 : a < 0 <;> by_cases h2 : b < 0 <;> simp [h1, h2, Int.neg_mul, Int.mul_neg]

theorem C53 {va vb : Value} {a b : Int} {h : Heap} {K : Value → Heap → Prop} (ha : ZV h va a) (hb : ZV h vb b) (la : a.natAbs < bigW) (lb : b.natAbs < bigW) (hk : ∀ r h', EX h h' → ZV h' r (a * b) → K r h') : CallP Tryz.prog 53 [va, vb] h K := by
  obtain ⟨v, rfl, hv⟩ := ha
  obtain ⟨w, rfl, hw⟩ := hb
  refine f53 ?_
  unfold T53
  refine box2z ?_
  intro h3 x
  obtain ⟨xs, dx, cx, ex⟩ := hv.mono x.ex
  obtain ⟨ys, dy, cy, ey⟩ := hw.mono x.ex
  have l1 := canZ_len cx (by rw [ex]; exact la)
  have l2 := canZ_len cy (by rw [ey]; exact lb)
  have hB : (0 : Nat) < 10000 := by decide
  have e0 : IntKind.wrap .i64 ((xs.length : Int) + (ys.length : Int)) = ((xs.length + ys.length : Nat) : Int) := by rw [wrap64 (by omega) (by omega)]; omega
  simp only [fadr_pt, Nat.add_zero, Nat.zero_add, OP_some, x.a1, x.b1, dx.len, dy.len, bin_add, e0, inc (xs.length + ys.length) (by omega), make_hz (show xs.length + ys.length + 1 ≤ 1000 by omega), OH_some]
  refine loopL (σ := Nat × List Nat) (fun p => [I p.1]) (fun p => hz h3 p.2)
    (fun p => p.1 ≤ xs.length ∧ p.2.length = xs.length + ys.length + 1 ∧ Lim 10000 p.2 ∧ (∀ j (hj : j < p.2.length), p.1 + ys.length ≤ j → p.2[j] = 0) ∧ val 10000 p.2 = val 10000 (xs.take p.1) * val 10000 ys) (fun p => xs.length - p.1)
    (0, List.replicate (xs.length + ys.length + 1) 0) rfl rfl ⟨by simp, by simp, Lim.zeros hB _, by simp, by simp [val_zeros, val]⟩ ?_
  rintro ⟨i, os⟩ ⟨hi, hol, hlim, hzr, hval⟩ L hL
  simp only at hi hol hlim hzr hval hL ⊢
  have ldA : ∀ ps, iLoad false 1 (hz h3 ps) (pt h.length 1) = some v := fun ps => EX.load (hz_EX h3 ps) x.a1
  have ldB : ∀ ps, iLoad false 1 (hz h3 ps) (pt (h.length + 1) 1) = some w := fun ps => EX.load (hz_EX h3 ps) x.b1
  rw [q53z6]
  simp only [fadr_pt, Nat.add_zero, Nat.zero_add, ldA, dx.len, bin_lss, OP_some, IfP_dec]
  refine ⟨fun hlt => ?_, fun hge => ?_⟩
  · have hil : i < xs.length := by omega
    have hxl : xs[i] < 10000 := cx.1 _ (List.getElem_mem hil)
    have hvt := val_take_succ 10000 xs hil
    refine loopL (σ := Nat × Nat × List Nat) (fun p => [I p.1, I p.2.1]) (fun p => hz h3 p.2.2)
      (fun p => p.2.1 ≤ ys.length + 1 ∧ (p.2.1 = ys.length + 1 → p.1 = 0) ∧ p.1 < 10000 ∧ p.2.2.length = xs.length + ys.length + 1 ∧ Lim 10000 p.2.2 ∧ (∀ j (hj : j < p.2.2.length), i + ys.length + 1 ≤ j → p.2.2[j] = 0) ∧ (p.2.1 ≤ ys.length → ∀ j (hj : j < p.2.2.length), i + ys.length ≤ j → p.2.2[j] = 0) ∧ val 10000 p.2.2 + 10000 ^ (i + p.2.1) * p.1 = val 10000 os + 10000 ^ i * (xs[i] * val 10000 (ys.take p.2.1))) (fun p => ys.length + 1 - p.2.1)
      (0, 0, os) rfl rfl ⟨by simp, by simp, hB, hol, hlim, fun j hj h => hzr j hj (by omega), fun _ => hzr, by simp [val]⟩ ?_
    rintro ⟨c, k, ps⟩ ⟨hk0, hkc, hc, hpl, hplim, hpz, hpz2, hpval⟩ L2 hL2
    simp only at hk0 hkc hc hpl hplim hpz hpz2 hpval hL2 ⊢
    have dx' := dx.mono (hz_EX h3 ps)
    have dy' := dy.mono (hz_EX h3 ps)
    have hpk : i + k < ps.length := by omega
    have hol2 : ps[i + k] < 10000 := hplim _ (List.getElem_mem hpk)
    have ei : IntKind.wrap .i64 ((i : Int) + (k : Int)) = ((i + k : Nat) : Int) := by rw [wrap64 (by omega) (by omega)]; omega
    -- the next digit
    have step : ∀ p : Nat, p ≤ 99980001 → k < ys.length + 1 → (k = ys.length → p = 0) → xs[i] * val 10000 (ys.take (k + 1)) = xs[i] * val 10000 (ys.take k) + 10000 ^ k * p →
        p53z26 Tryz.prog K (pt h.length 0) (pt (h.length + 1) 0) (pt (h.length + 2) 0) (sl 3 h3.length 0 (xs.length + ys.length + 1)) (I i) (I k) (I ((ps[i + k] + c + p : Nat) : Int)) L L2 (hz h3 ps) := by
      intro p hp hkl hkp hpv
      rw [q53z26]
      have hset := val_set 10000 ps (i + k) ((ps[i + k] + c + p) % 10000) hpk
      have hmod : (ps[i + k] + c + p) % 10000 < 10000 := Nat.mod_lt _ hB
      have hdm := Nat.mod_add_div (ps[i + k] + c + p) 10000
      have hdiv : (ps[i + k] + c + p) / 10000 < 10000 := by omega
      have hend : k = ys.length → (ps[i + k] + c + p) / 10000 = 0 := by
        intro hke
        have := hpz2 (by omega) (i + k) hpk (by omega)
        rw [this, hkp hke]
        omega
      simp only [bin_add, ei, OP_some]
      rw [show (.int .i64 10000 : Value) = .int .i64 ((10000 : Nat) : Int) from rfl, rem_nat _ _ _ (by decide), quoI (by decide) (by omega)]
      simp only [OP_some]
      rw [adr_sl (show i + k < xs.length + ys.length + 1 by omega)]
      simp only [OP_some]
      rw [hz_store _ hpk]
      simp only [OH_some, q53z27, bin_add, OP_some, inc k (by omega), true_and]
      refine hL2 ((ps[i + k] + c + p) / 10000, k + 1, ps.set (i + k) ((ps[i + k] + c + p) % 10000)) ⟨by show k + 1 ≤ ys.length + 1; omega, fun h => hend (by simp only at h; omega), hdiv, by show (ps.set _ _).length = _; rw [List.length_set]; exact hpl, hplim.set hmod _, ?_, ?_, ?_⟩ (by show ys.length + 1 - (k + 1) < ys.length + 1 - k; omega)
      · intro j hj hij
        show (ps.set (i + k) _)[j] = 0
        rw [List.getElem_set_ne (by omega)]
        exact hpz j (by simpa using hj) hij
      · intro hk1 j hj hij
        have hk2 : k + 1 ≤ ys.length := hk1
        show (ps.set (i + k) _)[j] = 0
        rw [List.getElem_set_ne (by omega)]
        exact hpz2 (by omega) j (by simpa using hj) hij
      · show val 10000 (ps.set (i + k) _) + 10000 ^ (i + (k + 1)) * _ = val 10000 os + 10000 ^ i * (xs[i] * val 10000 (ys.take (k + 1)))
        rw [hpv, ← Nat.add_assoc, Nat.pow_succ]
        rw [Nat.pow_add] at hset hpval ⊢
        generalize ps[i + k] = o at *
        generalize (o + c + p) % 10000 = m at *
        generalize (o + c + p) / 10000 = q at *
        generalize xs[i] * val 10000 (ys.take k) = v at *
        generalize val 10000 (ps.set (i + k) m) = s1 at *
        generalize val 10000 ps = s0 at *
        generalize val 10000 os = s2 at *
        generalize 10000 ^ i = P at *
        generalize 10000 ^ k = Q at *
        clear hL2 hL dx dy dx' dy' hv hw x ldA ldB
        have h1 : P * Q * (m + 10000 * q) = P * Q * (o + c + p) := by rw [hdm]
        grind
    have body : k < ys.length + 1 → OP (iBin .add (I i) (I k)) fun x40 => OP (iAdrSl 1 (sl 3 h3.length 0 (xs.length + ys.length + 1)) x40) fun x41 => OP (iLoad false 1 (hz h3 ps) x41) fun x42 => OP (iBin .add x42 (I c)) fun x44 =>
        OP (iLenSl w) fun x48 => OP (iBin .lss (I k) x48) fun x49 => IfP x49
          (OP (iAdrSl 1 v (I i)) fun x54 => OP (iLoad false 1 (hz h3 ps) x54) fun x55 => OP (iAdrSl 1 w (I k)) fun x59 => OP (iLoad false 1 (hz h3 ps) x59) fun x60 => OP (iBin .mul x55 x60) fun x61 => OP (iBin .add x44 x61) fun x62 =>
            p53z26 Tryz.prog K (pt h.length 0) (pt (h.length + 1) 0) (pt (h.length + 2) 0) (sl 3 h3.length 0 (xs.length + ys.length + 1)) (I i) (I k) x62 L L2 (hz h3 ps))
          (p53z26 Tryz.prog K (pt h.length 0) (pt (h.length + 1) 0) (pt (h.length + 2) 0) (sl 3 h3.length 0 (xs.length + ys.length + 1)) (I i) (I k) x44 L L2 (hz h3 ps)) := by
      intro hkl
      have e1 : IntKind.wrap .i64 ((ps[i + k] : Int) + (c : Int)) = ((ps[i + k] + c : Nat) : Int) := by rw [wrap64 (by omega) (by omega)]; omega
      simp only [bin_add, ei, OP_some]
      rw [adr_sl (show i + k < xs.length + ys.length + 1 by omega)]
      simp only [OP_some, hz_load hpk, bin_add, e1, dy.len, bin_lss, IfP_dec]
      refine ⟨fun hlt2 => ?_, fun hge2 => ?_⟩
      · have hkl2 : k < ys.length := by omega
        obtain ⟨ia, a1, a2⟩ := dx'.get hil
        obtain ⟨ib, b1, b2⟩ := dy'.get hkl2
        have hyl : ys[k] < 10000 := cy.1 _ (List.getElem_mem hkl2)
        have hxy := mul_lt4 hxl hyl
        have cst : ((xs[i] : Int) * (ys[k] : Int)) = ((xs[i] * ys[k] : Nat) : Int) := by simp
        have e2 : IntKind.wrap .i64 ((ps[i + k] + c : Nat) + (xs[i] * ys[k] : Nat) : Int) = ((ps[i + k] + c + xs[i] * ys[k] : Nat) : Int) := by rw [wrap64 (by omega) (by omega)]; omega
        simp only [a1, a2, b1, b2, OP_some, bin_mul, cst]
        rw [wrap64 (n := ((xs[i] * ys[k] : Nat) : Int)) (by omega) (by omega)]
        simp only [bin_add, OP_some, e2]
        refine step (xs[i] * ys[k]) hxy hkl (fun h => by omega) ?_
        rw [val_take_succ 10000 ys hkl2]
        grind
      · have hke : k = ys.length := by omega
        have := step 0 (by omega) hkl (fun _ => rfl) (by rw [hke, List.take_length, List.take_of_length_le (by omega)]; rfl)
        simpa using this
    rw [q53z14]
    simp only [fadr_pt, Nat.add_zero, Nat.zero_add, ldB, dy.len, bin_lss, OP_some]
    have other : ∀ t : Bool, (t = true → k < ys.length + 1) → (t = false → ys.length ≤ k ∧ c = 0) → IfP (B t) (OP (iBin .add (I i) (I k)) fun x40 => OP (iAdrSl 1 (sl 3 h3.length 0 (xs.length + ys.length + 1)) x40) fun x41 => OP (iLoad false 1 (hz h3 ps) x41) fun x42 => OP (iBin .add x42 (I c)) fun x44 =>
        OP (iLenSl w) fun x48 => OP (iBin .lss (I k) x48) fun x49 => IfP x49
          (OP (iAdrSl 1 v (I i)) fun x54 => OP (iLoad false 1 (hz h3 ps) x54) fun x55 => OP (iAdrSl 1 w (I k)) fun x59 => OP (iLoad false 1 (hz h3 ps) x59) fun x60 => OP (iBin .mul x55 x60) fun x61 => OP (iBin .add x44 x61) fun x62 =>
            p53z26 Tryz.prog K (pt h.length 0) (pt (h.length + 1) 0) (pt (h.length + 2) 0) (sl 3 h3.length 0 (xs.length + ys.length + 1)) (I i) (I k) x62 L L2 (hz h3 ps))
          (p53z26 Tryz.prog K (pt h.length 0) (pt (h.length + 1) 0) (pt (h.length + 2) 0) (sl 3 h3.length 0 (xs.length + ys.length + 1)) (I i) (I k) x44 L L2 (hz h3 ps)))
        (p53z28 Tryz.prog K (pt h.length 0) (pt (h.length + 1) 0) (pt (h.length + 2) 0) (sl 3 h3.length 0 (xs.length + ys.length + 1)) (I i) L (hz h3 ps)) := by
      intro t h1 h2
      refine IfP_of (fun he => body (h1 (by simpa using he))) fun hne => ?_
      obtain ⟨h3', rfl⟩ := h2 (by simpa using hne)
      rw [q53z28]
      simp only [bin_add, OP_some, inc i (by omega), true_and]
      have hfull : val 10000 (ys.take k) = val 10000 ys := by rw [List.take_of_length_le h3']
      refine hL (i + 1, ps) ⟨by show i + 1 ≤ xs.length; omega, hpl, hplim, fun j hj hij => hpz j hj (by have : i + 1 + ys.length ≤ j := hij; omega), ?_⟩ (by show xs.length - (i + 1) < xs.length - i; omega)
      show val 10000 ps = val 10000 (xs.take (i + 1)) * val 10000 ys
      rw [hvt, Nat.add_mul, ← hval, Nat.mul_assoc, ← hfull, ← hpval]
      omega
    by_cases hkl : k < ys.length
    · rw [decide_eq_true (show (k : Int) < (ys.length : Int) by omega)]
      simp only [q53z18, GdP_tf, q53z20, iPick_t, OP_some, fadr_pt, Nat.add_zero, Nat.zero_add, ldA, ldB, true_and]
      exact other true (fun _ => by omega) (fun h => by cases h)
    · rw [decide_eq_false (show ¬ (k : Int) < (ys.length : Int) by omega)]
      simp only [q53z18, GdP_ff, q53z20, bin_gtr, iPick_f, OP_some, fadr_pt, Nat.add_zero, Nat.zero_add, ldA, ldB, true_and]
      exact other _ (fun h => by
        have h0 : (0 : Int) < (c : Int) := by simpa using h
        apply Classical.byContradiction
        intro hc2
        have := hkc (by omega)
        omega) (fun h => by
        have h0 : ¬ (0 : Int) < (c : Int) := by simpa using h
        omega)
  · have : i = xs.length := by omega
    subst this
    rw [q53z29]
    rw [List.take_length] at hval
    have ld0 : iLoad false 1 (hz h3 os) (pt h.length 0) = some (B (decide (a < 0))) := EX.load (hz_EX h3 os) x.a0
    have ld1 : iLoad false 1 (hz h3 os) (pt (h.length + 1) 0) = some (B (decide (b < 0))) := EX.load (hz_EX h3 os) x.b0
    have e : sl 3 h3.length 0 (xs.length + ys.length + 1) = sl 3 h3.length 0 os.length := by rw [hol]
    simp only [fadr_pt, Nat.zero_add, OP_some, ld0, ld1, eqb_bool, if_true, e]
    simp only [build2 (hz_DS h3 os), OP_some]
    refine C95 (hz_DS h3 os) hlim (by omega) ?_
    intro r h5 x5 zr
    have hzv : (if (!(decide (a < 0) == decide (b < 0))) = true then -(val 10000 os : Int) else (val 10000 os : Int)) = a * b := by
      rw [hval, ex, ey]
      exact sgn_mul a b
    rw [hzv] at zr
    obtain ⟨q, rfl, hq⟩ := id zr
    have g' := ((hz_EX h3 os).trans x5).get x.out
    exact fin2z g' (hk _ _ (((x.ex.trans (hz_EX h3 os)).trans x5).set (by omega) _) (zr.setB g' _))

end Go.Proofs.YthplaillblmgfaaGreatDoor


namespace Go.Proofs.YthplaillblmgfaaGreatDoor
open Go.Sim

def QZ (h : Heap) (val : Value) (a b : Int) : Prop := ∃ u w, val = .agg #[B (decide (a < 0)), u, B (decide (b < 0)), w] ∧ MagZ h u a.natAbs ∧ MagZ h w b.natAbs
theorem QZ.mono {h h' : Heap} {v : Value} {a b : Int} (x : EX h h') (p : QZ h v a b) : QZ h' v a b := let ⟨u, w, e, m, n⟩ := p; ⟨u, w, e, m.mono x, n.mono x⟩
theorem QZ.setB {h : Heap} {v : Value} {a b : Int} {j : Nat} {e : TypeId} {s : Bool} {r : List Value} (p : QZ h v a b) (hj : h[j]? = some (.arr e (.bool s :: r))) (o : IObj) : QZ (h.set j o) v a b :=
  let ⟨u, w, e, m, n⟩ := p; ⟨u, w, e, m.setB hj o, n.setB hj o⟩

theorem store4 {h : Heap} {i : Nat} {e : TypeId} {a b c d x y z w : Value} (hg : h[i]? = some (.arr e [a, b, c, d])) : oStore 4 h (pt i 0) (.agg #[x, y, z, w]) = some (undef, h.set i (.arr e [x, y, z, w])) := by
  simp [oStore, iStore, hg, noTuple, vcells, Value.cells, setAt]
theorem load4 {h : Heap} {i : Nat} {e : TypeId} {a b c d : Value} (hg : h[i]? = some (.arr e [a, b, c, d])) : iLoad true 4 h (pt i 0) = some (.agg #[a, b, c, d]) := by
  simp [iLoad, objCells, hg, iPart]
theorem load4a {h : Heap} {i : Nat} {e : TypeId} {a b c d : Value} (hg : h[i]? = some (.arr e [a, b, c, d])) : iLoad true 2 h (pt i 0) = some (.agg #[a, b]) := by
  simp [iLoad, objCells, hg, iPart]
theorem load4b {h : Heap} {i : Nat} {e : TypeId} {a b c d : Value} (hg : h[i]? = some (.arr e [a, b, c, d])) : iLoad true 2 h (pt i 2) = some (.agg #[c, d]) := by
  simp [iLoad, objCells, hg, iPart]

theorem fin4 {h' : Heap} {j : Nat} {e : TypeId} {b0 v0 c0 w0 a b c d : Value} {K : Value → Heap → Prop} (hg : h'[j]? = some (.arr e [b0, v0, c0, w0])) (hk : K (.agg #[a, b, c, d]) (h'.set j (.arr e [a, b, c, d]))) :
    OH (oStore 4 h' (pt j 0) (.agg #[a, b, c, d])) fun _ h6 => OP (iLoad true 4 h6 (pt j 0)) fun r0 => K r0 h6 := by
  rw [store4 hg]
  simp only [OH_some]
  rw [load4 (set_get hg)]
  exact OP_some.2 hk

theorem build4 {b c : Bool} {e e' : TypeId} {k k' : IntKind} {h h' : Heap} {v w : Value} {xs ys : List Nat} (d : DS e k h v xs) (d' : DS e' k' h' w ys) :
    iBuild [(.bool false), (.slice none 0 0), (.bool false), (.slice none 0 0)] [(0, 2, .agg #[B b, v]), (2, 2, .agg #[B c, w])] = some (.agg #[B b, v, B c, w]) := by
  rcases d with ⟨rfl, _⟩ | ⟨i, rfl, _⟩ <;> rcases d' with ⟨rfl, _⟩ | ⟨i', rfl, _⟩ <;> rfl

abbrev z4 : List Value := [(.bool false), (.slice none 0 0), (.bool false), (.slice none 0 0)]

theorem endQ {h h' : Heap} {j : Nat} {va vb : Value} {a b : Int} {K : Value → Heap → Prop} (ha : ZV h' va a) (hb : ZV h' vb b) (x : EX h h') (hj : h.length ≤ j) (hg : h'[j]? = some (.arr 38 z4)) (hk : ∀ r h', EX h h' → QZ h' r a b → K r h') :
    OP (iBuild [(.bool false), (.slice none 0 0), (.bool false), (.slice none 0 0)] [(0, 2, va), (2, 2, vb)]) fun x15 => OH (oStore 4 h' (pt j 0) x15) fun _ h6 => OP (iLoad true 4 h6 (pt j 0)) fun r0 => K r0 h6 := by
  obtain ⟨u, rfl, hu⟩ := ha
  obtain ⟨w, rfl, hw⟩ := hb
  obtain ⟨xs, dx, cx⟩ := id hu
  obtain ⟨ys, dy, cy⟩ := id hw
  rw [build4 dx dy]
  exact OP_some.2 (fin4 hg (hk _ _ (x.set hj _) ⟨u, w, rfl, hu.setB hg _, hw.setB hg _⟩))

theorem C14 {z : Int} {h : Heap} {K : Value → Heap → Prop} (hz : z.natAbs < 1000000000000000000) (hk : ∀ r h', EX h h' → QZ h' r z 1 → K r h') : CallP Tryz.prog 14 [I z] h K := by
  refine f14 ?_
  have e1 : iAlloc 38 [(.bool false), (.slice none 0 0), (.bool false), (.slice none 0 0)] h = some (pt h.length 0, h ++ [.arr 38 z4]) := rfl
  simp only [T14, e1, OH_some]
  refine C22 hz ?_
  intro r1 h1 x1 z1
  refine C22 (z := 1) (by decide) ?_
  intro r2 h2 x2 z2
  exact endQ (z1.mono x2) z2 ((EX.append _ _).trans (x1.trans x2)) (Nat.le_refl _) ((x1.trans x2).get get_last) hk

structure Box4 (h : Heap) (a b c d a' b' c' d' : Value) (h3 : Heap) : Prop where
  ex : EX h h3
  a0 : iLoad true 2 h3 (pt h.length 0) = some (.agg #[a, b])
  a2 : iLoad true 2 h3 (pt h.length 2) = some (.agg #[c, d])
  b0 : iLoad true 2 h3 (pt (h.length + 1) 0) = some (.agg #[a', b'])
  b2 : iLoad true 2 h3 (pt (h.length + 1) 2) = some (.agg #[c', d'])
  a4 : iLoad true 4 h3 (pt h.length 0) = some (.agg #[a, b, c, d])
  b4 : iLoad true 4 h3 (pt (h.length + 1) 0) = some (.agg #[a', b', c', d'])
  out : h3[h.length + 2]? = some (.arr 38 z4)

end Go.Proofs.YthplaillblmgfaaGreatDoor


namespace Go.Proofs.YthplaillblmgfaaGreatDoor
open Go.Sim

def valB (s : List UInt8) : Nat := s.foldl (fun d c => 10 * d + (c.toNat - 48)) 0

theorem valB_fold : ∀ (s : List UInt8) (a : Nat), s.foldl (fun d c => 10 * d + (c.toNat - 48)) a = a * 10 ^ s.length + valB s
  | [], a => by simp [valB]
  | c :: s, a => by
    have h1 := valB_fold s (10 * a + (c.toNat - 48))
    have h2 := valB_fold s (10 * 0 + (c.toNat - 48))
    have e : valB (c :: s) = s.foldl (fun d c => 10 * d + (c.toNat - 48)) (10 * 0 + (c.toNat - 48)) := rfl
    rw [e, h2, List.foldl_cons, h1, List.length_cons, Nat.pow_succ]
    generalize 10 ^ s.length = P
    generalize c.toNat - 48 = d
    generalize valB s = w
    grind

theorem valB_append (s t : List UInt8) : valB (s ++ t) = valB s * 10 ^ t.length + valB t := by
  show (s ++ t).foldl _ 0 = _
  rw [List.foldl_append, valB_fold]
  rfl

theorem valB_one (c : UInt8) : valB [c] = c.toNat - 48 := by simp [valB]

def digs (s : List UInt8) : Prop := ∀ c ∈ s, 48 ≤ c.toNat ∧ c.toNat ≤ 57

theorem valB_cons (c : UInt8) (s : List UInt8) : valB (c :: s) = (c.toNat - 48) * 10 ^ s.length + valB s := by
  have := valB_append [c] s
  rw [valB_one] at this
  exact this

theorem valB_lt : ∀ {s : List UInt8}, digs s → valB s < 10 ^ s.length
  | [], _ => by simp [valB]
  | c :: s, h => by
    have h1 := valB_lt (s := s) fun x hx => h x (by simp [hx])
    have h2 := h c (by simp)
    rw [valB_cons, List.length_cons, Nat.pow_succ]
    have h3 := Nat.mul_le_mul_right (10 ^ s.length) (show c.toNat - 48 ≤ 9 by omega)
    omega

theorem C90 {s : List UInt8} {h : Heap} {K : Value → Heap → Prop} (hd : digs s) (h0 : 0 < s.length) (h1 : s.length ≤ 4000) (h2 : s.head? = some 48 → s.length = 1)
    (hk : ∀ r h', EX h h' → ZV h' r (valB s) → K (.tuple #[r, B true]) h') : CallP Tryz.prog 90 [S s] h K := by
  refine f90 ?_
  have e2 : ∀ g : Heap, iAlloc 36 [(.bool false), (.slice none 0 0)] g = some (pt g.length 0, g ++ [.arr 36 [(.bool false), (.slice none 0 0)]]) := fun _ => rfl
  have e3 : iBuild [(.bool false), (.slice none 0 0)] [] = some (.agg #[B false, .slice none 0 0]) := rfl
  have hc0 : (s[0].toNat : Int) = 48 → s.length ≤ 1 := by
    intro h3
    refine Nat.le_of_eq (h2 ?_)
    rw [List.head?_eq_getElem?, List.getElem?_eq_getElem h0]
    congr 1
    apply UInt8.toNat_inj.1
    show s[0].toNat = 48
    omega
  have i0 := idxS_S (a := s) (i := 0) h0 .i64
  simp only [Int.natCast_zero, Int.ofNat_zero] at i0
  simp only [T90, e2, OH_some, lenS_S, OP_some, bin_lss]
  rw [decide_eq_false (show ¬ (s.length : Int) < 1 by omega)]
  simp only [q90z5, GdP_ff, lenS_S, OP_some, bin_gtr]
  rw [decide_eq_false (show ¬ (s.length : Int) > 4000 by omega)]
  simp only [q90z7, iPick_f, OP_some, q90z9, GdP_ff, i0]
  have after : ∀ t : Value, t = B false → p90z15 Tryz.prog K (S s) (pt h.length 0) (B false) t (h ++ [.arr 36 [(.bool false), (.slice none 0 0)]]) := by
    rintro _ rfl
    rw [q90z15]
    simp only [iPick_f, OP_some, IfP_false, e3, e2, OH_some, List.length_append, List.length_cons, List.length_nil, Nat.zero_add]
    have g1 : (h ++ [IObj.arr 36 [(.bool false), (.slice none 0 0)]] ++ [IObj.arr 36 [(.bool false), (.slice none 0 0)]])[h.length + 1]? = some (.arr 36 [(.bool false), (.slice none 0 0)]) := by simp
    have g0 : (h ++ [IObj.arr 36 [(.bool false), (.slice none 0 0)]] ++ [IObj.arr 36 [(.bool false), (.slice none 0 0)]])[h.length]? = some (.arr 36 [(.bool false), (.slice none 0 0)]) := by simp
    have x1 : EX h (h ++ [IObj.arr 36 [(.bool false), (.slice none 0 0)]] ++ [IObj.arr 36 [(.bool false), (.slice none 0 0)]]) := (EX.append _ _).push _
    have hl1 : (h ++ [IObj.arr 36 [(.bool false), (.slice none 0 0)]] ++ [IObj.arr 36 [(.bool false), (.slice none 0 0)]]).length = h.length + 2 := by simp
    generalize h ++ [IObj.arr 36 [(.bool false), (.slice none 0 0)]] ++ [IObj.arr 36 [(.bool false), (.slice none 0 0)]] = hA at *
    rw [store2 g1]
    simp only [OH_some, lenS_S, OP_some]
    refine loopL (σ := Int × List Nat × Value × Heap) (fun p => [I p.1]) (fun p => p.2.2.2)
      (fun p => h.length + 2 ≤ p.2.2.2.length ∧ EX h p.2.2.2 ∧ p.2.2.2[h.length]? = some (.arr 36 [.bool false, .slice none 0 0]) ∧ p.2.2.2[h.length + 1]? = some (.arr 36 [B false, p.2.2.1]) ∧ OwnD (h.length + 2) p.2.2.2 p.2.2.1 p.2.1 ∧ Lim 10000 p.2.1 ∧ p.1 = (s.length : Int) - 4 * (p.2.1.length : Int) ∧ -4 < p.1 ∧ val 10000 p.2.1 + 10000 ^ p.2.1.length * valB (s.take p.1.toNat) = valB s) (fun p => (p.1 + 4).toNat)
      ((s.length : Int), [], .slice none 0 0, hA.set (h.length + 1) (.arr 36 [B false, .slice none 0 0])) rfl rfl
      ⟨by simp [hl1], x1.set (by omega) _, by rw [List.getElem?_set_ne (by omega)]; exact g0, set_get g1, .inl ⟨rfl, rfl⟩, fun _ hx => by simp at hx, by simp, by simp; omega, by simp [val]⟩ ?_
    rintro ⟨at5, os, v, hx⟩ ⟨hlen, hex, k0, k1, hown, hlim, hat, hat4, hval⟩ L hL
    simp only at hlen hex k0 k1 hown hlim hat hat4 hval hL ⊢
    rw [q90z21]
    have e4 : IntKind.wrap .i64 (at5 - 4) = at5 - 4 := wrap64 (by omega) (by omega)
    simp only [bin_gtr, OP_some, IfP_dec]
    refine ⟨fun hgt => ?_, fun hle => ?_⟩
    · simp only [bin_sub, OP_some, e4, max2']
      obtain ⟨lo, hlo⟩ : ∃ lo : Nat, max 0 (at5 - 4) = (lo : Int) := ⟨(max 0 (at5 - 4)).toNat, by omega⟩
      obtain ⟨a, ha⟩ : ∃ a : Nat, at5 = (a : Int) := ⟨at5.toNat, by omega⟩
      subst ha
      rw [hlo]
      have hal : a ≤ s.length := by omega
      have hloa : lo ≤ a := by omega
      have hlo2 : lo = a - 4 := by omega
      refine loopL (σ := Nat × Nat) (fun p => [I p.1, I p.2]) (fun _ => hx) (fun p => lo ≤ p.2 ∧ p.2 ≤ a ∧ p.1 = valB ((s.take p.2).drop lo)) (fun p => a - p.2)
        (0, lo) rfl rfl ⟨Nat.le_refl _, hloa, by rw [List.drop_of_length_le (by rw [List.length_take]; omega)]; rfl⟩ ?_
      rintro ⟨d, i⟩ ⟨hi1, hi2, hdv⟩ L2 hL2
      simp only at hi1 hi2 hdv hL2 ⊢
      have hlt := valB_lt (s := (s.take i).drop lo) fun c hc => hd c (List.mem_of_mem_take (List.mem_of_mem_drop hc))
      have hlen2 : ((s.take i).drop lo).length = i - lo := by rw [List.length_drop, List.length_take]; omega
      rw [hlen2] at hlt
      have hp : (10 : Nat) ^ (i - lo) ≤ 10 ^ 4 := Nat.pow_le_pow_right (by decide) (by omega)
      have hdb : d < 10000 := by rw [hdv]; omega
      rw [q90z30]
      simp only [bin_lss, OP_some, IfP_dec]
      refine ⟨fun hia => ?_, fun hia => ?_⟩
      · have his : i < s.length := by omega
        have hcd := hd s[i] (List.getElem_mem his)
        have ix := idxS_S (a := s) (i := i) his .i64
        have lt1 : iBin .lss (cv s[i]) (.int .u8 48) = some (B (decide ((s[i].toNat : Int) < 48))) := rfl
        have gt1 : iBin .gtr (cv s[i]) (.int .u8 57) = some (B (decide ((s[i].toNat : Int) > 57))) := rfl
        have sb1 : iBin .sub (cv s[i]) (.int .u8 48) = some (.int .u8 (IntKind.wrap .u8 ((s[i].toNat : Int) - 48))) := rfl
        have w8 : IntKind.wrap .u8 ((s[i].toNat : Int) - 48) = ((s[i].toNat - 48 : Nat) : Int) := by
          have e : IntKind.wrap .u8 ((s[i].toNat : Int) - 48) = ((s[i].toNat : Int) - 48) % 256 := by simp [IntKind.wrap, IntKind.bits, IntKind.signed]
          rw [e]; omega
        have w64 : IntKind.wrap .i64 ((s[i].toNat - 48 : Nat) : Int) = ((s[i].toNat - 48 : Nat) : Int) := wrap64 (by omega) (by omega)
        have w10 : IntKind.wrap .i64 ((10 : Int) * (d : Int)) = ((10 * d : Nat) : Int) := by rw [wrap64 (by omega) (by omega)]; omega
        have wad : IntKind.wrap .i64 (((10 * d : Nat) : Int) + ((s[i].toNat - 48 : Nat) : Int)) = ((10 * d + (s[i].toNat - 48) : Nat) : Int) := by rw [wrap64 (by omega) (by omega)]; omega
        simp only [ix, OP_some, lt1, decide_eq_false (show ¬ (s[i].toNat : Int) < 48 by omega), q90z38, GdP_ff, gt1, decide_eq_false (show ¬ (s[i].toNat : Int) > 57 by omega), q90z40, iPick_f, IfP_false, bin_mul, w10, sb1, w8, conv_int, w64, bin_add, wad, inc i (by omega), true_and]
        refine hL2 (10 * d + (s[i].toNat - 48), i + 1) ⟨by show lo ≤ i + 1; omega, by show i + 1 ≤ a; omega, ?_⟩ (by show a - (i + 1) < a - i; omega)
        show 10 * d + (s[i].toNat - 48) = valB ((s.take (i + 1)).drop lo)
        rw [List.take_succ_eq_append_getElem his, List.drop_append_of_le_length (by rw [List.length_take]; omega), valB_append, valB_one, ← hdv]
        simp
        omega
      · have hia' : i = a := by omega
        subst hia'
        rw [q90z42]
        have ld : iLoad false 1 hx (pt (h.length + 1) 1) = some v := by simp [iLoad, objCells, k1, iPart]
        simp only [fadr_pt, Nat.zero_add, OP_some, ld]
        refine appD' hlen hown (by omega) ?_
        intro v' hx' hs hl' hown'
        have k1' : hx'[h.length + 1]? = some (.arr 36 [B false, v]) := by rw [hs _ (by omega)]; exact k1
        rw [store_at k1' (by simp) hown'.ds.one.1 hown'.ds.one.2]
        have e5 : IntKind.wrap .i64 ((i : Int) - 4) = (i : Int) - 4 := wrap64 (by omega) (by omega)
        simp only [OH_some, List.set_cons_succ, List.set_cons_zero, q90z43, bin_sub, OP_some, e5, true_and]
        have el : (os ++ [d]).length = os.length + 1 := by simp
        refine hL ((i : Int) - 4, os ++ [d], v', hx'.set (h.length + 1) (.arr 36 [B false, v'])) ⟨?_, ?_, ?_, set_get k1', hown'.set (by omega) _, hlim.append (fun y hy => by simp at hy; omega), by rw [el]; show (i : Int) - 4 = _; omega, by show -4 < (i : Int) - 4; omega, ?_⟩ (by show ((i : Int) - 4 + 4).toNat < ((i : Int) + 4).toNat; omega)
        · rw [List.length_set]; exact hl'
        · refine EX.set ⟨by have := hex.1; omega, fun j hj => ?_⟩ (by omega) _
          rw [hs j (by omega)]; exact hex.2 j hj
        · rw [List.getElem?_set_ne (by omega), hs _ (by omega)]; exact k0
        · show val 10000 (os ++ [d]) + 10000 ^ (os ++ [d]).length * valB (s.take ((i : Int) - 4).toNat) = valB s
          rw [el, val_append, ← hval, Nat.pow_succ]
          have et : (i : Int).toNat = i := by omega
          have et2 : ((i : Int) - 4).toNat = lo := by omega
          rw [et, et2]
          have hsp : s.take i = s.take lo ++ (s.take i).drop lo := by
            conv => lhs; rw [← List.take_append_drop lo (s.take i)]
            rw [List.take_take, Nat.min_eq_left hloa]
          rw [hsp, valB_append, hlen2, ← hdv]
          simp only [val, Nat.mul_zero, Nat.add_zero]
          have hlo3 : valB (s.take lo) * 10 ^ (i - lo) = 10000 * valB (s.take lo) := by
            by_cases h4 : 4 ≤ i
            · have : i - lo = 4 := by omega
              rw [this, Nat.mul_comm]
            · have : lo = 0 := by omega
              subst this
              simp [valB]
          rw [hlo3]
          generalize 10000 ^ os.length = P
          generalize valB (s.take lo) = w
          generalize val 10000 os = q
          clear hL hL2 hown hown'
          grind
    · rw [q90z44, load2 k1]
      simp only [OP_some]
      have h0' : at5.toNat = 0 := by omega
      rw [h0'] at hval
      have hval' : val 10000 os = valB s := by simpa [valB] using hval
      refine C95 hown.ds hlim (by omega) ?_
      intro r h5 x5 zr
      simp only [Bool.false_eq_true, if_false, hval'] at zr
      obtain ⟨q, rfl, hq⟩ := id zr
      have g' := x5.get k0
      refine fin2z (K := fun v h => K (.tuple #[v, B true]) h) g' (hk _ _ ((hex.trans x5).set (Nat.le_refl _) _) (zr.setB g' _))
  by_cases h48 : (s[0].toNat : Int) = 48
  · have hl1 := hc0 h48
    have e5 : iBin .eql (cv s[0]) (.int .u8 48) = some (B true) := by
      show some (B (decide ((s[0].toNat : Int) = 48))) = _
      rw [decide_eq_true h48]
    simp only [e5, OP_some, q90z11, GdP_tt, lenS_S, bin_gtr, decide_eq_false (show ¬ (s.length : Int) > 1 by omega), q90z13, GdP_ff, iPick_t]
    exact after _ rfl
  · have e5 : iBin .eql (cv s[0]) (.int .u8 48) = some (B false) := by
      show some (B (decide ((s[0].toNat : Int) = 48))) = _
      rw [decide_eq_false h48]
    simp only [e5, OP_some, q90z11, GdP_ft, q90z13, GdP_ff, iPick_f]
    exact after _ rfl

end Go.Proofs.YthplaillblmgfaaGreatDoor


namespace Go.Proofs.YthplaillblmgfaaGreatDoor
open Go.Sim

theorem valB_rev : ∀ {ds : List Nat}, Lim 10 ds → valB ((ds.map dch).reverse) = val 10 ds
  | [], _ => rfl
  | d :: ds, h => by
    have h1 := valB_rev (ds := ds) fun y hy => h y (by simp [hy])
    have h2 := h d (by simp)
    rw [List.map_cons, List.reverse_cons, valB_append, valB_one, h1, dch_toNat h2]
    simp only [val, List.length_singleton, Nat.pow_one]
    omega

theorem decS_facts {n : Nat} (hn : n < bigW) : digs (decS n) ∧ 0 < (decS n).length ∧ (decS n).length ≤ 1000 ∧ ((decS n).head? = some 48 → (decS n).length = 1) ∧ valB (decS n) = n := by
  obtain ⟨hc, hv⟩ := dig10_canon n
  by_cases h0 : n = 0
  · subst h0
    have : decS 0 = [48] := rfl
    rw [this]
    exact ⟨fun c hc => by simp at hc; subst hc; decide, by simp, by simp, by simp, rfl⟩
  · have e : decS n = ((dig10 n).map dch).reverse := by unfold decS; rw [if_neg h0]
    have hne : dig10 n ≠ [] := by
      intro h
      rw [h] at hv
      exact h0 hv.symm
    rw [e]
    refine ⟨?_, ?_, ?_, ?_, ?_⟩
    · intro c hc'
      simp only [List.mem_reverse, List.mem_map] at hc'
      obtain ⟨d, hd, rfl⟩ := hc'
      rw [dch_toNat (hc.1 d hd)]
      have := hc.1 d hd
      omega
    · simp only [List.length_reverse, List.length_map]
      exact List.length_pos_iff.2 hne
    · simp only [List.length_reverse, List.length_map]
      show _ ≤ k1000
      refine hc.len (by decide) ?_
      rw [hv]
      exact Nat.lt_of_lt_of_le hn bigW_10
    · intro h48
      exfalso
      rw [List.head?_reverse, List.getLast?_map] at h48
      cases hl : (dig10 n).getLast? with
      | none => rw [hl] at h48; simp at h48
      | some d =>
        rw [hl] at h48
        have hd : d < 10 := hc.1 d (List.mem_of_getLast? hl)
        have h3 : dch d = 48 := by simpa using h48
        have h4 := congrArg UInt8.toNat h3
        rw [dch_toNat hd] at h4
        have h5 : (48 : UInt8).toNat = 48 := rfl
        rw [h5] at h4
        have : d = 0 := by omega
        subst this
        exact hc.2 hl
    · rw [valB_rev hc.1, hv]

def numS (z : Int) : List UInt8 := if z < 0 then 45 :: decS z.natAbs else decS z.natAbs

theorem C75_12 {s : List UInt8} {m : Bool} {h : Heap} {j : Nat} {K : Value → Heap → Prop} {n : Nat} {h0 : Heap} (hn : n < bigW) (hs : s = decS n) (hm : m = true → 0 < n) (x0 : EX h0 h) (hj : h0.length ≤ j) (hg : h[j]? = some (.arr 38 z4))
    (hk : ∀ r h', EX h0 h' → QZ h' r (if m then -(n : Int) else n) 1 → K (.tuple #[r, B true]) h') : p51z12 Tryz.prog K (pt j 0) (S s) (B m) h := by
  obtain ⟨d1, d2, d3, d4, d5⟩ := decS_facts hn
  rw [← hs] at d1 d2 d3 d4 d5
  rw [q51z12]
  have e1 : IntKind.wrap .i64 ((s.length : Int) - 1) = (s.length : Int) - 1 := wrap64 (by omega) (by omega)
  simp only [lenS_S, OP_some, bin_sub, e1]
  refine loopL (σ := Nat) (fun p => [I s.length, I ((p : Int) - 1)]) (fun _ => h) (fun p => p ≤ s.length) (fun p => p)
    s.length rfl rfl (Nat.le_refl _) ?_
  intro i hi L hL
  rw [q51z17]
  simp only [bin_geq, OP_some, IfP_dec]
  refine ⟨fun hge => ?_, fun hlt => ?_⟩
  · have his : i - 1 < s.length := by omega
    have ei : (i : Int) - 1 = ((i - 1 : Nat) : Int) := by omega
    have hcd := d1 s[i - 1] (List.getElem_mem his)
    have ix := idxS_S (a := s) (i := i - 1) his .i64
    have e5 : iBin .eql (cv s[i - 1]) (.int .u8 47) = some (B false) := by
      show some (B (decide ((s[i - 1].toNat : Int) = 47))) = _
      rw [decide_eq_false (by omega)]
    rw [ei]
    have e2 : IntKind.wrap .i64 (((i - 1 : Nat) : Int) - 1) = ((i - 1 : Nat) : Int) - 1 := wrap64 (by omega) (by omega)
    simp only [ix, OP_some, e5, IfP_false, q51z23, bin_sub, e2, true_and]
    exact hL (i - 1) (by omega) (by omega)
  · rw [q51z24]
    have sl1 := slS_hi (a := s) (n := s.length) (Nat.le_refl _) .i64
    rw [List.take_length] at sl1
    simp only [sl1, OP_some]
    refine C90 d1 d2 (by omega) d4 ?_
    intro r h1 x1 z1
    rw [d5] at z1
    obtain ⟨v, rfl, hv⟩ := id z1
    have e6 : iExt 0 (.tuple #[.agg #[B (decide ((n : Int) < 0)), v], B true]) = some (.agg #[B (decide ((n : Int) < 0)), v]) := rfl
    have e7 : iExt 1 (.tuple #[.agg #[B (decide ((n : Int) < 0)), v], B true]) = some (B true) := rfl
    have e2 : ∀ g : Heap, iAlloc 36 [(.bool false), (.slice none 0 0)] g = some (pt g.length 0, g ++ [.arr 36 [(.bool false), (.slice none 0 0)]]) := fun _ => rfl
    simp only [e6, e7, OP_some, e2, OH_some]
    have x2 : EX h1 (h1 ++ [.arr 36 [(.bool false), (.slice none 0 0)]]) := EX.append _ _
    rw [store2 get_last]
    simp only [OH_some]
    have x3 : EX h1 ((h1 ++ [IObj.arr 36 [(.bool false), (.slice none 0 0)]]).set h1.length (.arr 36 [B (decide ((n : Int) < 0)), v])) := x2.set (Nat.le_refl _) _
    have g3 : ((h1 ++ [IObj.arr 36 [(.bool false), (.slice none 0 0)]]).set h1.length (.arr 36 [B (decide ((n : Int) < 0)), v]))[h1.length]? = some (.arr 36 [B (decide ((n : Int) < 0)), v]) := set_get get_last
    generalize (h1 ++ [IObj.arr 36 [(.bool false), (.slice none 0 0)]]).set h1.length (.arr 36 [B (decide ((n : Int) < 0)), v]) = h3 at x3 g3 ⊢
    have hjl := (List.getElem?_eq_some_iff.1 hg).1
    have hj1 : j < h1.length := by have := x1.1; omega
    refine C22 (z := 1) (by decide) ?_
    intro r4 h4 x4 z4'
    obtain ⟨w, rfl, hw⟩ := id z4'
    rw [store2 get_last]
    simp only [OH_some]
    have x5 : EX h4 ((h4 ++ [IObj.arr 36 [(.bool false), (.slice none 0 0)]]).set h4.length (.arr 36 [B (decide ((1 : Int) < 0)), w])) := EX.set (EX.append _ _) (Nat.le_refl _) _
    have g5 : ((h4 ++ [IObj.arr 36 [(.bool false), (.slice none 0 0)]]).set h4.length (.arr 36 [B (decide ((1 : Int) < 0)), w]))[h4.length]? = some (.arr 36 [B (decide ((1 : Int) < 0)), w]) := set_get get_last
    generalize (h4 ++ [IObj.arr 36 [(.bool false), (.slice none 0 0)]]).set h4.length (.arr 36 [B (decide ((1 : Int) < 0)), w]) = h5 at x5 g5 ⊢
    have hh1 : h1.length < h4.length := by
      have := x4.1
      have := (List.getElem?_eq_some_iff.1 g3).1
      omega
    have g3' := (x4.trans x5).get g3
    have hgj : h5[j]? = some (.arr 38 z4) := (((x1.trans x3).trans x4).trans x5).get hg
    have xA : EX h0 h5 := (((x0.trans x1).trans x3).trans x4).trans x5
    have zn : ZV h5 (.agg #[B (decide ((n : Int) < 0)), v]) n := z1.mono ((x3.trans x4).trans x5)
    have zd : ZV h5 (.agg #[B (decide ((1 : Int) < 0)), w]) 1 := z4'.mono x5
    have n1 : iUn .not (B true) = some (B false) := rfl
    simp only [lenS_S, OP_some, bin_lss, decide_eq_false (show ¬ (s.length : Int) < (s.length : Int) by omega), IfP_false, q51z33, n1, q51z37, GdP_ff]
    have last : ∀ (vn : Value) (q : Int) (h6 : Heap), ZV h6 vn q → EX h5 h6 ∨ h6 = h6 → EX h0 h6 → h6[h1.length]? = some (.arr 36 (match vn with | .agg #[a, b] => [a, b] | _ => [])) → (∃ a b, vn = .agg #[a, b]) → h6[h4.length]? = some (.arr 36 [B (decide ((1 : Int) < 0)), w]) → MagZ h6 w 1 → h6[j]? = some (.arr 38 z4) → q = (if m then -(n : Int) else n) → p51z47 Tryz.prog K (pt j 0) (pt h1.length 0) (pt h4.length 0) h6 := by
      rintro vn q h6 zq - x6 k1 ⟨a, b, rfl⟩ k4 hw6 kj hq
      rw [q51z47, load2 k1, OP_some, load2 k4, OP_some]
      refine endQ (K := fun v h => K (.tuple #[v, B true]) h) zq (⟨w, rfl, hw6⟩ : ZV h6 _ 1) x6 hj kj ?_
      rw [hq]
      exact hk
    have fin : p51z43 Tryz.prog K (pt j 0) (B m) (pt h1.length 0) (pt h4.length 0) (B false) (B false) h5 := by
      rw [q51z43]
      simp only [iPick_f, OP_some, IfP_false]
      cases m with
      | false =>
        simp only [IfP_false]
        exact last _ _ _ zn (.inr rfl) xA g3' ⟨_, _, rfl⟩ g5 (by obtain ⟨w', h1', h2'⟩ := zd; injection h1' with h1'; injection h1' with h1'; simp at h1'; subst h1'; exact h2') hgj rfl
      | true =>
        simp only [IfP_true, load2 g3', OP_some]
        refine C92 zn ?_
        intro r7 h7 x7 z7
        obtain ⟨v7, rfl, hv7⟩ := id z7
        have g7 := x7.get g3'
        rw [store2 g7]
        simp only [OH_some]
        refine last (.agg #[B (decide (-(n : Int) < 0)), v7]) (-(n : Int)) _ (z7.setB g7 _) (.inr rfl) ((xA.trans x7).set (by have := x0.1; omega) _) (set_get g7) ⟨_, _, rfl⟩ ?_ ?_ ?_ rfl
        · rw [List.getElem?_set_ne (by omega)]; exact x7.get g5
        · exact MagZ.setB (by obtain ⟨w', h1', h2'⟩ := zd.mono x7; injection h1' with h1'; injection h1' with h1'; simp at h1'; subst h1'; exact h2') g7 _
        · rw [List.getElem?_set_ne (by omega)]; exact x7.get hgj
    rw [q51z39]
    cases m with
    | false =>
      simp only [GdP_ft, q51z41, GdP_ff, iPick_f, OP_some]
      exact fin
    | true =>
      obtain ⟨l, p1, p2⟩ := hv.len0
      have p1' := p1
      have ld : iLoad false 1 h5 (pt h1.length 1) = some v := by simp [iLoad, objCells, g3', iPart]
      have hn0 := hm rfl
      have hl0 : ¬ ((l : Int) = 0) := by
        have : 0 < ((n : Int)).natAbs := by omega
        have := p2.2 this
        omega
      simp only [GdP_tt, fadr_pt, Nat.zero_add, OP_some, ld, p1, bin_eql, decide_eq_false hl0, q51z41, GdP_ff, iPick_t]
      exact fin

theorem C51 {z : Int} {h : Heap} {K : Value → Heap → Prop} (hz : z.natAbs < bigW) (hk : ∀ r h', EX h h' → QZ h' r z 1 → K (.tuple #[r, B true]) h') : CallP Tryz.prog 51 [S (numS z)] h K := by
  refine f51 ?_
  have e1 : iAlloc 38 [(.bool false), (.slice none 0 0), (.bool false), (.slice none 0 0)] h = some (pt h.length 0, h ++ [.arr 38 z4]) := rfl
  obtain ⟨d1, d2, d3, d4, d5⟩ := decS_facts hz
  have hlen : (numS z).length ≤ 1001 ∧ 0 < (numS z).length := by
    unfold numS; split
    · simp; omega
    · omega
  simp only [T51, e1, OH_some, lenS_S, OP_some, bin_gtr, decide_eq_false (show ¬ ((numS z).length : Int) > 8002 by omega), IfP_false, decide_eq_true (show ((numS z).length : Int) > 0 by omega), q51z9, GdP_tt]
  have ix := idxS_S (a := numS z) (i := 0) hlen.2 .i64
  simp only [Int.natCast_zero, Int.ofNat_zero] at ix
  have x1 : EX h (h ++ [.arr 38 z4]) := EX.append _ _
  by_cases hneg : z < 0
  · have e : numS z = 45 :: decS z.natAbs := by unfold numS; rw [if_pos hneg]
    simp only [e] at ix ⊢
    have e5 : iBin .eql (cv ((45 : UInt8) :: decS z.natAbs)[0]) (.int .u8 45) = some (B true) := rfl
    have sl1 := slS_lo (a := (45 : UInt8) :: decS z.natAbs) (n := 1) (by simp) .i64
    simp only [ix, OP_some, e5, q51z11, iPick_t, IfP_true]
    have sl2 : iSlS (S ((45 : UInt8) :: decS z.natAbs)) (some (.int .i64 1)) none = some (S (decS z.natAbs)) := sl1
    simp only [sl2, OP_some]
    refine C75_12 hz rfl (fun _ => by omega) x1 (Nat.le_refl _) get_last ?_
    intro r h' x q
    refine hk r h' x ?_
    have : (if true = true then -(z.natAbs : Int) else (z.natAbs : Int)) = z := by simp; omega
    rw [this] at q
    exact q
  · have e : numS z = decS z.natAbs := by unfold numS; rw [if_neg hneg]
    simp only [e] at ix ⊢
    have hd0 := d1 _ (List.getElem_mem d2)
    have e5 : iBin .eql (cv (decS z.natAbs)[0]) (.int .u8 45) = some (B false) := by
      show some (B (decide (((decS z.natAbs)[0].toNat : Int) = 45))) = _
      rw [decide_eq_false (by omega)]
    simp only [ix, OP_some, e5, q51z11, iPick_t, IfP_false]
    refine C75_12 hz rfl (fun h => by cases h) x1 (Nat.le_refl _) get_last ?_
    intro r h' x q
    refine hk r h' x ?_
    have : (if false = true then -(z.natAbs : Int) else (z.natAbs : Int)) = z := by simp; omega
    rw [this] at q
    exact q

end Go.Proofs.YthplaillblmgfaaGreatDoor


namespace Go.Proofs.YthplaillblmgfaaGreatDoor
open Go.Sim
variable (P : Program) (K : VK)
/-! F12: pommel/pommelref01.CmpQ -/
noncomputable def oc12 := compFn Tryz.prog 12 [[], []]
@[irreducible] noncomputable def c12 : ICode := icOf oc12
theorem k12 : oc12 = some (16, c12, [.tmp 4]) := by kernel_rfl
def T12 (a0 b1 : Value) (h : Heap) : Prop :=
 OH (iBox 38 h a0) fun a2 h_1 =>
 OH (iBox 38 h_1 b1) fun b3 h_2 =>
 OP (iFadr 0 a2) fun x5 =>
 OP (iLoad true 2 h_2 x5) fun x6 =>
 (True) ∧
 OP (iFadr 2 b3) fun x7 =>
 OP (iLoad true 2 h_2 x7) fun x8 =>
 (True) ∧
 CallP P 53 [x6, x8] h_2 fun x9 h_3 =>
 (True) ∧
 OP (iFadr 0 b3) fun x10 =>
 OP (iLoad true 2 h_3 x10) fun x11 =>
 (iLoad true 2 h_2 x10 = some x11 ∧ True) ∧
 OP (iFadr 2 a2) fun x12 =>
 OP (iLoad true 2 h_3 x12) fun x13 =>
 (iLoad true 2 h_2 x12 = some x13 ∧ True) ∧
 CallP P 53 [x11, x13] h_3 fun x14 h_4 =>
 (True) ∧
 CallP P 52 [x9, x14] h_4 fun x15 h_5 =>
 (True) ∧
 K x15 h_5
theorem e12 (a0 b1 : Value) (h : Heap) : iwpP P c12 (bodyP [.tmp 4] K) (frame0 [a0, b1]) h = T12 P K a0 b1 h := by kernel_rfl
theorem f12 {K : VK} {a0 b1 : Value} {h : Heap} (H : T12 Tryz.prog K a0 b1 h) : CallP Tryz.prog 12 [a0, b1] h K :=
 callP_intro k12 (Nat.le_of_ble_eq_true rfl) ((e12 Tryz.prog K a0 b1 h).mpr H)
/-! F91: pommel/pommelref01.Gcd -/
noncomputable def oc91 := compFn Tryz.prog 91 [[], [], [2, 3, 4], [], [], [], [], [2, 4], []]
@[irreducible] noncomputable def c91 : ICode := icOf oc91
@[irreducible] noncomputable def c91z5 : ICode := c91.r.r.l.l.l
@[irreducible] noncomputable def c91z3 : ICode := c91.r.r.r
@[irreducible] noncomputable def c91z10 : ICode := c91z3.l
theorem k91 : oc91 = some (24, c91, [.cell true 2 4]) := by kernel_rfl
def K91z0 (_P : Program) (K : VK) : Kont := bodyP [.cell true 2 4] K
def K91z3 : Kont := thenK (iwpP P c91z3 (K91z0 P K)) (K91z0 P K)
def K91z4 : Kont := inBlockK 0 (K91z3 P K)
def K91z5 (a2 b3 x4 : Value) (L1 : LK) : Kont := thenK (fun f' h'' => (([2, 3, 4] : List Nat).map f' : List Value) = [a2, b3, x4] ∧ L1 (([] : List Nat).map f') h'') (K91z4 P K)
def p91z5 (a2 b3 x4 : Value) (L1 : LK) (xs : List Value) (h : Heap) : Prop := CutP (iwpP P c91z5 (K91z5 P K a2 b3 x4 L1)) ([2, 3, 4] ++ []) ([a2, b3, x4] ++ xs) h
def p91z10 (a2 x4 : Value) (h : Heap) : Prop := CutP (iwpP P c91z10 (K91z0 P K)) [2, 4] [a2, x4] h
theorem q91z5 (a2 b3 x4 : Value) (L1 : LK) (h : Heap) : p91z5 P K a2 b3 x4 L1 [] h =
 (OP (iFadr 1 b3) fun x11 =>
 OP (iLoad false 1 h x11) fun x12 =>
 OP (iLenSl x12) fun x13 =>
 OP (iBin .gtr x13 (.int .i64 (0))) fun x14 =>
 IfP x14
 (OP (iLoad true 2 h a2) fun x16 =>
 OP (iLoad true 2 h b3) fun x17 =>
 CallP P 106 [x16, x17] h fun x18 h_1 =>
 OP (iExt 0 x18) fun x19 =>
 OP (iExt 1 x18) fun x20 =>
 OH (iAlloc 36 [(.bool false), (.slice none 0 0)] h_1) fun x5 h_2 =>
 OH (iAlloc 36 [(.bool false), (.slice none 0 0)] h_2) fun rest6 h_3 =>
 OH (oStore 2 h_3 x5 x19) fun _ h_4 =>
 OH (oStore 2 h_4 rest6 x20) fun _ h_5 =>
 OP (iLoad true 2 h_5 b3) fun x21 =>
 (True) ∧
 OP (iLoad true 2 h_5 rest6) fun x22 =>
 (True) ∧
 OH (oStore 2 h_5 a2 x21) fun _ h_6 =>
 (iLoad true 2 h_6 rest6 = some x22 ∧ True) ∧
 OH (oStore 2 h_6 b3 x22) fun _ h_7 =>
 (True) ∧
 ([a2, b3, x4] : List Value) = [a2, b3, x4] ∧ L1 [] h_7)
 (p91z10 P K a2 x4 h)) := (CutP_def _ _ _ _).trans (by kernel_rfl)
theorem q91z10 (a2 x4 : Value) (h : Heap) : p91z10 P K a2 x4 h =
 (OP (iLoad true 2 h a2) fun x23 =>
 OH (oStore 2 h x4 x23) fun _ h_1 =>
 OP (iLoad true 2 h_1 x4) fun r0 =>
 K r0 h_1) := (CutP_def _ _ _ _).trans (by kernel_rfl)
def T91 (a0 b1 : Value) (h : Heap) : Prop :=
 OH (iBox 36 h a0) fun a2 h_1 =>
 OH (iBox 36 h_1 b1) fun b3 h_2 =>
 OH (iAlloc 36 [(.bool false), (.slice none 0 0)] h_2) fun x4 h_3 =>
 OP (iLoad true 2 h_3 a2) fun x7 =>
 (True) ∧
 CallP P 101 [x7] h_3 fun x8 h_4 =>
 (True) ∧
 OP (iLoad true 2 h_4 b3) fun x9 =>
 (iLoad true 2 h_3 b3 = some x9 ∧ True) ∧
 CallP P 101 [x9] h_4 fun x10 h_5 =>
 (True) ∧
 OH (oStore 2 h_5 a2 x8) fun _ h_6 =>
 (True) ∧
 OH (oStore 2 h_6 b3 x10) fun _ h_7 =>
 (True) ∧
 LoopP [] h_7 fun L1 xs hx =>
 p91z5 P K a2 b3 x4 L1 xs hx
theorem e91 (a0 b1 : Value) (h : Heap) : iwpP P c91 (bodyP [.cell true 2 4] K) (frame0 [a0, b1]) h = T91 P K a0 b1 h := by kernel_rfl
theorem f91 {K : VK} {a0 b1 : Value} {h : Heap} (H : T91 Tryz.prog K a0 b1 h) : CallP Tryz.prog 91 [a0, b1] h K :=
 callP_intro k91 (Nat.le_of_ble_eq_true rfl) ((e91 Tryz.prog K a0 b1 h).mpr H)
/-! F106: pommel/pommelref01.DivMod -/
noncomputable def oc106 := compFn Tryz.prog 106 [[], [], [], [2, 3, 4, 5, 6], [7, 8], [], [], [], [], [2, 3, 4, 5, 6, 7, 8], [9, 10], [], [], [], [], [2, 3, 4, 5, 6, 7, 8, 9], [], [2, 3, 4, 5, 6, 7, 8], [2, 3, 4, 5, 6, 7], [], [3, 4, 5, 12, 13, 78], [3, 4, 5, 12, 13, 78, 82], [], [], [], []]
@[irreducible] noncomputable def c106 : ICode := icOf oc106
@[irreducible] noncomputable def c106z6 : ICode := c106.r.r.l.r.l.l
@[irreducible] noncomputable def c106z3 : ICode := c106.r.r.r
@[irreducible] noncomputable def c106z15 : ICode := c106z6.r.l.l.r.r.l.l.l
@[irreducible] noncomputable def c106z13 : ICode := c106z6.r.l.l.r.r.r
@[irreducible] noncomputable def c106z9 : ICode := c106z6.r.r
@[irreducible] noncomputable def c106z24 : ICode := c106z3.l
@[irreducible] noncomputable def c106z21 : ICode := c106z13.l
@[irreducible] noncomputable def c106z23 : ICode := c106z9.l
@[irreducible] noncomputable def c106z29 : ICode := c106z24.r.l.l.r.l
@[irreducible] noncomputable def c106z27 : ICode := c106z24.r.l.r
@[irreducible] noncomputable def c106z26 : ICode := c106z24.r.r
@[irreducible] noncomputable def c106z31 : ICode := c106z29.r.l
theorem k106 : oc106 = some (92, c106, [.cell true 2 4, .cell true 2 5]) := by kernel_rfl
def K106z0 (_P : Program) (K : VK) : Kont := bodyP [.cell true 2 4, .cell true 2 5] K
def K106z3 : Kont := thenK (iwpP P c106z3 (K106z0 P K)) (K106z0 P K)
def K106z5 : Kont := inBlockK 0 (K106z3 P K)
def K106z6 (a2 b3 x4 x5 q6 : Value) (L1 : LK) : Kont := thenK (fun f' h'' => (([2, 3, 4, 5, 6] : List Nat).map f' : List Value) = [a2, b3, x4, x5, q6] ∧ L1 (([7, 8] : List Nat).map f') h'') (K106z5 P K)
def K106z9 (a2 b3 x4 x5 q6 : Value) (L1 : LK) : Kont := thenK (iwpP P c106z9 (K106z6 P K a2 b3 x4 x5 q6 L1)) (K106z6 P K a2 b3 x4 x5 q6 L1)
def K106z10 (a2 b3 x4 x5 q6 : Value) (L1 : LK) : Kont := inBlockK 1 (K106z9 P K a2 b3 x4 x5 q6 L1)
def K106z13 (a2 b3 x4 x5 q6 : Value) (L1 : LK) : Kont := thenK (iwpP P c106z13 (K106z10 P K a2 b3 x4 x5 q6 L1)) (K106z10 P K a2 b3 x4 x5 q6 L1)
def K106z14 (a2 b3 x4 x5 q6 : Value) (L1 : LK) : Kont := inBlockK 2 (K106z13 P K a2 b3 x4 x5 q6 L1)
def K106z15 (a2 b3 x4 x5 q6 rest7 i8 : Value) (L1 L2 : LK) : Kont := thenK (fun f' h'' => (([2, 3, 4, 5, 6, 7, 8] : List Nat).map f' : List Value) = [a2, b3, x4, x5, q6, rest7, i8] ∧ L2 (([9, 10] : List Nat).map f') h'') (K106z14 P K a2 b3 x4 x5 q6 L1)
def K106z26 : Kont := thenK (iwpP P c106z26 (K106z0 P K)) (K106z0 P K)
def K106z27 : Kont := thenK (iwpP P c106z27 (K106z26 P K)) (K106z26 P K)
def p106z6 (a2 b3 x4 x5 q6 : Value) (L1 : LK) (xs : List Value) (h : Heap) : Prop := CutP (iwpP P c106z6 (K106z6 P K a2 b3 x4 x5 q6 L1)) ([2, 3, 4, 5, 6] ++ [7, 8]) ([a2, b3, x4, x5, q6] ++ xs) h
def p106z15 (a2 b3 x4 x5 q6 rest7 i8 : Value) (L1 L2 : LK) (xs : List Value) (h : Heap) : Prop := CutP (iwpP P c106z15 (K106z15 P K a2 b3 x4 x5 q6 rest7 i8 L1 L2)) ([2, 3, 4, 5, 6, 7, 8] ++ [9, 10]) ([a2, b3, x4, x5, q6, rest7, i8] ++ xs) h
def p106z21 (a2 b3 x4 x5 q6 rest7 i8 low9 : Value) (L1 : LK) (h : Heap) : Prop := CutP (iwpP P c106z21 (K106z10 P K a2 b3 x4 x5 q6 L1)) [2, 3, 4, 5, 6, 7, 8, 9] [a2, b3, x4, x5, q6, rest7, i8, low9] h
def p106z23 (a2 b3 x4 x5 q6 rest7 i8 : Value) (L1 : LK) (h : Heap) : Prop := CutP (iwpP P c106z23 (K106z6 P K a2 b3 x4 x5 q6 L1)) [2, 3, 4, 5, 6, 7, 8] [a2, b3, x4, x5, q6, rest7, i8] h
def p106z24 (a2 b3 x4 x5 q6 rest7 : Value) (h : Heap) : Prop := CutP (iwpP P c106z24 (K106z0 P K)) [2, 3, 4, 5, 6, 7] [a2, b3, x4, x5, q6, rest7] h
def p106z29 (b3 x4 x5 quotient12 left13 x78 : Value) (h : Heap) : Prop := CutP (iwpP P c106z29 (K106z27 P K)) [3, 4, 5, 12, 13, 78] [b3, x4, x5, quotient12, left13, x78] h
def p106z31 (b3 x4 x5 quotient12 left13 x78 x82 : Value) (h : Heap) : Prop := CutP (iwpP P c106z31 (K106z27 P K)) [3, 4, 5, 12, 13, 78, 82] [b3, x4, x5, quotient12, left13, x78, x82] h
theorem q106z15 (a2 b3 x4 x5 q6 rest7 i8 : Value) (L1 L2 : LK) (low9 high10 : Value) (h : Heap) : p106z15 P K a2 b3 x4 x5 q6 rest7 i8 L1 L2 [low9, high10] h =
 (OP (iBin .sub high10 low9) fun x40 =>
 OP (iBin .gtr x40 (.int .i64 (1))) fun x41 =>
 IfP x41
 (OP (iBin .add low9 high10) fun x44 =>
 OP (iBin .quo x44 (.int .i64 (2))) fun x45 =>
 OP (iFadr 1 b3) fun x46 =>
 OP (iLoad false 1 h x46) fun x47 =>
 CallP P 125 [x47, x45] h fun x49 h_1 =>
 CallP P 98 [x49, rest7] h_1 fun x51 h_2 =>
 OP (iBin .leq x51 (.int .i64 (0))) fun x52 =>
 IfP x52
 (([a2, b3, x4, x5, q6, rest7, i8] : List Value) = [a2, b3, x4, x5, q6, rest7, i8] ∧ L2 [x45, high10] h_2)
 (([a2, b3, x4, x5, q6, rest7, i8] : List Value) = [a2, b3, x4, x5, q6, rest7, i8] ∧ L2 [low9, x45] h_2))
 (p106z21 P K a2 b3 x4 x5 q6 rest7 i8 low9 L1 h)) := (CutP_def _ _ _ _).trans (by kernel_rfl)
theorem q106z21 (a2 b3 x4 x5 q6 rest7 i8 low9 : Value) (L1 : LK) (h : Heap) : p106z21 P K a2 b3 x4 x5 q6 rest7 i8 low9 L1 h =
 (OP (iAdrSl 1 q6 i8) fun x58 =>
 OH (oStore 1 h x58 low9) fun _ h_1 =>
 OP (iFadr 1 b3) fun x60 =>
 OP (iLoad false 1 h_1 x60) fun x61 =>
 CallP P 125 [x61, low9] h_1 fun x63 h_2 =>
 CallP P 99 [rest7, x63] h_2 fun x64 h_3 =>
 OP (iBuild [(.bool false), (.slice none 0 0)] [(1, 1, x64)]) fun x65 =>
 CallP P 95 [x65] h_3 fun x66 h_4 =>
 OP (iFld false 1 1 x66) fun x67 =>
 p106z23 P K a2 b3 x4 x5 q6 x67 i8 L1 h_4) := (CutP_def _ _ _ _).trans (by kernel_rfl)
theorem q106z23 (a2 b3 x4 x5 q6 rest7 i8 : Value) (L1 : LK) (h : Heap) : p106z23 P K a2 b3 x4 x5 q6 rest7 i8 L1 h =
 (OP (iBin .sub i8 (.int .i64 (1))) fun x26 =>
 ([a2, b3, x4, x5, q6] : List Value) = [a2, b3, x4, x5, q6] ∧ L1 [rest7, x26] h) := (CutP_def _ _ _ _).trans (by kernel_rfl)
theorem q106z6 (a2 b3 x4 x5 q6 : Value) (L1 : LK) (rest7 i8 : Value) (h : Heap) : p106z6 P K a2 b3 x4 x5 q6 L1 [rest7, i8] h =
 (OP (iBin .geq i8 (.int .i64 (0))) fun x24 =>
 IfP x24
 (OP (iFadr 1 a2) fun x27 =>
 OP (iLoad false 1 h x27) fun x28 =>
 OP (iAdrSl 1 x28 i8) fun x30 =>
 OP (iLoad false 1 h x30) fun x31 =>
 OH (iMkSl 3 1 [(.int .i64 (0))] h [(0, 1, x31)]) fun x32 h_1 =>
 OH (iApp 3 1 8 h_1 x32 rest7) fun x34 h_2 =>
 OP (iBuild [(.bool false), (.slice none 0 0)] [(1, 1, x34)]) fun x35 =>
 CallP P 95 [x35] h_2 fun x36 h_3 =>
 OP (iFld false 1 1 x36) fun x37 =>
 LoopP [(.int .i64 (0)), (.int .i64 (10000))] h_3 fun L2 xs hx =>
 p106z15 P K a2 b3 x4 x5 q6 x37 i8 L1 L2 xs hx)
 (p106z24 P K a2 b3 x4 x5 q6 rest7 h)) := (CutP_def _ _ _ _).trans (by kernel_rfl)
theorem q106z31 (b3 x4 x5 quotient12 left13 x78 x82 : Value) (h : Heap) : p106z31 P K b3 x4 x5 quotient12 left13 x78 x82 h =
 (OP (iPick x78 x82 (.bool false)) fun x83 =>
 IfP x83
 (OP (iLoad true 2 h quotient12) fun x84 =>
 (True) ∧
 CallP P 22 [(.int .i64 (1))] h fun x85 h_1 =>
 (iLoad true 2 h_1 quotient12 = some x84 ∧ True) ∧
 CallP P 94 [x84, x85] h_1 fun x86 h_2 =>
 (True) ∧
 OP (iLoad true 2 h_2 b3) fun x87 =>
 (iLoad true 2 h b3 = some x87 ∧ iLoad true 2 h_1 b3 = some x87 ∧ True) ∧
 OP (iLoad true 2 h_2 left13) fun x88 =>
 (iLoad true 2 h left13 = some x88 ∧ iLoad true 2 h_1 left13 = some x88 ∧ True) ∧
 CallP P 94 [x87, x88] h_2 fun x89 h_3 =>
 (True) ∧
 OH (oStore 2 h_3 x4 x86) fun _ h_4 =>
 (True) ∧
 OH (oStore 2 h_4 x5 x89) fun _ h_5 =>
 (True) ∧
 OP (iLoad true 2 h_5 x4) fun r0 =>
 OP (iLoad true 2 h_5 x5) fun r1 =>
 K (.tuple #[r0, r1]) h_5)
 (OP (iLoad true 2 h quotient12) fun x90 =>
 (True) ∧
 OP (iLoad true 2 h left13) fun x91 =>
 (True) ∧
 OH (oStore 2 h x4 x90) fun _ h_1 =>
 (iLoad true 2 h_1 left13 = some x91 ∧ True) ∧
 OH (oStore 2 h_1 x5 x91) fun _ h_2 =>
 (True) ∧
 OP (iLoad true 2 h_2 x4) fun r0 =>
 OP (iLoad true 2 h_2 x5) fun r1 =>
 K (.tuple #[r0, r1]) h_2)) := (CutP_def _ _ _ _).trans (by kernel_rfl)
theorem q106z29 (b3 x4 x5 quotient12 left13 x78 : Value) (h : Heap) : p106z29 P K b3 x4 x5 quotient12 left13 x78 h =
 (GdP x78 true
 (OP (iFadr 1 left13) fun x79 =>
 OP (iLoad false 1 h x79) fun x80 =>
 OP (iLenSl x80) fun x81 =>
 OP (iBin .gtr x81 (.int .i64 (0))) fun x82 =>
 p106z31 P K b3 x4 x5 quotient12 left13 x78 x82 h)
 (p106z31 P K b3 x4 x5 quotient12 left13 x78 undef h)) := (CutP_def _ _ _ _).trans (by kernel_rfl)
theorem q106z24 (a2 b3 x4 x5 q6 rest7 : Value) (h : Heap) : p106z24 P K a2 b3 x4 x5 q6 rest7 h =
 (OP (iFadr 0 a2) fun x68 =>
 OP (iLoad false 1 h x68) fun x69 =>
 OP (iBuild [(.bool false), (.slice none 0 0)] [(0, 1, x69), (1, 1, q6)]) fun x71 =>
 CallP P 95 [x71] h fun x72 h_1 =>
 OP (iBuild [(.bool false), (.slice none 0 0)] [(1, 1, rest7)]) fun x74 =>
 CallP P 95 [x74] h_1 fun x75 h_2 =>
 OH (iAlloc 36 [(.bool false), (.slice none 0 0)] h_2) fun quotient12 h_3 =>
 OH (iAlloc 36 [(.bool false), (.slice none 0 0)] h_3) fun left13 h_4 =>
 OH (oStore 2 h_4 quotient12 x72) fun _ h_5 =>
 OH (oStore 2 h_5 left13 x75) fun _ h_6 =>
 OP (iFadr 0 a2) fun x76 =>
 OP (iLoad false 1 h_6 x76) fun x77 =>
 p106z29 P K b3 x4 x5 quotient12 left13 x77 h_6) := (CutP_def _ _ _ _).trans (by kernel_rfl)
def T106 (a0 b1 : Value) (h : Heap) : Prop :=
 OH (iBox 36 h a0) fun a2 h_1 =>
 OH (iBox 36 h_1 b1) fun b3 h_2 =>
 OH (iAlloc 36 [(.bool false), (.slice none 0 0)] h_2) fun x4 h_3 =>
 OH (iAlloc 36 [(.bool false), (.slice none 0 0)] h_3) fun x5 h_4 =>
 OP (iFadr 1 a2) fun x14 =>
 OP (iLoad false 1 h_4 x14) fun x15 =>
 OP (iLenSl x15) fun x16 =>
 OH (iMake 3 8 [(.int .i64 (0))] h_4 x16 x16) fun x17 h_5 =>
 OH (iMkSl 3 0 [(.int .i64 (0))] h_5 []) fun x18 h_6 =>
 OP (iFadr 1 a2) fun x19 =>
 OP (iLoad false 1 h_6 x19) fun x20 =>
 OP (iLenSl x20) fun x21 =>
 OP (iBin .sub x21 (.int .i64 (1))) fun x22 =>
 LoopP [x18, x22] h_6 fun L1 xs hx =>
 p106z6 P K a2 b3 x4 x5 x17 L1 xs hx
theorem e106 (a0 b1 : Value) (h : Heap) : iwpP P c106 (bodyP [.cell true 2 4, .cell true 2 5] K) (frame0 [a0, b1]) h = T106 P K a0 b1 h := by kernel_rfl
theorem f106 {K : VK} {a0 b1 : Value} {h : Heap} (H : T106 Tryz.prog K a0 b1 h) : CallP Tryz.prog 106 [a0, b1] h K :=
 callP_intro k106 (Nat.le_of_ble_eq_true rfl) ((e106 Tryz.prog K a0 b1 h).mpr H)
end Go.Proofs.YthplaillblmgfaaGreatDoor
