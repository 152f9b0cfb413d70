/-
  Numbers of any size, as the program holds them: 32 bits a digit.
-/
import Derived.Test.YtjdlcokhlphmhaaCtU
import Derived.Test.YtjdlcokhlphmhaaMg8
import Derived.Test.YtjdlcokhlphmhaaSh7
namespace Go.Proofs.Ytjdlcokhlphmhaa
open Go.Sim

/-- Beyond this no number is followed. -/
def bigW : Nat := 4294967296 ^ 100

theorem lt_bigW {n : Nat} (h : n < 4294967296 ^ 20) : n < bigW := Nat.lt_of_lt_of_le h (Nat.pow_le_pow_right (by decide) (by decide))

theorem canW_len {xs : List Nat} (h : Canon 4294967296 xs) (hv : val 4294967296 xs < bigW) : xs.length ≤ 100 := h.len (by decide) hv

/-- Digits in memory: a slice of the first cells of an object, or nil. -/
def DS (e : TypeId) (k : IntKind) (h : Heap) (v : Value) (xs : List Nat) : Prop :=
  (v = .slice none 0 0 ∧ xs = []) ∨ ∃ i, v = sl e i 0 xs.length ∧ (xs = [] ∨ ∃ rest, objCells h i = some (xs.map (fun d : Nat => Value.int k (d : Int)) ++ rest))

theorem DS.mono {e : TypeId} {k : IntKind} {h h' : Heap} {v : Value} {xs : List Nat} (x : EX h h') (p : DS e k h v xs) : DS e k h' v xs :=
  p.imp id fun ⟨i, a, b⟩ => ⟨i, a, b.imp id fun ⟨r, c⟩ => ⟨r, x.cells c⟩⟩

theorem DS.len {e : TypeId} {k : IntKind} {h : Heap} {v : Value} {xs : List Nat} (p : DS e k h v xs) : iLenSl v = some (I xs.length) := by
  rcases p with ⟨rfl, rfl⟩ | ⟨i, rfl, _⟩ <;> rfl

theorem DS.get {e : TypeId} {k : IntKind} {h : Heap} {v : Value} {xs : List Nat} (p : DS e k h v xs) {j : Nat} (hj : j < xs.length) : ∃ i, iAdrSl 1 v (I j) = some (pt i j) ∧ iLoad false 1 h (pt i j) = some (.int k (xs[j] : Int)) := by
  rcases p with ⟨_, rfl⟩ | ⟨i, rfl, hc⟩
  · simp at hj
  · obtain ⟨r, hc⟩ := hc.resolve_left (by rintro rfl; simp at hj)
    refine ⟨i, adr_sl hj, ?_⟩
    have : (xs.map (fun d : Nat => Value.int k (d : Int)) ++ r)[j]? = some (.int k (xs[j] : Int)) := by rw [List.getElem?_append_left (by simpa using hj)]; simp [hj]
    simp [iLoad, hc, iPart, this]

theorem DS.nil (e : TypeId) (k : IntKind) (h : Heap) : DS e k h (.slice none 0 0) [] := .inl ⟨rfl, rfl⟩

theorem DS.one {e : TypeId} {k : IntKind} {h : Heap} {v : Value} {xs : List Nat} (p : DS e k h v xs) : noTuple v = true ∧ vcells v = [v] := by
  rcases p with ⟨rfl, _⟩ | ⟨i, rfl, _⟩ <;> exact ⟨rfl, rfl⟩

/-- The same without the last digit. -/
theorem DS.pop {e : TypeId} {k : IntKind} {h : Heap} {v : Value} {xs : List Nat} (p : DS e k h v xs) {n : Nat} (hn : n ≤ xs.length) : ∃ v', iSlSl e 1 v none (some (I n)) = some v' ∧ DS e k h v' (xs.take n) := by
  rcases p with ⟨rfl, rfl⟩ | ⟨i, rfl, hc⟩
  · simp at hn; subst hn
    exact ⟨_, rfl, .inl ⟨rfl, rfl⟩⟩
  · refine ⟨sl e i 0 n, ?_, .inr ⟨i, by rw [List.length_take, Nat.min_eq_left hn], ?_⟩⟩
    · simp [iSlSl, sl, iBounds, natOf, hn]
    · rcases hc with rfl | ⟨r, hc⟩
      · left; simp
      · right
        refine ⟨(xs.drop n).map (fun d : Nat => Value.int k (d : Int)) ++ r, ?_⟩
        rw [hc, ← List.append_assoc, ← List.map_append, List.take_append_drop]

/-- A number's size. -/
def MagV (h : Heap) (v : Value) (n : Nat) : Prop := ∃ xs, DS 143 .u32 h v xs ∧ Canon 4294967296 xs ∧ val 4294967296 xs = n

theorem MagV.mono {h h' : Heap} {v : Value} {n : Nat} (x : EX h h') (p : MagV h v n) : MagV h' v n := let ⟨xs, a, b, c⟩ := p; ⟨xs, a.mono x, b, c⟩

theorem C87 {h : Heap} {K : Value → Heap → Prop} {v : Value} {xs : List Nat} (p : DS 143 .u32 h v xs) (hl : Lim 4294967296 xs) (hs : xs.length ≤ 1000) (hk : ∀ v', MagV h v' (val 4294967296 xs) → K v' h) : CallP Try.prog 87 [v] h K := by
  refine f87 ?_
  refine loopL (σ := Value × List Nat) (fun p => [p.1]) (fun _ => h) (fun q => DS 143 .u32 h q.1 q.2 ∧ Lim 4294967296 q.2 ∧ val 4294967296 q.2 = val 4294967296 xs ∧ q.2.length ≤ 1000) (fun q => q.2.length) (v, xs) rfl rfl ⟨p, hl, rfl, hs⟩ ?_
  rintro ⟨v, ys⟩ ⟨p, hl, hv, hs⟩ L hL
  simp only at p hl hv hs hL ⊢
  rw [q87z4]
  have done : Canon 4294967296 ys → p87z12 Try.prog K v h := by
    intro hc
    rw [q87z12]
    exact hk v ⟨ys, p, hc, hv⟩
  simp only [p.len, OP_some, bin_gtr]
  by_cases h0 : ys.length = 0
  · have : ys = [] := List.length_eq_zero_iff.1 h0
    rw [decide_eq_false (show ¬ (0 : Int) < (ys.length : Int) by omega)]
    simp only [q87z8, GdP_ft, q87z10, iPick_f, OP_some, IfP_false]
    exact done (by rw [this]; exact Canon.nil 4294967296)
  · rw [decide_eq_true (show (0 : Int) < (ys.length : Int) by omega)]
    have e1 : IntKind.wrap .i64 ((ys.length : Int) - 1) = ((ys.length - 1 : Nat) : Int) := by rw [wrap64 (by omega) (by omega)]; omega
    obtain ⟨i, g1, g2⟩ := p.get (j := ys.length - 1) (by omega)
    simp only [q87z8, GdP_tt, p.len, OP_some, bin_sub, e1, g1, g2, bin_eql, q87z10, iPick_t, IfP_dec]
    refine ⟨fun hz => ?_, fun hz => ?_⟩
    · obtain ⟨v', h1, h2⟩ := p.pop (n := ys.length - 1) (by omega)
      simp only [h1, OP_some, true_and]
      have hsplit : ys = ys.take (ys.length - 1) ++ [0] := by
        have := List.take_succ_eq_append_getElem (l := ys) (i := ys.length - 1) (by omega)
        rw [show ys.length - 1 + 1 = ys.length by omega, List.take_length] at this
        have hz' : ys[ys.length - 1] = 0 := by omega
        rw [hz'] at this
        exact this
      refine hL (v', ys.take (ys.length - 1)) ⟨h2, hl.mono fun y hy => List.mem_of_mem_take hy, ?_, by rw [List.length_take]; omega⟩ (by simp; omega)
      rw [← hv]
      conv => rhs; rw [hsplit]
      rw [val_append]
      simp [val]
    · exact done (can_of_last hl fun h1 hc => hz (by rw [hc]; rfl))

/-- Fresh digits at the end of the heap. -/
abbrev hd (h : Heap) (os : List Nat) : Heap := h ++ [.arr 143 (os.map fun d : Nat => Value.int .u32 (d : Int))]

theorem make_hd {h : Heap} {n : Nat} (hn : n ≤ 1000) : iMake 143 4 [.int .u32 0] h (I n) (I n) = some (sl 143 h.length 0 n, hd h (List.replicate n 0)) := by
  have hz : ∀ m, zrep [Value.int .u32 0] m = (List.replicate m 0).map fun d : Nat => Value.int .u32 (d : Int) := by
    intro m
    induction m with
    | zero => rfl
    | succ m ih =>
      have : zrep [Value.int .u32 0] (m + 1) = Value.int .u32 0 :: zrep [Value.int .u32 0] m := by simp [zrep, List.replicate_succ]
      rw [this, ih, List.replicate_succ]; rfl
  simp only [iMake]
  rw [if_pos ⟨by omega, by omega, by omega, by omega⟩, Int.toNat_natCast, hz]

theorem hd_get (h : Heap) (os : List Nat) : (hd h os)[h.length]? = some (.arr 143 (os.map fun d : Nat => Value.int .u32 (d : Int))) := by simp [hd]

theorem hd_store {h : Heap} {os : List Nat} {j : Nat} (d : Nat) (hj : j < os.length) : oStore 1 (hd h os) (pt h.length j) (.int .u32 (d : Int)) = some (undef, hd h (os.set j d)) := by
  rw [store_at (hd_get h os) (by simpa using hj) rfl rfl]
  simp [hd, List.map_set]

theorem hd_load {h : Heap} {os : List Nat} {j : Nat} (hj : j < os.length) : iLoad false 1 (hd h os) (pt h.length j) = some (.int .u32 (os[j] : Int)) := by
  simp [iLoad, objCells, hd_get, iPart, hj]

theorem hd_DS (h : Heap) (os : List Nat) : DS 143 .u32 (hd h os) (sl 143 h.length 0 os.length) os := .inr ⟨h.length, rfl, .inr ⟨[], by simp [objCells, hd]⟩⟩

theorem hd_EX (h : Heap) (os : List Nat) : EX h (hd h os) := EX.append _ _

theorem wrapU64 {n : Int} (h1 : 0 ≤ n) (h2 : n < 18446744073709551616) : IntKind.wrap .u64 n = n := by
  have e : IntKind.wrap .u64 n = n % 18446744073709551616 := by simp [IntKind.wrap, IntKind.bits, IntKind.signed]
  rw [e]; omega
theorem wrapU32e (n : Int) : IntKind.wrap .u32 n = n % 4294967296 := by simp [IntKind.wrap, IntKind.bits, IntKind.signed]
theorem wrapU32 {n : Int} (h1 : 0 ≤ n) (h2 : n < 4294967296) : IntKind.wrap .u32 n = n := by rw [wrapU32e]; omega

theorem shr32 (s : Nat) : iBin .shr (.int .u64 (s : Int)) (.int .u64 32) = some (.int .u64 ((s / 4294967296 : Nat) : Int)) := by
  simp only [iBin, iShift]
  rw [if_neg (by omega)]
  have : (min (32 : Int).toNat IntKind.u64.bits) = 32 := rfl
  rw [this]
  have e2 : (2 : Int) ^ 32 = 4294967296 := by decide
  rw [e2, Int.fdiv_eq_ediv_of_nonneg _ (by omega)]
  congr 2

theorem C109 {x y c : Nat} {h : Heap} {K : Value → Heap → Prop} (hx : x < 4294967296) (hy : y < 4294967296) (hc : c ≤ 1) (hk : K (.tuple #[.int .u32 (((x + y + c) % 4294967296 : Nat) : Int), .int .u32 (((x + y + c) / 4294967296 : Nat) : Int)]) h) :
    CallP Try.prog 109 [.int .u32 (x : Int), .int .u32 (y : Int), .int .u32 (c : Int)] h K := by
  refine f109 ?_
  have e1 : IntKind.wrap .u64 ((x : Int) + (y : Int)) = ((x + y : Nat) : Int) := by rw [wrapU64 (by omega) (by omega)]; omega
  have e2 : IntKind.wrap .u64 (((x + y : Nat) : Int) + (c : Int)) = ((x + y + c : Nat) : Int) := by rw [wrapU64 (by omega) (by omega)]; omega
  have e3 : IntKind.wrap .u32 ((x + y + c : Nat) : Int) = (((x + y + c) % 4294967296 : Nat) : Int) := by rw [wrapU32e]; omega
  simp only [T109, conv_int, OP_some, bin_add]
  rw [wrapU64 (n := (x : Int)) (by omega) (by omega), wrapU64 (n := (y : Int)) (by omega) (by omega), e1, wrapU64 (n := (c : Int)) (by omega) (by omega), e2]
  simp only [shr32, OP_some, conv_int, e3]
  rw [wrapU32 (by omega) (by omega)]
  exact hk

/-- A sum, digit by digit. -/
theorem C88s {va vb : Value} {xs ys : List Nat} {h : Heap} {K : Value → Heap → Prop} (hx : DS 143 .u32 h va xs) (hy : DS 143 .u32 h vb ys) (lx : Lim 4294967296 xs) (ly : Lim 4294967296 ys) (hle : ys.length ≤ xs.length) (hlen : xs.length ≤ 200)
    (hk : ∀ v h', EX h h' → MagV h' v (val 4294967296 xs + val 4294967296 ys) → K v h') : p88z4 Try.prog K va vb h := by
  rw [q88z4]
  simp only [hx.len, OP_some, bin_add, inc xs.length (by omega), make_hd (show xs.length + 1 ≤ 1000 by omega), OH_some]
  have hW : 0 < 4294967296 := by decide
  refine loopL (σ := Nat × Nat × List Nat) (fun p => [.int .u32 (p.1 : Int), I p.2.1]) (fun p => hd h p.2.2)
    (fun p => p.2.1 ≤ xs.length ∧ p.1 ≤ 1 ∧ p.2.2.length = xs.length + 1 ∧ Lim 4294967296 p.2.2 ∧ (∀ j (hj : j < p.2.2.length), p.2.1 ≤ j → p.2.2[j] = 0) ∧ val 4294967296 p.2.2 + 4294967296 ^ p.2.1 * p.1 = val 4294967296 (xs.take p.2.1) + val 4294967296 (ys.take p.2.1)) (fun p => xs.length - p.2.1)
    (0, 0, List.replicate (xs.length + 1) 0) rfl rfl ⟨by simp, by simp, by simp, Lim.zeros hW _, by simp, by simp [val_zeros, val]⟩ ?_
  rintro ⟨c, i, os⟩ ⟨hi, hc, hol, hlim, hz, hval⟩ L hL
  simp only at hi hc hol hlim hz hval hL ⊢
  rw [q88z10]
  have hx' := hx.mono (hd_EX h os)
  have hy' := hy.mono (hd_EX h os)
  simp only [bin_lss, OP_some, IfP_dec]
  refine ⟨fun hlt => ?_, fun hge => ?_⟩
  · have hil : i < xs.length := by omega
    obtain ⟨ia, a1, a2⟩ := hx'.get hil
    have hxl : xs[i] < 4294967296 := lx _ (List.getElem_mem hil)
    have go : ∀ y : Nat, y < 4294967296 → val 4294967296 (ys.take (i + 1)) = val 4294967296 (ys.take i) + 4294967296 ^ i * y → p88z19 Try.prog K va vb (sl 143 h.length 0 (xs.length + 1)) (.int .u32 (c : Int)) (I i) (.int .u32 (y : Int)) (I xs.length) (I i) L (hd h os) := by
      intro y hyl hyv
      rw [q88z19]
      simp only [a1, OP_some, a2]
      refine C109 hxl hyl hc ?_
      simp only [ext_tuple, pair0, pair1, OP_some, adr_sl (show i < xs.length + 1 by omega)]
      rw [hd_store _ (by omega)]
      simp only [OH_some, q88z20, bin_add, OP_some, inc i (by omega), true_and]
      have hmod : (xs[i] + y + c) % 4294967296 < 4294967296 := Nat.mod_lt _ hW
      have hdiv : (xs[i] + y + c) / 4294967296 ≤ 1 := by omega
      refine hL ((xs[i] + y + c) / 4294967296, i + 1, os.set i ((xs[i] + y + c) % 4294967296)) ⟨by show i + 1 ≤ xs.length; omega, hdiv, by show (os.set i _).length = _; rw [List.length_set]; exact hol, hlim.set hmod i, ?_, ?_⟩ (by show xs.length - (i + 1) < xs.length - i; omega)
      · intro j hj hij
        show (os.set i _)[j] = 0
        have hij' : i ≠ j := by have : i + 1 ≤ j := hij; omega
        rw [List.getElem_set_ne hij']
        exact hz j (by simpa using hj) (by have : i + 1 ≤ j := hij; omega)
      · show val 4294967296 (os.set i _) + 4294967296 ^ (i + 1) * _ = val 4294967296 (xs.take (i + 1)) + val 4294967296 (ys.take (i + 1))
        have h1 := val_set 4294967296 os i ((xs[i] + y + c) % 4294967296) (by omega)
        rw [hz i (by omega) (Nat.le_refl _)] at h1
        rw [val_take_succ 4294967296 xs hil, hyv, Nat.pow_succ]
        have h2 := Nat.mod_add_div (xs[i] + y + c) 4294967296
        generalize (xs[i] + y + c) % 4294967296 = m at *
        generalize (xs[i] + y + c) / 4294967296 = q at *
        generalize 4294967296 ^ i = P at *
        generalize hWW : 4294967296 = w at *
        grind
    simp only [hy'.len, OP_some, bin_lss, IfP_dec]
    refine ⟨fun hly => ?_, fun hgy => ?_⟩
    · have hiy : i < ys.length := by omega
      obtain ⟨ib, b1, b2⟩ := hy'.get hiy
      simp only [b1, OP_some, b2]
      exact go _ (ly _ (List.getElem_mem hiy)) (val_take_succ 4294967296 ys hiy)
    · have := go 0 (by decide) (by rw [List.take_of_length_le (by omega), List.take_of_length_le (by omega)]; simp)
      simpa using this
  · have : i = xs.length := by omega
    subst this
    rw [q88z21]
    simp only [hx'.len, OP_some, adr_sl (show xs.length < xs.length + 1 by omega)]
    rw [hd_store _ (by omega)]
    simp only [OH_some]
    have h1 := val_set 4294967296 os xs.length c (by omega)
    rw [hz xs.length (by omega) (Nat.le_refl _)] at h1
    have hv : val 4294967296 (os.set xs.length c) = val 4294967296 xs + val 4294967296 ys := by
      rw [List.take_length, List.take_of_length_le hle] at hval
      omega
    have hcW : c < 4294967296 := Nat.lt_of_le_of_lt hc (by decide)
    have e : sl 143 h.length 0 (xs.length + 1) = sl 143 h.length 0 (os.set xs.length c).length := by rw [List.length_set, hol]
    rw [e]
    refine C87 (hd_DS h _) (hlim.set hcW _) (by rw [List.length_set]; omega) ?_
    intro v' hm
    rw [hv] at hm
    exact hk v' _ (hd_EX h _) hm

theorem C88 {va vb : Value} {a b : Nat} {h : Heap} {K : Value → Heap → Prop} (ha : MagV h va a) (hb : MagV h vb b) (la : a < bigW) (lb : b < bigW) (hk : ∀ v h', EX h h' → MagV h' v (a + b) → K v h') : CallP Try.prog 88 [va, vb] h K := by
  obtain ⟨xs, dx, cx, rfl⟩ := ha
  obtain ⟨ys, dy, cy, rfl⟩ := hb
  have l1 := canW_len cx la
  have l2 := canW_len cy lb
  refine f88 ?_
  simp only [T88, dx.len, dy.len, OP_some, bin_lss, IfP_dec]
  refine ⟨fun hlt => ?_, fun hge => ?_⟩
  · refine C88s dy dx cy.1 cx.1 (by omega) (by omega) ?_
    rw [Nat.add_comm (val 4294967296 ys)]
    exact hk
  · exact C88s dx dy cx.1 cy.1 (by omega) (by omega) hk

end Go.Proofs.Ytjdlcokhlphmhaa

/-
  Differences, comparing, products of sizes.
-/
namespace Go.Proofs.Ytjdlcokhlphmhaa
open Go.Sim

theorem bv_of (X : BitVec 32) : BitVec.ofInt IntKind.u32.bits (X.toNat : Int) = X := by
  show BitVec.ofInt 32 (X.toNat : Int) = X
  rw [BitVec.ofInt_natCast, BitVec.ofNat_toNat, BitVec.setWidth_eq]

theorem bv_lt (X : BitVec 32) : X.toNat < 4294967296 := X.isLt

theorem and32 (X Y : BitVec 32) : iBin .and (.int .u32 (X.toNat : Int)) (.int .u32 (Y.toNat : Int)) = some (.int .u32 ((X &&& Y).toNat : Int)) := by
  have h := bv_lt (X &&& Y)
  have e : (BitVec.ofInt IntKind.u32.bits (X.toNat : Int) &&& BitVec.ofInt IntKind.u32.bits (Y.toNat : Int)).toNat = (X &&& Y).toNat := by rw [bv_of, bv_of]; rfl
  simp only [iBin, iInt, if_true]
  rw [e, wrapU32 (by omega) (by omega)]

theorem or32 (X Y : BitVec 32) : iBin .or (.int .u32 (X.toNat : Int)) (.int .u32 (Y.toNat : Int)) = some (.int .u32 ((X ||| Y).toNat : Int)) := by
  have h := bv_lt (X ||| Y)
  have e : (BitVec.ofInt IntKind.u32.bits (X.toNat : Int) ||| BitVec.ofInt IntKind.u32.bits (Y.toNat : Int)).toNat = (X ||| Y).toNat := by rw [bv_of, bv_of]; rfl
  simp only [iBin, iInt, if_true]
  rw [e, wrapU32 (by omega) (by omega)]

theorem xor32 (X Y : BitVec 32) : iBin .xor (.int .u32 (X.toNat : Int)) (.int .u32 (Y.toNat : Int)) = some (.int .u32 ((X ^^^ Y).toNat : Int)) := by
  have h := bv_lt (X ^^^ Y)
  have e : (BitVec.ofInt IntKind.u32.bits (X.toNat : Int) ^^^ BitVec.ofInt IntKind.u32.bits (Y.toNat : Int)).toNat = (X ^^^ Y).toNat := by rw [bv_of, bv_of]; rfl
  simp only [iBin, iInt, if_true]
  rw [e, wrapU32 (by omega) (by omega)]

theorem not32 (X : BitVec 32) : iUn .xor (.int .u32 (X.toNat : Int)) = some (.int .u32 ((~~~X).toNat : Int)) := by
  have h := bv_lt (~~~X)
  have e : (BitVec.ofInt IntKind.u32.bits (if IntKind.u32.signed = true then -1 else IntKind.u32.max) ^^^ BitVec.ofInt IntKind.u32.bits (X.toNat : Int)).toNat = (~~~X).toNat := by
    rw [bv_of]
    show (BitVec.ofInt 32 4294967295 ^^^ X).toNat = _
    rw [show BitVec.ofInt 32 4294967295 = BitVec.allOnes 32 from by decide, BitVec.allOnes_xor]
  simp only [iUn]
  rw [e, wrapU32 (by omega) (by omega)]

theorem top32 (Z : BitVec 32) : iBin .shr (.int .u32 (Z.toNat : Int)) (.int .u64 31) = some (.int .u32 ((if Z.msb then 1 else 0 : Nat) : Int)) := by
  have h := bv_lt Z
  simp only [iBin, iShift]
  rw [if_neg (by omega)]
  have : (min (31 : Int).toNat IntKind.u32.bits) = 31 := rfl
  rw [this]
  have e2 : (2 : Int) ^ 31 = 2147483648 := by decide
  rw [e2, Int.fdiv_eq_ediv_of_nonneg _ (by omega), BitVec.msb_eq_decide]
  congr 2
  by_cases hz : 2 ^ 31 ≤ Z.toNat
  · simp [hz]; omega
  · simp [hz]; omega

theorem C110 {x y b : Nat} {h : Heap} {K : Value → Heap → Prop} (hx : x < 4294967296) (hy : y < 4294967296) (hb : b ≤ 1) (hk : K (.tuple #[.int .u32 (((x + 4294967296 + 4294967296 - y - b) % 4294967296 : Nat) : Int), .int .u32 ((if x < y + b then 1 else 0 : Nat) : Int)]) h) :
    CallP Try.prog 110 [.int .u32 (x : Int), .int .u32 (y : Int), .int .u32 (b : Int)] h K := by
  refine f110 ?_
  obtain ⟨X, rfl⟩ : ∃ X : BitVec 32, x = X.toNat := ⟨BitVec.ofNat 32 x, by rw [BitVec.toNat_ofNat]; exact (Nat.mod_eq_of_lt hx).symm⟩
  obtain ⟨Y, rfl⟩ : ∃ Y : BitVec 32, y = Y.toNat := ⟨BitVec.ofNat 32 y, by rw [BitVec.toNat_ofNat]; exact (Nat.mod_eq_of_lt hy).symm⟩
  obtain ⟨D, hD⟩ : ∃ D : BitVec 32, D.toNat = (X.toNat + 4294967296 + 4294967296 - Y.toNat - b) % 4294967296 := ⟨BitVec.ofNat 32 _, by rw [BitVec.toNat_ofNat]⟩
  have e1 : IntKind.wrap .u32 (IntKind.wrap .u32 ((X.toNat : Int) - (Y.toNat : Int)) - (b : Int)) = (D.toNat : Int) := by
    rw [wrapU32e, wrapU32e, hD]; omega
  simp only [T110, bin_sub, OP_some, e1, not32, and32, xor32, or32, top32]
  rw [← hD] at hk
  have e2 : (if (~~~X &&& Y ||| ~~~(X ^^^ Y) &&& D).msb then 1 else 0 : Nat) = if X.toNat < Y.toNat + b then 1 else 0 := by
    rw [BitVec.msb_or, BitVec.msb_and, BitVec.msb_and, BitVec.msb_not, BitVec.msb_not, BitVec.msb_xor, BitVec.msb_eq_decide X, BitVec.msb_eq_decide Y, BitVec.msb_eq_decide D]
    by_cases c1 : 2 ^ (32 - 1) ≤ X.toNat <;> by_cases c2 : 2 ^ (32 - 1) ≤ Y.toNat <;> by_cases c3 : 2 ^ (32 - 1) ≤ D.toNat <;> simp [c1, c2, c3] <;> omega
  rw [e2]
  exact hk

theorem C90 {va vb : Value} {a b : Nat} {h : Heap} {K : Value → Heap → Prop} (ha : MagV h va a) (hb : MagV h vb b) (la : a < bigW) (hab : b ≤ a) (hk : ∀ v h', EX h h' → MagV h' v (a - b) → K v h') : CallP Try.prog 90 [va, vb] h K := by
  obtain ⟨xs, hx, cx, rfl⟩ := ha
  obtain ⟨ys, hy, cy, rfl⟩ := hb
  have l1 := canW_len cx la
  have l2 := canW_len cy (Nat.lt_of_le_of_lt hab la)
  have hle : ys.length ≤ xs.length := by
    apply Classical.byContradiction
    intro hc
    have := Canon.lt_of_len (by decide) cx cy (by omega)
    omega
  refine f90 ?_
  simp only [T90, hx.len, OP_some, make_hd (show xs.length ≤ 1000 by omega), OH_some]
  have hW : (0 : Nat) < 4294967296 := by decide
  refine loopL (σ := Nat × Nat × List Nat) (fun p => [.int .u32 (p.1 : Int), I p.2.1]) (fun p => hd h p.2.2)
    (fun p => p.2.1 ≤ xs.length ∧ p.1 ≤ 1 ∧ p.2.2.length = xs.length ∧ Lim 4294967296 p.2.2 ∧ (∀ j (hj : j < p.2.2.length), p.2.1 ≤ j → p.2.2[j] = 0) ∧ val 4294967296 p.2.2 + val 4294967296 (ys.take p.2.1) = val 4294967296 (xs.take p.2.1) + 4294967296 ^ p.2.1 * p.1) (fun p => xs.length - p.2.1)
    (0, 0, List.replicate xs.length 0) rfl rfl ⟨by simp, by simp, by simp, Lim.zeros hW _, by simp, by simp [val_zeros, val]⟩ ?_
  rintro ⟨c, i, os⟩ ⟨hi, hc, hol, hlim, hz, hval⟩ L hL
  simp only at hi hc hol hlim hz hval hL ⊢
  rw [q90z7]
  have hx' := hx.mono (hd_EX h os)
  have hy' := hy.mono (hd_EX h os)
  simp only [bin_lss, OP_some, IfP_dec]
  refine ⟨fun hlt => ?_, fun hge => ?_⟩
  · have hil : i < xs.length := by omega
    obtain ⟨ia, a1, a2⟩ := hx'.get hil
    have hxl : xs[i] < 4294967296 := cx.1 _ (List.getElem_mem hil)
    have go : ∀ y : Nat, y < 4294967296 → val 4294967296 (ys.take (i + 1)) = val 4294967296 (ys.take i) + 4294967296 ^ i * y → p90z16 Try.prog K va vb (sl 143 h.length 0 xs.length) (.int .u32 (c : Int)) (I i) (.int .u32 (y : Int)) (I xs.length) (I i) L (hd h os) := by
      intro y hyl hyv
      rw [q90z16]
      simp only [a1, OP_some, a2]
      refine C110 hxl hyl hc ?_
      simp only [ext_tuple, pair0, pair1, OP_some, adr_sl hil]
      rw [hd_store _ (by omega)]
      simp only [OH_some, q90z17, bin_add, OP_some, inc i (by omega), true_and]
      have hmod : (xs[i] + 4294967296 + 4294967296 - y - c) % 4294967296 < 4294967296 := Nat.mod_lt _ hW
      have hb1 : (if xs[i] < y + c then 1 else 0) ≤ 1 := by split <;> omega
      have hs : (xs[i] + 4294967296 + 4294967296 - y - c) % 4294967296 + y + c = xs[i] + 4294967296 * (if xs[i] < y + c then 1 else 0) := by
        split <;> omega
      refine hL ((if xs[i] < y + c then 1 else 0), i + 1, os.set i ((xs[i] + 4294967296 + 4294967296 - y - c) % 4294967296)) ⟨by show i + 1 ≤ xs.length; omega, hb1, by show (os.set i _).length = _; rw [List.length_set]; exact hol, hlim.set hmod i, ?_, ?_⟩ (by show xs.length - (i + 1) < xs.length - i; omega)
      · intro j hj hij
        show (os.set i _)[j] = 0
        have hij' : i ≠ j := by have : i + 1 ≤ j := hij; omega
        rw [List.getElem_set_ne hij']
        exact hz j (by simpa using hj) (by have : i + 1 ≤ j := hij; omega)
      · show val 4294967296 (os.set i _) + val 4294967296 (ys.take (i + 1)) = val 4294967296 (xs.take (i + 1)) + 4294967296 ^ (i + 1) * _
        have h1 := val_set 4294967296 os i ((xs[i] + 4294967296 + 4294967296 - y - c) % 4294967296) (by omega)
        rw [hz i (by omega) (Nat.le_refl _)] at h1
        rw [val_take_succ 4294967296 xs hil, hyv, Nat.pow_succ]
        generalize (xs[i] + 4294967296 + 4294967296 - y - c) % 4294967296 = m at *
        generalize (if xs[i] < y + c then 1 else 0) = q at *
        generalize 4294967296 ^ i = P at *
        generalize (4294967296 : Nat) = w at *
        grind
    simp only [hy'.len, OP_some, bin_lss, IfP_dec]
    refine ⟨fun hly => ?_, fun hgy => ?_⟩
    · have hiy : i < ys.length := by omega
      obtain ⟨ib, b1, b2⟩ := hy'.get hiy
      simp only [b1, OP_some, b2]
      exact go _ (cy.1 _ (List.getElem_mem hiy)) (val_take_succ 4294967296 ys hiy)
    · have := go 0 (by decide) (by rw [List.take_of_length_le (by omega), List.take_of_length_le (by omega)]; simp)
      simpa using this
  · have : i = xs.length := by omega
    subst this
    rw [q90z18]
    rw [List.take_length, List.take_of_length_le hle] at hval
    have hlt := val_lt hlim
    rw [hol] at hlt
    have hc0 : c = 0 := by
      apply Classical.byContradiction
      intro hne
      have : c = 1 := by omega
      subst this
      omega
    subst hc0
    have hv : val 4294967296 os = val 4294967296 xs - val 4294967296 ys := by omega
    have e : sl 143 h.length 0 xs.length = sl 143 h.length 0 os.length := by rw [hol]
    rw [e]
    refine C87 (hd_DS h _) hlim (by omega) ?_
    intro v' hm
    rw [hv] at hm
    exact hk v' _ (hd_EX h _) hm

def sgn (a b : Nat) : Int := if a < b then -1 else if b < a then 1 else 0

/-- The greater one by its first digit from above. -/
theorem val_lt_of_top {B : Nat} {xs ys : List Nat} (lx : Lim B xs) (ly : Lim B ys) (hl : xs.length = ys.length) {i : Nat} (hi : i < xs.length) (hd : xs.drop (i + 1) = ys.drop (i + 1)) (h : xs[i] < ys[i]'(by omega)) : val B xs < val B ys := by
  have e1 : xs = xs.take i ++ xs[i] :: xs.drop (i + 1) := by rw [← List.drop_eq_getElem_cons hi, List.take_append_drop]
  have e2 : ys = ys.take i ++ ys[i]'(by omega) :: ys.drop (i + 1) := by rw [← List.drop_eq_getElem_cons (by omega), List.take_append_drop]
  have v1 : val B xs = val B (xs.take i) + B ^ i * (xs[i] + B * val B (xs.drop (i + 1))) := by
    conv => lhs; rw [e1]
    rw [val_append, List.length_take, Nat.min_eq_left (by omega)]; rfl
  have v2 : val B ys = val B (ys.take i) + B ^ i * (ys[i]'(by omega) + B * val B (ys.drop (i + 1))) := by
    conv => lhs; rw [e2]
    rw [val_append, List.length_take, Nat.min_eq_left (by omega)]; rfl
  rw [v1, v2, hd]
  have h1 := val_lt (lx.mono (ys := xs.take i) fun y hy => List.mem_of_mem_take hy)
  rw [List.length_take, Nat.min_eq_left (by omega)] at h1
  have h2 : B ^ i * (xs[i] + 1 + B * val B (ys.drop (i + 1))) ≤ B ^ i * (ys[i]'(by omega) + B * val B (ys.drop (i + 1))) := Nat.mul_le_mul_left _ (by omega)
  generalize B ^ i = P at *
  generalize B * val B (ys.drop (i + 1)) = Q at *
  generalize val B (xs.take i) = u at *
  generalize val B (ys.take i) = v at *
  have h3 : P * (xs[i] + 1 + Q) = P * (xs[i] + Q) + P := by grind
  omega

theorem C89 {va vb : Value} {a b : Nat} {h : Heap} {K : Value → Heap → Prop} (ha : MagV h va a) (hb : MagV h vb b) (la : a < bigW) (lb : b < bigW) (hk : K (I (sgn a b)) h) : CallP Try.prog 89 [va, vb] h K := by
  obtain ⟨xs, hx, cx, rfl⟩ := ha
  obtain ⟨ys, hy, cy, rfl⟩ := hb
  have l1 := canW_len cx la
  have l2 := canW_len cy lb
  have less : val 4294967296 xs < val 4294967296 ys → K (.int .i64 (-1)) h := fun h1 => by unfold sgn at hk; rw [if_pos h1] at hk; exact hk
  have more : val 4294967296 ys < val 4294967296 xs → K (.int .i64 1) h := fun h1 => by unfold sgn at hk; rw [if_neg (by omega), if_pos h1] at hk; exact hk
  have same : val 4294967296 xs = val 4294967296 ys → K (.int .i64 0) h := fun h1 => by unfold sgn at hk; rw [if_neg (by omega), if_neg (by omega)] at hk; exact hk
  refine f89 ?_
  simp only [T89, hx.len, hy.len, OP_some, bin_neq, IfP_ndec, bin_lss, IfP_dec]
  refine ⟨fun hne => ⟨fun hlt => less (Canon.lt_of_len (by decide) cx cy (by omega)), fun hge => more (Canon.lt_of_len (by decide) cy cx (by omega))⟩, fun he => ?_⟩
  have he' : xs.length = ys.length := by omega
  simp only [bin_sub, OP_some]
  have e1 : IntKind.wrap .i64 ((xs.length : Int) - 1) = (xs.length : Int) - 1 := by rw [wrap64 (by omega) (by omega)]
  rw [e1]
  refine loopL (σ := Nat) (fun i => [I ((i : Int) - 1)]) (fun _ => h) (fun i => i ≤ xs.length ∧ xs.drop i = ys.drop i) (fun i => i) xs.length rfl rfl ⟨Nat.le_refl _, by rw [List.drop_length, he', List.drop_length]⟩ ?_
  rintro i ⟨hi, hdr⟩ L hL
  rw [q89z11]
  simp only [bin_geq, OP_some, IfP_dec]
  refine ⟨fun hge => ?_, fun hlt => ?_⟩
  · obtain ⟨j, rfl⟩ : ∃ j, i = j + 1 := ⟨i - 1, by omega⟩
    have ej : (((j + 1 : Nat) : Int) - 1) = (j : Int) := by omega
    rw [ej]
    obtain ⟨ia, a1, a2⟩ := hx.get (j := j) (by omega)
    obtain ⟨ib, b1, b2⟩ := hy.get (j := j) (by omega)
    simp only [a1, a2, b1, b2, OP_some, true_and, bin_neq, IfP_ndec, bin_lss, IfP_dec]
    refine ⟨fun hne => ⟨fun hlt => less (val_lt_of_top cx.1 cy.1 he' (i := j) (by omega) hdr (by omega)), fun hge => more (val_lt_of_top cy.1 cx.1 he'.symm (i := j) (by omega) hdr.symm (by omega))⟩, fun heq => ?_⟩
    simp only [bin_sub, OP_some]
    rw [wrap64 (by omega) (by omega)]
    refine hL j ⟨by omega, ?_⟩ (by omega)
    rw [List.drop_eq_getElem_cons (by omega), List.drop_eq_getElem_cons (show j < ys.length by omega), hdr]
    congr 1
    omega
  · have : i = 0 := by omega
    subst this
    rw [List.drop_zero, List.drop_zero] at hdr
    exact same (by rw [hdr])

end Go.Proofs.Ytjdlcokhlphmhaa

/-
  Integers of any size, as the program computes with them.
-/
namespace Go.Proofs.Ytjdlcokhlphmhaa
open Go.Sim

theorem mul_lt32 {x y : Nat} (hx : x < 4294967296) (hy : y < 4294967296) : x * y ≤ 18446744065119617025 := by
  have := Nat.mul_le_mul (show x ≤ 4294967295 by omega) (show y ≤ 4294967295 by omega)
  omega

theorem C91 {va vb : Value} {a b : Nat} {h : Heap} {K : Value → Heap → Prop} (ha : MagV h va a) (hb : MagV h vb b) (la : a < bigW) (lb : b < bigW) (hk : ∀ v h', EX h h' → MagV h' v (a * b) → K v h') : CallP Try.prog 91 [va, vb] h K := by
  obtain ⟨xs, hx, cx, rfl⟩ := ha
  obtain ⟨ys, hy, cy, rfl⟩ := hb
  have l1 := canW_len cx la
  have l2 := canW_len cy lb
  have hW : (0 : Nat) < 4294967296 := by decide
  refine f91 ?_
  have e0 : IntKind.wrap .i64 ((xs.length : Int) + (ys.length : Int)) = ((xs.length + ys.length : Nat) : Int) := by rw [wrap64 (by omega) (by omega)]; omega
  simp only [T91, hx.len, hy.len, OP_some, bin_add, e0, make_hd (show xs.length + ys.length ≤ 1000 by omega), OH_some]
  refine loopL (σ := Nat × List Nat) (fun p => [I p.1]) (fun p => hd h p.2)
    (fun p => p.1 ≤ xs.length ∧ p.2.length = xs.length + ys.length ∧ Lim 4294967296 p.2 ∧ (∀ j (hj : j < p.2.length), p.1 + ys.length ≤ j → p.2[j] = 0) ∧ val 4294967296 p.2 = val 4294967296 (xs.take p.1) * val 4294967296 ys) (fun p => xs.length - p.1)
    (0, List.replicate (xs.length + ys.length) 0) rfl rfl ⟨by simp, by simp, Lim.zeros hW _, by simp, by simp [val_zeros, val]⟩ ?_
  rintro ⟨i, os⟩ ⟨hi, hol, hlim, hz, hval⟩ L hL
  simp only at hi hol hlim hz hval hL ⊢
  rw [q91z6]
  have hx' := hx.mono (hd_EX h os)
  simp only [bin_lss, OP_some, IfP_dec]
  refine ⟨fun hlt => ?_, fun hge => ?_⟩
  · have hil : i < xs.length := by omega
    obtain ⟨ia, a1, a2⟩ := hx'.get hil
    have hxl : xs[i] < 4294967296 := cx.1 _ (List.getElem_mem hil)
    simp only [a1, OP_some, a2, (hy.mono (hd_EX h os)).len]
    have hvt := val_take_succ 4294967296 xs hil
    generalize xs[i] = x at hxl hvt
    refine loopL (σ := Nat × Nat × List Nat) (fun p => [.int .u64 (p.1 : Int), I p.2.1]) (fun p => hd h p.2.2)
      (fun p => p.2.1 ≤ ys.length ∧ p.1 < 4294967296 ∧ p.2.2.length = xs.length + ys.length ∧ Lim 4294967296 p.2.2 ∧ (∀ j (hj : j < p.2.2.length), i + ys.length ≤ j → p.2.2[j] = 0) ∧ val 4294967296 p.2.2 + 4294967296 ^ (i + p.2.1) * p.1 = val 4294967296 os + 4294967296 ^ i * (x * val 4294967296 (ys.take p.2.1))) (fun p => ys.length - p.2.1)
      (0, 0, os) rfl rfl ⟨by simp, hW, hol, hlim, hz, by simp [val]⟩ ?_
    rintro ⟨c, j, ps⟩ ⟨hj, hc, hpl, hplim, hpz, hpval⟩ L2 hL2
    simp only at hj hc hpl hplim hpz hpval hL2 ⊢
    rw [q91z16]
    have hy' := hy.mono (hd_EX h ps)
    simp only [bin_lss, OP_some, IfP_dec]
    refine ⟨fun hlt2 => ?_, fun hge2 => ?_⟩
    · have hjl : j < ys.length := by omega
      obtain ⟨ib, b1, b2⟩ := hy'.get hjl
      have hyl : ys[j] < 4294967296 := cy.1 _ (List.getElem_mem hjl)
      have hyt := val_take_succ 4294967296 ys hjl
      generalize ys[j] = y at b2 hyl hyt
      have hpk : i + j < ps.length := by omega
      have hol2 : ps[i + j] < 4294967296 := hplim _ (List.getElem_mem hpk)
      have hxy := mul_lt32 hxl hyl
      have hset := val_set 4294967296 ps (i + j) ((x * y + ps[i + j] + c) % 4294967296) hpk
      have ei : IntKind.wrap .i64 ((i : Int) + (j : Int)) = ((i + j : Nat) : Int) := by rw [wrap64 (by omega) (by omega)]; omega
      have cst : ((x : Int) * (y : Int)) = ((x * y : Nat) : Int) := by simp
      simp only [b1, OP_some, b2, conv_int]
      rw [wrapU64 (n := (x : Int)) (by omega) (by omega), wrapU64 (n := (y : Int)) (by omega) (by omega)]
      simp only [bin_mul, OP_some, cst, bin_add, ei]
      rw [wrapU64 (n := ((x * y : Nat) : Int)) (by omega) (by omega)]
      rw [adr_sl (show i + j < xs.length + ys.length by omega)]
      simp only [OP_some, hd_load hpk, conv_int]
      rw [wrapU64 (n := (ps[i + j] : Int)) (by omega) (by omega)]
      have e1 : IntKind.wrap .u64 (((x * y : Nat) : Int) + (ps[i + j] : Int)) = ((x * y + ps[i + j] : Nat) : Int) := by rw [wrapU64 (by omega) (by omega)]; omega
      have e2 : IntKind.wrap .u64 (((x * y + ps[i + j] : Nat) : Int) + (c : Int)) = ((x * y + ps[i + j] + c : Nat) : Int) := by rw [wrapU64 (by omega) (by omega)]; omega
      have e3 : IntKind.wrap .u32 ((x * y + ps[i + j] + c : Nat) : Int) = (((x * y + ps[i + j] + c) % 4294967296 : Nat) : Int) := by rw [wrapU32e]; omega
      simp only [bin_add, OP_some, e1, e2, conv_int, e3, shr32]
      rw [hd_store _ hpk]
      simp only [OH_some, bin_add, OP_some, inc j (by omega), true_and]
      have hmod : (x * y + ps[i + j] + c) % 4294967296 < 4294967296 := Nat.mod_lt _ hW
      have hdm := Nat.mod_add_div (x * y + ps[i + j] + c) 4294967296
      have hdiv : (x * y + ps[i + j] + c) / 4294967296 < 4294967296 := by omega
      refine hL2 ((x * y + ps[i + j] + c) / 4294967296, j + 1, ps.set (i + j) ((x * y + ps[i + j] + c) % 4294967296)) ⟨by show j + 1 ≤ ys.length; omega, hdiv, by show (ps.set _ _).length = _; rw [List.length_set]; exact hpl, hplim.set hmod _, ?_, ?_⟩ (by show ys.length - (j + 1) < ys.length - j; omega)
      · intro k hk2 hik
        show (ps.set (i + j) _)[k] = 0
        have hne : i + j ≠ k := by omega
        rw [List.getElem_set_ne hne]
        exact hpz k (by simpa using hk2) hik
      · show val 4294967296 (ps.set (i + j) _) + 4294967296 ^ (i + (j + 1)) * _ = val 4294967296 os + 4294967296 ^ i * (x * val 4294967296 (ys.take (j + 1)))
        rw [hyt, ← Nat.add_assoc, Nat.pow_succ]
        rw [Nat.pow_add] at hset hpval ⊢
        generalize ps[i + j] = o at *
        generalize (x * y + o + c) % 4294967296 = m at *
        generalize (x * y + o + c) / 4294967296 = q at *
        generalize val 4294967296 (ys.take j) = v at *
        generalize val 4294967296 (ps.set (i + j) m) = s1 at *
        generalize val 4294967296 ps = s0 at *
        generalize val 4294967296 os = s2 at *
        generalize 4294967296 ^ i = P at *
        generalize 4294967296 ^ j = Q at *
        generalize (4294967296 : Nat) = w at *
        clear hL2 hL hx hy hx' hy' b1 b2
        have h1 : P * Q * (m + w * q) = P * Q * (x * y + o + c) := by rw [hdm]
        grind
    · have : j = ys.length := by omega
      subst this
      rw [q91z23]
      have ei : IntKind.wrap .i64 ((i : Int) + (ys.length : Int)) = ((i + ys.length : Nat) : Int) := by rw [wrap64 (by omega) (by omega)]; omega
      simp only [hy'.len, OP_some, bin_add, ei, conv_int]
      rw [wrapU32 (n := (c : Int)) (by omega) (by omega), adr_sl (show i + ys.length < xs.length + ys.length by omega)]
      simp only [OP_some]
      have hpk : i + ys.length < ps.length := by omega
      rw [hd_store _ hpk]
      simp only [OH_some, q91z24, bin_add, OP_some, inc i (by omega), true_and]
      have hset := val_set 4294967296 ps (i + ys.length) c hpk
      rw [hpz _ hpk (Nat.le_refl _)] at hset
      rw [List.take_length] at hpval
      refine hL (i + 1, ps.set (i + ys.length) c) ⟨by show i + 1 ≤ xs.length; omega, by show (ps.set _ _).length = _; rw [List.length_set]; exact hpl, hplim.set hc _, ?_, ?_⟩ (by show xs.length - (i + 1) < xs.length - i; omega)
      · intro k hk2 hik
        show (ps.set (i + ys.length) _)[k] = 0
        have hik' : i + 1 + ys.length ≤ k := hik
        have hne : i + ys.length ≠ k := by omega
        rw [List.getElem_set_ne hne]
        exact hpz k (by simpa using hk2) (by omega)
      · show val 4294967296 (ps.set (i + ys.length) c) = val 4294967296 (xs.take (i + 1)) * val 4294967296 ys
        rw [hvt, Nat.add_mul, ← hval, Nat.mul_assoc, ← hpval]
        omega
  · have : i = xs.length := by omega
    subst this
    rw [q91z25]
    rw [List.take_length] at hval
    have e : sl 143 h.length 0 (xs.length + ys.length) = sl 143 h.length 0 os.length := by rw [hol]
    rw [e]
    refine C87 (hd_DS h _) hlim (by omega) ?_
    intro v' hm
    rw [hval] at hm
    exact hk v' _ (hd_EX h _) hm

/-! ### With a sign -/

/-- An integer: whether it is below 0, and its size. -/
def IntV (h : Heap) (val : Value) (z : Int) : Prop := ∃ v, val = .agg #[B (decide (z < 0)), v] ∧ MagV h v z.natAbs

theorem IntV.mono {h h' : Heap} {v : Value} {z : Int} (x : EX h h') (p : IntV h v z) : IntV h' v z := let ⟨w, a, b⟩ := p; ⟨w, a, b.mono x⟩

theorem MagV.len0 {h : Heap} {v : Value} {n : Nat} (p : MagV h v n) : ∃ l : Nat, iLenSl v = some (I l) ∧ (0 < l ↔ 0 < n) := by
  obtain ⟨xs, d, c, rfl⟩ := p
  refine ⟨xs.length, d.len, ?_⟩
  constructor
  · intro h0
    have := Canon.low (by decide) c (by rintro rfl; simp at h0)
    have : 0 < 4294967296 ^ (xs.length - 1) := Nat.pow_pos (by decide)
    omega
  · intro h0
    cases xs with
    | nil => simp [val] at h0
    | cons x xs => simp

/-- Nothing of a number is lost if an object that begins with a truth value is written. -/
theorem MagV.setB {h : Heap} {v : Value} {n j : Nat} {e : TypeId} {b : Bool} {r : List Value} (p : MagV h v n) (hj : h[j]? = some (.arr e (.bool b :: r))) (o : IObj) : MagV (h.set j o) v n := by
  obtain ⟨xs, d, c, hv⟩ := p
  refine ⟨xs, ?_, c, hv⟩
  rcases d with d | ⟨i, h1, h2⟩
  · exact .inl d
  · refine .inr ⟨i, h1, ?_⟩
    rcases h2 with h2 | ⟨rest, h2⟩
    · exact .inl h2
    · cases xs with
      | nil => exact .inl rfl
      | cons x xs =>
        right
        refine ⟨rest, ?_⟩
        have hne : j ≠ i := by
          rintro rfl
          unfold objCells at h2
          rw [hj] at h2
          simp at h2
        unfold objCells at h2 ⊢
        rw [List.getElem?_set_ne hne]
        exact h2

theorem IntV.setB {h : Heap} {v : Value} {z : Int} {j : Nat} {e : TypeId} {b : Bool} {r : List Value} (p : IntV h v z) (hj : h[j]? = some (.arr e (.bool b :: r))) (o : IObj) : IntV (h.set j o) v z :=
  let ⟨w, a, q⟩ := p; ⟨w, a, q.setB hj o⟩

theorem store2 {h : Heap} {i : Nat} {e : TypeId} {a b x y : Value} (hg : h[i]? = some (.arr e [a, b])) : oStore 2 h (pt i 0) (.agg #[x, y]) = some (undef, h.set i (.arr e [x, y])) := by
  simp [oStore, iStore, hg, noTuple, vcells, Value.cells, setAt]

theorem load2 {h : Heap} {i : Nat} {e : TypeId} {a b : Value} (hg : h[i]? = some (.arr e [a, b])) : iLoad true 2 h (pt i 0) = some (.agg #[a, b]) := by
  simp [iLoad, objCells, hg, iPart]

theorem set_get {h : Heap} {i : Nat} {o o' : IObj} (hg : h[i]? = some o') : (h.set i o)[i]? = some o := by
  rw [List.getElem?_set_self (List.getElem?_eq_some_iff.1 hg).1]

theorem C86 {v : Value} {n : Nat} {b : Bool} {h : Heap} {K : Value → Heap → Prop} (hm : MagV h v n) (hk : ∀ h', EX h h' → K (.agg #[B (b && decide (0 < n)), v]) h') : CallP Try.prog 86 [B b, v] h K := by
  refine f86 ?_
  have al : iAlloc 104 [(.bool false), (.slice none 0 0)] h = some (pt h.length 0, h ++ [.arr 104 [(.bool false), (.slice none 0 0)]]) := rfl
  simp only [T86, al, OH_some]
  obtain ⟨l, h1, h2⟩ := hm.len0
  have hg : (h ++ [IObj.arr 104 [(.bool false), (.slice none 0 0)]])[h.length]? = some (.arr 104 [(.bool false), (.slice none 0 0)]) := get_last
  have hx : EX h (h ++ [IObj.arr 104 [(.bool false), (.slice none 0 0)]]) := EX.append _ _
  have fin : p86z6 Try.prog K v (pt h.length 0) (B b) (B (decide (0 < l))) (h ++ [IObj.arr 104 [(.bool false), (.slice none 0 0)]]) ∧ (b = false → p86z6 Try.prog K v (pt h.length 0) (B b) undef (h ++ [IObj.arr 104 [(.bool false), (.slice none 0 0)]])) := by
    have one : ∀ c : Bool, c = (b && decide (0 < n)) → OP (iBuild [(.bool false), (.slice none 0 0)] [(0, 1, B c), (1, 1, v)]) fun x12 => OH (oStore 2 (h ++ [IObj.arr 104 [(.bool false), (.slice none 0 0)]]) (pt h.length 0) x12) fun _ h_1 => OP (iLoad true 2 h_1 (pt h.length 0)) fun r0 => K r0 h_1 := by
      rintro c rfl
      have eb : iBuild [(.bool false), (.slice none 0 0)] [(0, 1, B (b && decide (0 < n))), (1, 1, v)] = some (.agg #[B (b && decide (0 < n)), v]) := by
        obtain ⟨xs, d, _, _⟩ := hm
        rcases d with ⟨rfl, _⟩ | ⟨i, rfl, _⟩ <;> rfl
      simp only [eb, OP_some]
      rw [store2 hg]
      simp only [OH_some]
      rw [load2 (set_get hg)]
      simp only [OP_some]
      exact hk _ (hx.set (Nat.le_refl _) _)
    constructor
    · rw [q86z6]
      cases b with
      | true => simp only [iPick_t, OP_some]; exact one _ (by simp [h2])
      | false => simp only [iPick_f, OP_some]; exact one _ (by simp)
    · rintro rfl
      rw [q86z6]
      simp only [iPick_f, OP_some]
      exact one _ (by simp)
  rw [q86z4]
  have e0 : decide ((0 : Int) < (l : Int)) = decide (0 < l) := by
    by_cases h0 : 0 < l
    · simp [h0]
    · simp [h0]
  cases b with
  | true =>
    simp only [GdP_tt, h1, OP_some, bin_gtr, e0]
    exact fin.1
  | false =>
    simp only [GdP_ft]
    exact fin.2 rfl

end Go.Proofs.Ytjdlcokhlphmhaa

/-
  Sums, differences, products, and integers out of small numbers.
-/
namespace Go.Proofs.Ytjdlcokhlphmhaa
open Go.Sim

theorem fin2 {h' : Heap} {j : Nat} {b0 v0 b v : Value} {K : Value → Heap → Prop} (hg : h'[j]? = some (.arr 104 [b0, v0])) (hk : K (.agg #[b, v]) (h'.set j (.arr 104 [b, v]))) :
    OH (oStore 2 h' (pt j 0) (.agg #[b, v])) fun _ h6 => OP (iLoad true 2 h6 (pt j 0)) fun r0 => K r0 h6 := by
  rw [store2 hg]
  simp only [OH_some]
  rw [load2 (set_get hg)]
  exact OP_some.2 hk

/-- Two integers boxed, and a place for the result. -/
structure Box2 (h : Heap) (va vb : Value) (sa sb : Bool) (h3 : Heap) : Prop where
  ex : EX h h3
  a0 : iLoad false 1 h3 (pt h.length 0) = some (B sa)
  a1 : iLoad false 1 h3 (pt h.length 1) = some va
  b0 : iLoad false 1 h3 (pt (h.length + 1) 0) = some (B sb)
  b1 : iLoad false 1 h3 (pt (h.length + 1) 1) = some vb
  a2 : iLoad true 2 h3 (pt h.length 0) = some (.agg #[B sa, va])
  b2 : iLoad true 2 h3 (pt (h.length + 1) 0) = some (.agg #[B sb, vb])
  out : h3[h.length + 2]? = some (.arr 104 [.bool false, .slice none 0 0])

theorem box2 {h : Heap} {va vb : Value} {sa sb : Bool} {K : Value → Value → Value → Heap → Prop} (hk : ∀ h3, Box2 h va vb sa sb h3 → K (pt h.length 0) (pt (h.length + 1) 0) (pt (h.length + 2) 0) h3) :
    OH (iBox 104 h (.agg #[B sa, va])) fun a2 h_1 => OH (iBox 104 h_1 (.agg #[B sb, vb])) fun b3 h_2 => OH (iAlloc 104 [(.bool false), (.slice none 0 0)] h_2) fun x4 h_3 => K a2 b3 x4 h_3 := by
  have e1 : ∀ (g : Heap) (s : Bool) (v : Value), iBox 104 g (.agg #[B s, v]) = some (pt g.length 0, g ++ [.arr 104 [B s, v]]) := fun _ _ _ => rfl
  have e2 : ∀ (g : Heap), iAlloc 104 [(.bool false), (.slice none 0 0)] g = some (pt g.length 0, g ++ [.arr 104 [(.bool false), (.slice none 0 0)]]) := fun _ => rfl
  simp only [e1, e2, OH_some, List.length_append, List.length_cons, List.length_nil]
  have g0 : (h ++ [IObj.arr 104 [B sa, va]] ++ [IObj.arr 104 [B sb, vb]] ++ [IObj.arr 104 [(.bool false), (.slice none 0 0)]])[h.length]? = some (.arr 104 [B sa, va]) := by simp
  have g1 : (h ++ [IObj.arr 104 [B sa, va]] ++ [IObj.arr 104 [B sb, vb]] ++ [IObj.arr 104 [(.bool false), (.slice none 0 0)]])[h.length + 1]? = some (.arr 104 [B sb, vb]) := by simp
  have g2 : (h ++ [IObj.arr 104 [B sa, va]] ++ [IObj.arr 104 [B sb, vb]] ++ [IObj.arr 104 [(.bool false), (.slice none 0 0)]])[h.length + 2]? = some (.arr 104 [(.bool false), (.slice none 0 0)]) := by simp
  refine hk _ ⟨((EX.append _ _).push _).push _, ?_, ?_, ?_, ?_, load2 g0, load2 g1, g2⟩
  · simp [iLoad, objCells, iPart]
  · simp [iLoad, objCells, iPart]
  · simp [iLoad, objCells, iPart]
  · simp [iLoad, objCells, iPart]

theorem C62 {n : Int} {h : Heap} {K : Value → Heap → Prop} (h1 : -9223372036854775808 ≤ n) (h2 : n < 9223372036854775808) (hk : ∀ r h', EX h h' → IntV h' r n → K r h') : CallP Try.prog 62 [I n] h K := by
  refine f62 ?_
  have e2 : iAlloc 104 [(.bool false), (.slice none 0 0)] h = some (pt h.length 0, h ++ [.arr 104 [(.bool false), (.slice none 0 0)]]) := rfl
  simp only [T62, e2, OH_some]
  have x1 : EX h (h ++ [IObj.arr 104 [(.bool false), (.slice none 0 0)]]) := EX.append _ _
  have g1 : (h ++ [IObj.arr 104 [(.bool false), (.slice none 0 0)]])[h.length]? = some (.arr 104 [(.bool false), (.slice none 0 0)]) := get_last
  generalize h ++ [IObj.arr 104 [(.bool false), (.slice none 0 0)]] = hA at x1 g1 ⊢
  have go : ∀ u : Nat, u = n.natAbs → p62z5 Try.prog K (I n) (pt h.length 0) (.int .u64 (u : Int)) hA := by
    intro u hu
    rw [q62z5]
    have ew : IntKind.wrap .u32 (u : Int) = ((u % 4294967296 : Nat) : Int) := by rw [wrapU32e]; omega
    simp only [bin_lss, OP_some, conv_int, shr32, ew]
    rw [wrapU32 (n := ((u / 4294967296 : Nat) : Int)) (by omega) (by omega)]
    have mk : iMkSl 143 2 [.int .u32 0] hA [(0, 1, .int .u32 ((u % 4294967296 : Nat) : Int)), (1, 1, .int .u32 ((u / 4294967296 : Nat) : Int))] = some (sl 143 hA.length 0 2, hd hA [u % 4294967296, u / 4294967296]) := rfl
    simp only [mk, OH_some]
    have hl : Lim 4294967296 [u % 4294967296, u / 4294967296] := by
      intro x hx
      simp at hx
      rcases hx with rfl | rfl <;> omega
    refine C87 (hd_DS hA [u % 4294967296, u / 4294967296]) hl (by simp) ?_
    intro v hv
    have hval : val 4294967296 [u % 4294967296, u / 4294967296] = n.natAbs := by simp [val]; omega
    rw [hval] at hv
    refine C86 hv ?_
    intro h' x'
    have xx := (hd_EX hA [u % 4294967296, u / 4294967296]).trans x'
    have g' := xx.get g1
    refine fin2 g' (hk _ _ ((x1.trans xx).set (Nat.le_refl _) _) ⟨v, ?_, (hv.mono x').setB g' _⟩)
    have : (decide (n < 0) && decide (0 < n.natAbs)) = decide (n < 0) := by
      by_cases hn : n < 0
      · simp [hn]; omega
      · simp [hn]
    rw [this]
  simp only [conv_int, OP_some, bin_lss, IfP_dec]
  refine ⟨fun hn => ?_, fun hn => ?_⟩
  · have e3 : iUn .neg (.int .u64 (IntKind.wrap .u64 n)) = some (.int .u64 ((n.natAbs : Nat) : Int)) := by
      have e : ∀ m : Int, IntKind.wrap .u64 m = m % 18446744073709551616 := fun m => by simp [IntKind.wrap, IntKind.bits, IntKind.signed]
      simp only [iUn]
      rw [e, e]
      congr 2
      omega
    simp only [e3, OP_some]
    exact go _ rfl
  · have : IntKind.wrap .u64 n = ((n.natAbs : Nat) : Int) := by rw [wrapU64 (by omega) (by omega)]; omega
    rw [this]
    exact go _ rfl

theorem C92 {va : Value} {a : Int} {h : Heap} {K : Value → Heap → Prop} (ha : IntV h va a) (hk : ∀ r h', EX h h' → IntV h' r (-a) → K r h') : CallP Try.prog 92 [va] h K := by
  obtain ⟨v, rfl, hv⟩ := ha
  refine f92 ?_
  have e1 : iBox 104 h (.agg #[B (decide (a < 0)), v]) = some (pt h.length 0, h ++ [.arr 104 [B (decide (a < 0)), v]]) := rfl
  simp only [T92, e1, OH_some]
  have l0 : iLoad false 1 (h ++ [.arr 104 [B (decide (a < 0)), v]]) (pt h.length 0) = some (B (decide (a < 0))) := load_last rfl
  have l1 : iLoad false 1 (h ++ [.arr 104 [B (decide (a < 0)), v]]) (pt h.length 1) = some v := load_last rfl
  have x1 : EX h (h ++ [.arr 104 [B (decide (a < 0)), v]]) := EX.append _ _
  generalize h ++ [IObj.arr 104 [B (decide (a < 0)), v]] = h1 at l0 l1 x1 ⊢
  have e2 : iAlloc 104 [(.bool false), (.slice none 0 0)] h1 = some (pt h1.length 0, h1 ++ [.arr 104 [(.bool false), (.slice none 0 0)]]) := rfl
  have x2 : EX h1 (h1 ++ [IObj.arr 104 [(.bool false), (.slice none 0 0)]]) := EX.append _ _
  have g1 : (h1 ++ [IObj.arr 104 [(.bool false), (.slice none 0 0)]])[h1.length]? = some (.arr 104 [(.bool false), (.slice none 0 0)]) := get_last
  simp only [e2, OH_some]
  generalize h1 ++ [IObj.arr 104 [(.bool false), (.slice none 0 0)]] = h2 at x2 g1 ⊢
  simp only [fadr_pt, Nat.add_zero, Nat.zero_add, OP_some, EX.load x2 l0, EX.load x2 l1, un_not]
  have hv2 := hv.mono (x1.trans x2)
  refine C86 hv2 ?_
  intro h' x'
  have g' := x'.get g1
  refine fin2 g' (hk _ _ (((x1.trans x2).trans x').set x1.1 _) ⟨v, ?_, ?_⟩)
  · have : (!decide (a < 0) && decide (0 < a.natAbs)) = decide (-a < 0) := by
      by_cases h0 : a < 0
      · rw [decide_eq_true h0, decide_eq_false (show ¬ -a < 0 by omega)]; rfl
      · by_cases h3 : a = 0
        · subst h3; rfl
        · rw [decide_eq_false h0, decide_eq_true (show 0 < a.natAbs by omega), decide_eq_true (show -a < 0 by omega)]; rfl
    rw [this]
  · have : (-a).natAbs = a.natAbs := by omega
    rw [this]
    exact (hv2.mono x').setB g' _

theorem C64 {va vb : Value} {a b : Int} {h : Heap} {K : Value → Heap → Prop} (ha : IntV h va a) (hb : IntV h vb b) (la : a.natAbs < bigW) (lb : b.natAbs < bigW) (hk : ∀ r h', EX h h' → IntV h' r (a + b) → K r h') : CallP Try.prog 64 [va, vb] h K := by
  obtain ⟨v, rfl, hv⟩ := ha
  obtain ⟨w, rfl, hw⟩ := hb
  refine f64 ?_
  unfold T64
  refine box2 ?_
  intro h3 x
  have hv3 := hv.mono x.ex
  have hw3 := hw.mono x.ex
  simp only [fadr_pt, Nat.add_zero, Nat.zero_add, OP_some, x.a0, x.a1, x.b0, x.b1, eqb_bool, Bool.false_eq_true, if_false]
  refine IfP_of (fun he => ?_) fun hne => ?_
  · have hs : decide (a < 0) = decide (b < 0) := by simpa using he
    have hs' : (a < 0 ↔ b < 0) := by simpa using hs
    simp only [true_and]
    refine C88 hv3 hw3 la lb ?_
    intro u h4 x4 hu
    refine ⟨⟨EX.load x4 x.a0, trivial⟩, ?_⟩
    refine C86 hu ?_
    intro h5 x5
    have g' := (x4.trans x5).get x.out
    refine fin2 g' (hk _ _ (((x.ex.trans x4).trans x5).set (by omega) _) ⟨u, ?_, ?_⟩)
    · have : (decide (a < 0) && decide (0 < a.natAbs + b.natAbs)) = decide (a + b < 0) := by
        by_cases h0 : a < 0
        · rw [decide_eq_true h0, decide_eq_true (show 0 < a.natAbs + b.natAbs by omega), decide_eq_true (show a + b < 0 by omega)]; rfl
        · rw [decide_eq_false h0, decide_eq_false (show ¬ a + b < 0 by omega)]; rfl
      rw [this]
    · have : (a + b).natAbs = a.natAbs + b.natAbs := by omega
      rw [this]
      exact (hu.mono x5).setB g' _
  · have hs : decide (a < 0) ≠ decide (b < 0) := by simpa using hne
    have hs' : ¬ (a < 0 ↔ b < 0) := fun h => hs (decide_eq_decide.2 h)
    refine C89 hv3 hw3 la lb ?_
    simp only [bin_geq, OP_some, IfP_dec]
    refine ⟨fun hge => ?_, fun hlt => ?_⟩
    · have hle : b.natAbs ≤ a.natAbs := by
        apply Classical.byContradiction
        intro hc
        unfold sgn at hge
        rw [if_pos (by omega)] at hge
        omega
      simp only [x.a0, x.a1, x.b1, OP_some, true_and]
      refine C90 hv3 hw3 la hle ?_
      intro u h4 x4 hu
      refine ⟨⟨EX.load x4 x.a0, trivial⟩, ?_⟩
      refine C86 hu ?_
      intro h5 x5
      have g' := (x4.trans x5).get x.out
      refine fin2 g' (hk _ _ (((x.ex.trans x4).trans x5).set (by omega) _) ⟨u, ?_, ?_⟩)
      · have : (decide (a < 0) && decide (0 < a.natAbs - b.natAbs)) = decide (a + b < 0) := by
          by_cases h0 : a < 0
          · by_cases h6 : 0 < a.natAbs - b.natAbs
            · rw [decide_eq_true h0, decide_eq_true h6, decide_eq_true (show a + b < 0 by omega)]; rfl
            · rw [decide_eq_true h0, decide_eq_false h6, decide_eq_false (show ¬ a + b < 0 by omega)]; rfl
          · rw [decide_eq_false h0, decide_eq_false (show ¬ a + b < 0 by omega)]; rfl
        rw [this]
      · have : (a + b).natAbs = a.natAbs - b.natAbs := by omega
        rw [this]
        exact (hu.mono x5).setB g' _
    · have hle : a.natAbs ≤ b.natAbs := by
        apply Classical.byContradiction
        intro hc
        unfold sgn at hlt
        rw [if_neg (by omega), if_pos (by omega)] at hlt
        omega
      simp only [x.b0, x.a1, x.b1, OP_some, true_and]
      refine C90 hw3 hv3 lb hle ?_
      intro u h4 x4 hu
      refine ⟨⟨EX.load x4 x.b0, trivial⟩, ?_⟩
      refine C86 hu ?_
      intro h5 x5
      have g' := (x4.trans x5).get x.out
      refine fin2 g' (hk _ _ (((x.ex.trans x4).trans x5).set (by omega) _) ⟨u, ?_, ?_⟩)
      · have : (decide (b < 0) && decide (0 < b.natAbs - a.natAbs)) = decide (a + b < 0) := by
          by_cases h0 : b < 0
          · by_cases h6 : 0 < b.natAbs - a.natAbs
            · rw [decide_eq_true h0, decide_eq_true h6, decide_eq_true (show a + b < 0 by omega)]; rfl
            · rw [decide_eq_true h0, decide_eq_false h6, decide_eq_false (show ¬ a + b < 0 by omega)]; rfl
          · rw [decide_eq_false h0, decide_eq_false (show ¬ a + b < 0 by omega)]; rfl
        rw [this]
      · have : (a + b).natAbs = b.natAbs - a.natAbs := by omega
        rw [this]
        exact (hu.mono x5).setB g' _

theorem C66 {va vb : Value} {a b : Int} {h : Heap} {K : Value → Heap → Prop} (ha : IntV h va a) (hb : IntV h vb b) (la : a.natAbs < bigW) (lb : b.natAbs < bigW) (hk : ∀ r h', EX h h' → IntV h' r (a - b) → K r h') : CallP Try.prog 66 [va, vb] h K := by
  have ha0 := ha
  have hb0 := hb
  obtain ⟨v, rfl, hv⟩ := ha
  obtain ⟨w, rfl, hw⟩ := hb
  refine f66 ?_
  unfold T66
  refine box2 ?_
  intro h3 x
  simp only [OP_some, x.a2, x.b2, true_and]
  refine C92 (hb0.mono x.ex) ?_
  intro r1 h4 x4 i1
  refine ⟨⟨EX.load x4 x.a2, trivial⟩, ?_⟩
  refine C64 (ha0.mono (x.ex.trans x4)) i1 la (by rw [Int.natAbs_neg]; exact lb) ?_
  intro r2 h5 x5 i2
  have g' := (x4.trans x5).get x.out
  obtain ⟨u, rfl, hu⟩ := id i2
  refine fin2 g' (hk _ _ (((x.ex.trans x4).trans x5).set (by omega) _) ?_)
  rw [Int.sub_eq_add_neg]
  exact i2.setB g' _

theorem C65 {va vb : Value} {a b : Int} {h : Heap} {K : Value → Heap → Prop} (ha : IntV h va a) (hb : IntV h vb b) (la : a.natAbs < bigW) (lb : b.natAbs < bigW) (hk : ∀ r h', EX h h' → IntV h' r (a * b) → K r h') : CallP Try.prog 65 [va, vb] h K := by
  obtain ⟨v, rfl, hv⟩ := ha
  obtain ⟨w, rfl, hw⟩ := hb
  refine f65 ?_
  unfold T65
  refine box2 ?_
  intro h3 x
  have hv3 := hv.mono x.ex
  have hw3 := hw.mono x.ex
  simp only [fadr_pt, Nat.add_zero, Nat.zero_add, OP_some, x.a0, x.a1, x.b0, x.b1, eqb_bool, if_true, true_and]
  refine C91 hv3 hw3 la lb ?_
  intro u h4 x4 hu
  refine ⟨⟨EX.load x4 x.a0, EX.load x4 x.b0, trivial⟩, ?_⟩
  refine C86 hu ?_
  intro h5 x5
  have g' := (x4.trans x5).get x.out
  refine fin2 g' (hk _ _ (((x.ex.trans x4).trans x5).set (by omega) _) ⟨u, ?_, ?_⟩)
  · have : ((!(decide (a < 0) == decide (b < 0))) && decide (0 < a.natAbs * b.natAbs)) = decide (a * b < 0) := by
      rcases Int.lt_trichotomy a 0 with h1 | h1 | h1
      · rcases Int.lt_trichotomy b 0 with h2 | h2 | h2
        · have := Int.mul_pos_of_neg_of_neg h1 h2
          rw [decide_eq_true h1, decide_eq_true h2, decide_eq_false (show ¬ a * b < 0 by omega)]; rfl
        · subst h2; simp
        · have := Int.mul_neg_of_neg_of_pos h1 h2
          have h3 : 0 < a.natAbs * b.natAbs := Nat.mul_pos (by omega) (by omega)
          rw [decide_eq_true h1, decide_eq_false (show ¬ b < 0 by omega), decide_eq_true h3, decide_eq_true this]; rfl
      · subst h1; simp
      · rcases Int.lt_trichotomy b 0 with h2 | h2 | h2
        · have := Int.mul_neg_of_pos_of_neg h1 h2
          have h3 : 0 < a.natAbs * b.natAbs := Nat.mul_pos (by omega) (by omega)
          rw [decide_eq_false (show ¬ a < 0 by omega), decide_eq_true h2, decide_eq_true h3, decide_eq_true this]; rfl
        · subst h2; simp
        · have := Int.mul_pos h1 h2
          rw [decide_eq_false (show ¬ a < 0 by omega), decide_eq_false (show ¬ b < 0 by omega), decide_eq_false (show ¬ a * b < 0 by omega)]; rfl
    rw [this]
  · rw [Int.natAbs_mul]
    exact (hu.mono x5).setB g' _

end Go.Proofs.Ytjdlcokhlphmhaa

/-
  A number's decimal digits, as the program writes them.
-/
namespace Go.Proofs.Ytjdlcokhlphmhaa
open Go.Sim

theorem shl32 {r : Nat} (hr : r < 4294967296) : iBin .shl (.int .u64 (r : Int)) (.int .u64 32) = some (.int .u64 ((r * 4294967296 : Nat) : Int)) := by
  simp only [iBin, iShift]
  rw [if_neg (by omega)]
  have : (min (32 : Int).toNat IntKind.u64.bits) = 32 := rfl
  rw [this]
  have e2 : (2 : Int) ^ 32 = 4294967296 := by decide
  rw [e2, wrapU64 (by omega) (by omega)]
  congr 2

theorem or64 {r x : Nat} (hr : r < 4294967296) (hx : x < 4294967296) : iBin .or (.int .u64 ((r * 4294967296 : Nat) : Int)) (.int .u64 (x : Int)) = some (.int .u64 ((r * 4294967296 + x : Nat) : Int)) := by
  have e : (BitVec.ofInt IntKind.u64.bits ((r * 4294967296 : Nat) : Int) ||| BitVec.ofInt IntKind.u64.bits (x : Int)).toNat = r * 4294967296 + x := by
    show (BitVec.ofInt 64 ((r * 4294967296 : Nat) : Int) ||| BitVec.ofInt 64 (x : Int)).toNat = _
    rw [BitVec.ofInt_natCast, BitVec.ofInt_natCast, BitVec.toNat_or, BitVec.toNat_ofNat, BitVec.toNat_ofNat, Nat.mod_eq_of_lt (by omega), Nat.mod_eq_of_lt (by omega)]
    have := Nat.two_pow_add_eq_or_of_lt (i := 32) (b := x) (by omega) r
    rw [Nat.mul_comm r]
    exact this.symm
  simp only [iBin, iInt, if_true]
  rw [e, wrapU64 (by omega) (by omega)]

theorem quo64 {a b : Nat} (hb : b ≠ 0) (ha : a < 18446744073709551616) : iBin .quo (.int .u64 (a : Int)) (.int .u64 (b : Int)) = some (.int .u64 ((a / b : Nat) : Int)) := by
  have h : ¬ ((b : Int) = 0) := by omega
  have h2 : a / b ≤ a := Nat.div_le_self _ _
  simp only [iBin, iInt, if_true, if_neg h]
  have e : (a : Int).tdiv (b : Int) = ((a / b : Nat) : Int) := rfl
  rw [e]
  generalize a / b = q at *
  rw [wrapU64 (by omega) (by omega)]

theorem C111 {va : Value} {a w : Nat} {h : Heap} {K : Value → Heap → Prop} (ha : MagV h va a) (la : a < bigW) (w0 : 0 < w) (wW : w < 4294967296) (hk : ∀ v h', EX h h' → MagV h' v (a / w) → K (.tuple #[v, .int .u32 ((a % w : Nat) : Int)]) h') :
    CallP Try.prog 111 [va, .int .u32 (w : Int)] h K := by
  obtain ⟨xs, hx, cx, rfl⟩ := ha
  have l1 := canW_len cx la
  have hW : (0 : Nat) < 4294967296 := by decide
  refine f111 ?_
  have e1 : IntKind.wrap .i64 ((xs.length : Int) - 1) = (xs.length : Int) - 1 := by rw [wrap64 (by omega) (by omega)]
  simp only [T111, hx.len, OP_some, make_hd (show xs.length ≤ 1000 by omega), OH_some, bin_sub, e1]
  refine loopL (σ := Nat × Nat × List Nat) (fun p => [.int .u64 (p.1 : Int), I ((p.2.1 : Int) - 1)]) (fun p => hd h p.2.2)
    (fun p => p.2.1 ≤ xs.length ∧ p.1 < w ∧ p.2.2.length = xs.length ∧ Lim 4294967296 p.2.2 ∧ val 4294967296 (xs.drop p.2.1) = w * val 4294967296 (p.2.2.drop p.2.1) + p.1) (fun p => p.2.1)
    (0, xs.length, List.replicate xs.length 0) rfl rfl ⟨Nat.le_refl _, w0, by simp, Lim.zeros hW _, by simp [val]⟩ ?_
  rintro ⟨r, i, os⟩ ⟨hi, hr, hol, hlim, hval⟩ L hL
  simp only at hi hr hol hlim hval hL ⊢
  rw [q111z7]
  have hx' := hx.mono (hd_EX h os)
  simp only [bin_geq, OP_some, IfP_dec]
  refine ⟨fun hge => ?_, fun hlt => ?_⟩
  · obtain ⟨j, rfl⟩ : ∃ j, i = j + 1 := ⟨i - 1, by omega⟩
    have ej : (((j + 1 : Nat) : Int) - 1) = (j : Int) := by omega
    rw [ej]
    obtain ⟨ia, a1, a2⟩ := hx'.get (j := j) (by omega)
    have hxl : xs[j]'(by omega) < 4294967296 := cx.1 _ (List.getElem_mem _)
    have hdx : xs.drop j = xs[j]'(by omega) :: xs.drop (j + 1) := List.drop_eq_getElem_cons (by omega)
    generalize xs[j]'(by omega) = x at a2 hxl hdx
    simp only [shl32 (show r < 4294967296 by omega), OP_some, a1, a2, conv_int]
    rw [wrapU64 (n := (x : Int)) (by omega) (by omega)]
    simp only [or64 (show r < 4294967296 by omega) hxl, OP_some, conv_int]
    rw [wrapU64 (n := (w : Int)) (by omega) (by omega)]
    have ht : r * 4294967296 + x < w * 4294967296 := by omega
    have hq : (r * 4294967296 + x) / w < 4294967296 := (Nat.div_lt_iff_lt_mul w0).2 (by omega)
    have hm := Nat.mod_lt (r * 4294967296 + x) w0
    have hdm := Nat.div_add_mod (r * 4294967296 + x) w
    rw [quo64 (by omega) (by omega), rem_nat _ _ _ (by omega)]
    generalize (r * 4294967296 + x) / w = q at *
    generalize (r * 4294967296 + x) % w = m at *
    simp only [OP_some, conv_int]
    rw [wrapU32 (n := (q : Int)) (by omega) (by omega), adr_sl (show j < xs.length by omega)]
    simp only [OP_some]
    rw [hd_store _ (by omega)]
    simp only [OH_some, bin_sub, OP_some, true_and]
    rw [wrap64 (n := (j : Int) - 1) (by omega) (by omega)]
    refine hL (m, j, os.set j q) ⟨by show j ≤ xs.length; omega, hm, by show (os.set _ _).length = _; rw [List.length_set]; exact hol, hlim.set hq _, ?_⟩ (by show j < j + 1; omega)
    show val 4294967296 (xs.drop j) = w * val 4294967296 ((os.set j q).drop j) + m
    have hdo : (os.set j q).drop j = q :: os.drop (j + 1) := by
      rw [List.drop_eq_getElem_cons (by rw [List.length_set]; omega), List.getElem_set_self, List.drop_set_of_lt (by omega)]
    rw [hdx, hdo]
    simp only [val]
    rw [hval]
    generalize val 4294967296 (os.drop (j + 1)) = Q at *
    generalize (4294967296 : Nat) = W at *
    clear hL hx hx' a1 a2 hval
    grind
  · have : i = 0 := by omega
    subst this
    rw [List.drop_zero, List.drop_zero] at hval
    rw [q111z13]
    have e : sl 143 h.length 0 xs.length = sl 143 h.length 0 os.length := by rw [hol]
    rw [e]
    refine C87 (hd_DS h _) hlim (by omega) ?_
    intro v' hm
    simp only [conv_int, OP_some]
    rw [wrapU32 (n := (r : Int)) (by omega) (by omega)]
    have h1 : val 4294967296 xs / w = val 4294967296 os := by
      rw [hval, Nat.mul_add_div w0, Nat.div_eq_of_lt hr, Nat.add_zero]
    have h2 : val 4294967296 xs % w = r := by
      rw [hval, Nat.mul_add_mod, Nat.mod_eq_of_lt hr]
    have := hk v' _ (hd_EX h os) (by rw [h1]; exact hm)
    rw [h2] at this
    exact this

theorem C112 {h : Heap} {id : Nat} {xs : List UInt8} {K : Value → Heap → Prop} (hget : h[id]? = some (.arr 5 (xs.map cv))) (hn : xs.length ≤ 100000) (hk : K (.tuple #[]) (hb h id xs.reverse)) : CallP Try.prog 112 [sl 5 id 0 xs.length] h K := by
  have hid := (List.getElem?_eq_some_iff.1 hget).1
  have e0 : h = hb h id xs := by
    apply List.ext_getElem?
    intro j
    by_cases hj : id = j
    · subst hj; rw [hb_get hid, hget]
    · rw [List.getElem?_set_ne hj]
  refine f112 ?_
  have e1 : iLenSl (sl 5 id 0 xs.length) = some (I xs.length) := rfl
  have e2 : IntKind.wrap .i64 ((xs.length : Int) - 1) = (xs.length : Int) - 1 := by rw [wrap64 (by omega) (by omega)]
  simp only [T112, e1, OP_some, bin_sub, e2]
  refine loopL (σ := Nat × List UInt8) (fun p => [I p.1, I ((xs.length : Int) - 1 - p.1)]) (fun p => hb h id p.2) (fun p => p.1 ≤ xs.length ∧ p.2.length = xs.length ∧ ∀ k (hk : k < p.2.length) (hk2 : k < xs.length), p.2[k] = if k < p.1 ∨ xs.length - p.1 ≤ k then xs[xs.length - 1 - k]'(by omega) else xs[k]) (fun p => xs.length - p.1)
    (0, xs) (by simp) e0.symm ⟨by simp, rfl, fun k h1 h2 => by simp; intro h3; omega⟩ ?_
  rintro ⟨i, ys⟩ ⟨hi, hl, hy⟩ L hL
  simp only at hi hl hy hL ⊢
  rw [q112z3]
  simp only [bin_lss, OP_some, IfP_dec]
  refine ⟨fun hlt => ?_, fun hge => ?_⟩
  · obtain ⟨j, hj⟩ : ∃ j : Nat, (xs.length : Int) - 1 - i = j := ⟨xs.length - 1 - i, by omega⟩
    rw [hj]
    have hjn : j = xs.length - 1 - i := by omega
    have a1 := adr_sl (id := id) (e := 5) (n := xs.length) (j := j) (by omega)
    have a2 := adr_sl (id := id) (e := 5) (n := xs.length) (j := i) (by omega)
    have g1 : ys[j]? = some (ys[j]'(by omega)) := List.getElem?_eq_getElem (by omega)
    have g2 : ys[i]? = some (ys[i]'(by omega)) := List.getElem?_eq_getElem (by omega)
    simp only [a1, a2, OP_some, hb_load hid g1, hb_load hid g2, true_and]
    rw [hb_store hid _ (by omega)]
    simp only [OH_some]
    rw [hb_store hid _ (by rw [List.length_set]; omega)]
    simp only [OH_some, bin_add, bin_sub, OP_some, inc i (by omega), true_and]
    have ej : IntKind.wrap .i64 ((j : Int) - 1) = (xs.length : Int) - 1 - ((i + 1 : Nat) : Int) := by rw [wrap64 (by omega) (by omega)]; omega
    rw [ej]
    refine hL (i + 1, (ys.set i (ys[j]'(by omega))).set j (ys[i]'(by omega))) ⟨by show i + 1 ≤ xs.length; omega, by simp [hl], ?_⟩ (by show xs.length - (i + 1) < xs.length - i; omega)
    intro k hk1 hk2
    show ((ys.set i (ys[j]'(by omega))).set j (ys[i]'(by omega)))[k] = if k < i + 1 ∨ xs.length - (i + 1) ≤ k then xs[xs.length - 1 - k]'(by omega) else xs[k]
    have hyi := hy i (by omega) (by omega)
    have hyj := hy j (by omega) (by omega)
    rw [if_neg (by omega)] at hyi hyj
    by_cases hkj : j = k
    · subst hkj
      rw [List.getElem_set_self, if_pos (by omega), hyi]
      congr 1; omega
    · rw [List.getElem_set_ne hkj]
      by_cases hki : i = k
      · subst hki
        rw [List.getElem_set_self, if_pos (by omega), hyj]
        congr 1
      · rw [List.getElem_set_ne hki, hy k (by omega) hk2]
        by_cases hc : k < i ∨ xs.length - i ≤ k
        · rw [if_pos hc, if_pos (by omega)]
        · rw [if_neg hc, if_neg (by omega)]
  · have : ys = xs.reverse := by
      apply List.ext_getElem (by simp [hl])
      intro k h1 h2
      rw [hy k h1 (by omega), List.getElem_reverse]
      split
      · rfl
      · congr 1; omega
    rw [this]
    exact hk

/-! ### Decimal digits -/

def dig10 (n : Nat) : List Nat := if h : n = 0 then [] else n % 10 :: dig10 (n / 10)
termination_by n
decreasing_by omega

theorem dig10_canon (n : Nat) : Canon 10 (dig10 n) ∧ val 10 (dig10 n) = n := by
  induction n using Nat.strongRecOn with
  | ind n ih =>
    rw [dig10]
    by_cases h : n = 0
    · subst h; exact ⟨Canon.nil 10, rfl⟩
    · rw [dif_neg h]
      obtain ⟨h1, h2⟩ := ih (n / 10) (by omega)
      refine ⟨⟨?_, ?_⟩, ?_⟩
      · intro x hx
        rcases List.mem_cons.1 hx with rfl | hx
        · omega
        · exact h1.1 x hx
      · cases hd : dig10 (n / 10) with
        | nil =>
          rw [hd] at h2
          simp [val] at h2
          simp
          omega
        | cons y ys =>
          rw [List.getLast?_cons_cons, ← hd]
          exact h1.2
      · simp only [val, h2]; omega

/-- A digit's character. -/
def dch (d : Nat) : UInt8 := UInt8.ofNat (48 + d)
theorem dch_toNat {d : Nat} (h : d < 10) : (dch d).toNat = 48 + d := by simp [dch, UInt8.toNat_ofNat']; omega

/-- A number in decimal digits. -/
def decS (n : Nat) : List UInt8 := if n = 0 then [48] else ((dig10 n).map dch).reverse

def k1000 : Nat := 1000
theorem bigW_10 : bigW ≤ 10 ^ k1000 := by decide +kernel

end Go.Proofs.Ytjdlcokhlphmhaa

/-
  The text of a number.
-/
namespace Go.Proofs.Ytjdlcokhlphmhaa
open Go.Sim

theorem cvd {d : Nat} (h : d < 10) : (.int .u8 ((48 + d : Nat) : Int) : Value) = cv (dch d) := by rw [cv, dch_toNat h]

theorem pow10_pos (k : Nat) : 0 < 10 ^ k := Nat.pow_pos (by decide)

theorem len_of_pow {b n m : Nat} (hm : 0 < m) (h : 10 ^ b * m ≤ n) (hn : n < bigW) : b < 1000 := by
  have h1 : 10 ^ b ≤ 10 ^ b * m := Nat.le_mul_of_pos_right _ hm
  show b < k1000
  have h2 : 10 ^ b < 10 ^ k1000 := Nat.lt_of_le_of_lt (Nat.le_trans h1 h) (Nat.lt_of_lt_of_le hn bigW_10)
  exact (Nat.pow_lt_pow_iff_right (by decide)).1 h2

/-- One byte more: numbers stay as they are. -/
theorem app1M {h0 hx : Heap} {v z : Value} {x : UInt8} {bs : List UInt8} {K : Value → Heap → Prop} (o : OwnS h0.length hx 5 v (bs.map cv)) (hex : EX h0 hx) (hl : bs.length ≤ 100000)
    (hk : ∀ v' hx', EX h0 hx' → OwnS h0.length hx' 5 v' ((bs ++ [x]).map cv) → (∀ q n, MagV hx q n → MagV hx' q n) → K v' hx') :
    OH (iMkSl 5 1 [z] hx [(0, 1, cv x)]) fun a h2 => OH (iApp 5 1 1 h2 v a) K := by
  refine app1p o (by simp; omega) (by simp [maxLen]; omega) rfl rfl ?_
  intro hA hx' _ hlen hkeep hnew
  simp only [OH_some]
  refine hk _ _ ⟨by have := hex.1; omega, fun j hj => ?_⟩ (.inr ⟨hx.length + 1, by have := hex.1; omega, by simp, by simpa using hnew⟩) ?_
  · rw [hkeep j (by have := hex.1; omega) fun n hv => ?_]
    · exact hex.2 j hj
    · have := (o.lt hv).1; omega
  · rintro q n ⟨xs, d, c, hv⟩
    refine ⟨xs, ?_, c, hv⟩
    rcases d with d | ⟨i, h1, h2⟩
    · exact .inl d
    · refine .inr ⟨i, h1, ?_⟩
      rcases h2 with h2 | ⟨r, h2⟩
      · exact .inl h2
      · cases xs with
        | nil => exact .inl rfl
        | cons y ys =>
          right
          refine ⟨r, ?_⟩
          have hil : i < hx.length := by
            apply Classical.byContradiction
            intro hc
            unfold objCells at h2
            rw [List.getElem?_eq_none (by omega)] at h2
            simp at h2
          unfold objCells at h2 ⊢
          rw [hkeep i hil fun n hvv => ?_]
          · exact h2
          · have hg := (o.lt hvv).2.2
            rw [hg] at h2
            cases bs with
            | nil => simp at h2
            | cons b bs => simp [cv] at h2

theorem C93 {va : Value} {n : Nat} {h : Heap} {K : Value → Heap → Prop} (ha : MagV h va n) (la : n < bigW) (hk : ∀ h', EX h h' → K (S (decS n)) h') : CallP Try.prog 93 [va] h K := by
  refine f93 ?_
  obtain ⟨l0, e0, e1⟩ := ha.len0
  simp only [T93, e0, OP_some, bin_eql, IfP_dec]
  refine ⟨fun hz => ?_, fun hnz => ?_⟩
  · have : n = 0 := by omega
    subst this
    exact hk h (EX.refl h)
  · have hn0 : 0 < n := by omega
    refine loopL (σ := Value × Nat × Value × List Nat × Heap) (fun p => [p.1, p.2.2.1]) (fun p => p.2.2.2.2)
      (fun p => EX h p.2.2.2.2 ∧ MagV p.2.2.2.2 p.1 p.2.1 ∧ OwnS h.length p.2.2.2.2 5 p.2.2.1 ((p.2.2.2.1.map dch).map cv) ∧ Lim 10 p.2.2.2.1 ∧ val 10 p.2.2.2.1 + 10 ^ p.2.2.2.1.length * p.2.1 = n ∧ (p.2.1 = 0 → Canon 10 p.2.2.2.1)) (fun p => p.2.1)
      (va, n, .slice none 0 0, [], h) rfl rfl ⟨EX.refl h, ha, .inl ⟨rfl, rfl⟩, fun x hx => by simp at hx, by simp [val], fun h0 => by have h0 : n = 0 := h0; omega⟩ ?_
    rintro ⟨v, m, bv, b, hx⟩ ⟨hex, hm, hown, hlim, hval, hcan⟩ L hL
    simp only at hex hm hown hlim hval hcan hL ⊢
    rw [q93z8]
    obtain ⟨l, f0, f1⟩ := hm.len0
    simp only [f0, OP_some, bin_gtr, IfP_dec]
    refine ⟨fun hlt => ?_, fun hge => ?_⟩
    · have hm0 : 0 < m := by omega
      have hmb : m < bigW := by
        refine Nat.lt_of_le_of_lt ?_ la
        have : m ≤ 10 ^ b.length * m := Nat.le_mul_of_pos_left _ (pow10_pos _)
        omega
      have hbl := len_of_pow (b := b.length) hm0 (by omega) la
      refine C111 hm hmb (w := 1000000000) (by decide) (by decide) ?_
      intro q h1 x1 hq
      simp only [ext_tuple, pair0, pair1, OP_some]
      have hown1 : OwnS h.length h1 5 bv ((b.map dch).map cv) := hown.keep fun d k hv hd => by
        have := (hown.lt hv).2.1
        exact x1.2 d this
      have hqlt : m / 1000000000 < m := Nat.div_lt_self hm0 (by decide)
      have hdm := Nat.div_add_mod m 1000000000
      have hr9 := Nat.mod_lt m (show 1000000000 > 0 by decide)
      generalize m / 1000000000 = qn at *
      generalize m % 1000000000 = r0 at *
      have hqq := hq
      refine loopL (σ := Value × List Nat × Nat × Nat × Heap) (fun p => [p.1, .int .u32 (p.2.2.1 : Int), I p.2.2.2.1]) (fun p => p.2.2.2.2)
        (fun p => EX h p.2.2.2.2 ∧ MagV p.2.2.2.2 q qn ∧ OwnS h.length p.2.2.2.2 5 p.1 ((p.2.1.map dch).map cv) ∧ Lim 10 p.2.1 ∧ p.2.2.2.1 ≤ 9 ∧ p.2.2.1 < 10 ^ (9 - p.2.2.2.1) ∧ p.2.1.length ≤ b.length + p.2.2.2.1 ∧ val 10 p.2.1 + 10 ^ p.2.1.length * (p.2.2.1 + 10 ^ (9 - p.2.2.2.1) * qn) = n ∧ (qn = 0 → p.2.2.1 = 0 → Canon 10 p.2.1)) (fun p => 9 - p.2.2.2.1)
        (bv, b, r0, 0, h1) rfl rfl ⟨hex.trans x1, hq, hown1, hlim, by simp, by simpa using hr9, by simp, ?_, ?_⟩ ?_
      · show val 10 b + 10 ^ b.length * (r0 + 10 ^ (9 - 0) * qn) = n
        have : r0 + 10 ^ (9 - 0) * qn = m := by
          show r0 + 1000000000 * qn = m
          omega
        rw [this]; exact hval
      · intro h1 h2
        have h1 : qn = 0 := h1
        have h2 : r0 = 0 := h2
        subst h1; subst h2
        omega
      rintro ⟨cv1, c, r, i, hy⟩ ⟨hey, hqy, howny, hlimc, hi, hr, hcl, hvalc, hcanc⟩ L2 hL2
      simp only at hey hqy howny hlimc hi hr hcl hvalc hcanc hL2 ⊢
      rw [q93z16]
      -- leaving
      have stop : r = 0 → (i = 9 ∨ qn = 0) → p93z30 Try.prog K cv1 q L hy := by
        intro hr0 hor
        rw [q93z30]
        refine ⟨rfl, hL (q, qn, cv1, c, hy) ⟨hey, hqy, howny, hlimc, ?_, fun h0 => hcanc h0 hr0⟩ hqlt⟩
        show val 10 c + 10 ^ c.length * qn = n
        rw [hr0, Nat.zero_add] at hvalc
        rcases hor with h9 | h0
        · subst h9; simpa using hvalc
        · subst h0; simpa using hvalc
      simp only [bin_lss, OP_some]
      by_cases hi9 : i < 9
      · rw [decide_eq_true (show (i : Int) < 9 by omega)]
        simp only [q93z20, GdP_tt]
        obtain ⟨l2, g0, g1⟩ := hqy.len0
        simp only [g0, OP_some, bin_gtr]
        -- one digit more
        have step : (0 < qn ∨ 0 < r) → IfP (B true)
            (OP (iBin .rem (.int .u32 (r : Int)) (.int .u32 (10))) fun x33 =>
            OP (iBin .add (.int .u32 (48)) x33) fun x34 =>
            OP (iConv .u8 x34) fun x35 =>
            OH (iMkSl 5 1 [(.int .u8 (0))] hy [(0, 1, x35)]) fun x36 h_1 =>
            OH (iApp 5 1 1 h_1 cv1 x36) fun x37 h_2 =>
            OP (iBin .quo (.int .u32 (r : Int)) (.int .u32 (10))) fun x39 =>
            OP (iBin .add (I i) (.int .i64 (1))) fun x30 =>
            True ∧ L2 [x37, x39, x30] h_2)
            (p93z30 Try.prog K cv1 q L hy) := by
          intro hor
          have hrW : r < 4294967296 := Nat.lt_of_lt_of_le hr (Nat.le_trans (Nat.pow_le_pow_right (by decide) (show 9 - i ≤ 9 by omega)) (by decide))
          have ed : IntKind.wrap .u32 ((48 : Int) + ((r % 10 : Nat) : Int)) = ((48 + r % 10 : Nat) : Int) := by rw [wrapU32 (by omega) (by omega)]; omega
          have eq10 : iBin .quo (.int .u32 (r : Int)) (.int .u32 10) = some (.int .u32 ((r / 10 : Nat) : Int)) := by
            have h10 : ¬ ((10 : Int) = 0) := by omega
            simp only [iBin, iInt, if_true, if_neg h10]
            have e : (r : Int).tdiv 10 = ((r / 10 : Nat) : Int) := rfl
            rw [e, wrapU32 (by omega) (by omega)]
          simp only [IfP_true]
          rw [show (.int .u32 10 : Value) = .int .u32 ((10 : Nat) : Int) from rfl, rem_nat _ _ _ (by decide)]
          simp only [OP_some, bin_add, ed, conv_int]
          rw [wrapU8 (by omega) (by omega), cvd (show r % 10 < 10 by omega)]
          refine app1M (x := dch (r % 10)) howny hey (by simp; omega) ?_
          intro v' hx' hex' hown' hkeep
          rw [show (.int .u32 ((10 : Nat) : Int) : Value) = .int .u32 10 from rfl, eq10]
          simp only [OP_some, inc i (by omega), true_and]
          have hq' : MagV hx' q qn := hkeep q qn hqy
          refine hL2 (v', c ++ [r % 10], r / 10, i + 1, hx') ⟨hex', hq', by simpa using hown', hlimc.append (fun x hx => by simp at hx; omega), by show i + 1 ≤ 9; omega, ?_, by show (c ++ [r % 10]).length ≤ b.length + (i + 1); simp; omega, ?_, ?_⟩ (by show 9 - (i + 1) < 9 - i; omega)
          · show r / 10 < 10 ^ (9 - (i + 1))
            rw [show 9 - i = (9 - (i + 1)) + 1 by omega, Nat.pow_succ] at hr
            exact (Nat.div_lt_iff_lt_mul (by decide)).2 hr
          · show val 10 (c ++ [r % 10]) + 10 ^ (c ++ [r % 10]).length * (r / 10 + 10 ^ (9 - (i + 1)) * qn) = n
            rw [val_append, List.length_append, List.length_singleton, Nat.pow_succ]
            rw [show 9 - i = (9 - (i + 1)) + 1 by omega, Nat.pow_succ] at hvalc
            have hdm := Nat.div_add_mod r 10
            simp only [val, Nat.mul_zero, Nat.add_zero]
            generalize r / 10 = r1 at *
            generalize r % 10 = d at *
            generalize 10 ^ c.length = P at *
            generalize 10 ^ (9 - (i + 1)) = Q at *
            generalize val 10 c = V at *
            clear hL hL2 hr hcanc hval stop
            subst hdm
            grind
          · intro h1 h2
            have h2 : r / 10 = 0 := h2
            refine can_of_last (hlimc.append (fun x hx => by simp at hx; omega)) ?_
            intro _
            have : 0 < r := by rcases hor with h | h; omega; exact h
            simp
            omega
        by_cases hq0 : 0 < qn
        · rw [decide_eq_true (show (0 : Int) < (l2 : Int) by omega)]
          simp only [q93z22, GdP_tf, q93z24, iPick_t, OP_some, GdP_tt, q93z26]
          exact step (.inl hq0)
        · rw [decide_eq_false (show ¬ (0 : Int) < (l2 : Int) by omega)]
          simp only [q93z22, GdP_ff, bin_gtr, OP_some]
          by_cases hr0 : 0 < r
          · rw [decide_eq_true (show (0 : Int) < (r : Int) by omega)]
            simp only [q93z24, GdP_tt, iPick_f, OP_some, q93z26, iPick_t]
            exact step (.inr hr0)
          · rw [decide_eq_false (show ¬ (0 : Int) < (r : Int) by omega)]
            simp only [q93z24, GdP_tt, iPick_f, OP_some, q93z26, iPick_t, IfP_false]
            exact stop (by omega) (.inr (by omega))
      · have : i = 9 := by omega
        subst this
        rw [decide_eq_false (show ¬ ((9 : Nat) : Int) < 9 by omega)]
        simp only [q93z20, GdP_ft, q93z22, GdP_undef, q93z24, q93z26, iPick_f, OP_some, IfP_false]
        exact stop (by simpa using hr) (.inl rfl)
    · have hm0 : m = 0 := by omega
      subst hm0
      have hc := hcan rfl
      rw [Nat.mul_zero, Nat.add_zero] at hval
      have hb : b = dig10 n := Canon.unique (by decide) hc (dig10_canon n).1 (by rw [hval, (dig10_canon n).2])
      have hbne : b ≠ [] := by rintro rfl; simp [val] at hval; omega
      have hbl : b.length ≤ 2000 := by
        have h1 := Canon.low (by decide) hc hbne
        have h2 := len_of_pow (b := b.length - 1) (m := 1) (n := n) (by decide) (by omega) la
        omega
      rw [q93z31]
      obtain ⟨id, hid, hv, hg⟩ : ∃ id, h.length ≤ id ∧ bv = sl 5 id 0 (b.map dch).length ∧ hx[id]? = some (.arr 5 ((b.map dch).map cv)) := by
        rcases hown with ⟨_, h0⟩ | ⟨id, h1, h2, h3⟩
        · exact absurd (by simpa using h0) hbne
        · exact ⟨id, h1, by simpa using h2, h3⟩
      rw [hv]
      refine C112 hg (by simp; omega) ?_
      have hidl := (List.getElem?_eq_some_iff.1 hg).1
      have b2 : iB2s (Go.Proofs.Ytjdlcokhlphmhaa.hb hx id (b.map dch).reverse) (sl 5 id 0 (b.map dch).length) = some (S (b.map dch).reverse) := by
        refine b2s (b := 0) (e := 5) (l := (b.map dch).reverse) (.inr ⟨id, Nat.zero_le _, by simp, ?_⟩)
        rw [hb_get hidl]
      simp only [b2, OP_some]
      have : (b.map dch).reverse = decS n := by unfold decS; rw [if_neg (by omega), hb]
      rw [this]
      exact hk _ (hex.set hid _)

end Go.Proofs.Ytjdlcokhlphmhaa
