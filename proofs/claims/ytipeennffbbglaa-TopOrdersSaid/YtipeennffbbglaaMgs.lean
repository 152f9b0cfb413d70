/-
  Sets as numbers: bits.
-/
import Derived.Test.YtipeennffbbglaaSim21
import Derived.Test.YtipeennffbbglaaMg8
import Derived.Test.YtipeennffbbglaaMg10
import Derived.Test.YtipeennffbbglaaSp5
namespace Go.Sim

/-- The kinds that sets have. -/
def SK (k : IntKind) : Prop := k = .u16 ∨ k = .i64

theorem SK.wrap {k : IntKind} (hk : SK k) {n : Int} (h0 : 0 ≤ n) (h1 : n < 32768) : k.wrap n = n := by
  rcases hk with rfl | rfl
  · have e : IntKind.wrap .u16 n = n % 65536 := by simp [IntKind.wrap, IntKind.bits, IntKind.signed]
    rw [e]; omega
  · exact wrap64 (by omega) (by omega)

theorem SK.bits {k : IntKind} (hk : SK k) : 16 ≤ k.bits := by
  rcases hk with rfl | rfl <;> decide

theorem SK.toNat {k : IntKind} (hk : SK k) {a : Nat} (ha : a < 1024) : (BitVec.ofInt k.bits (a : Int)).toNat = a := by
  have h := hk.bits
  have h2 : (2 : Nat) ^ 16 ≤ 2 ^ k.bits := Nat.pow_le_pow_right (by decide) h
  rw [BitVec.toNat_ofInt]
  have h3 : ((2 ^ k.bits : Nat) : Int) = 2 ^ k.bits := by simp
  rw [Int.emod_eq_of_lt (by omega) (by omega)]
  omega

theorem orK {k : IntKind} (hk : SK k) {a b : Nat} (ha : a < 1024) (hb : b < 1024) : iBin .or (.int k (a : Int)) (.int k (b : Int)) = some (.int k ((a ||| b : Nat) : Int)) := by
  have e : iBin .or (.int k (a : Int)) (.int k (b : Int)) = some (Value.int k (k.wrap ((BitVec.ofInt k.bits (a : Int) ||| BitVec.ofInt k.bits (b : Int)).toNat : Int))) := by simp [iBin, iInt]
  rw [e, BitVec.toNat_or, hk.toNat ha, hk.toNat hb]
  have : a ||| b < 2 ^ 10 := Nat.or_lt_two_pow ha hb
  rw [hk.wrap (by omega) (by omega)]

theorem andK {k : IntKind} (hk : SK k) {a b : Nat} (ha : a < 1024) (hb : b < 1024) : iBin .and (.int k (a : Int)) (.int k (b : Int)) = some (.int k ((a &&& b : Nat) : Int)) := by
  have e : iBin .and (.int k (a : Int)) (.int k (b : Int)) = some (Value.int k (k.wrap ((BitVec.ofInt k.bits (a : Int) &&& BitVec.ofInt k.bits (b : Int)).toNat : Int))) := by simp [iBin, iInt]
  rw [e, BitVec.toNat_and, hk.toNat ha, hk.toNat hb]
  have : a &&& b < 2 ^ 10 := Nat.and_lt_two_pow _ hb
  rw [hk.wrap (by omega) (by omega)]

/-- All of the one is in the other. -/
def subB (a b : Nat) : Bool := a &&& b == a

theorem andNotK {k : IntKind} (hk : SK k) {a b : Nat} (ha : a < 1024) (hb : b < 1024) : ∃ r : Nat, iBin .andNot (.int k (a : Int)) (.int k (b : Int)) = some (.int k (r : Int)) ∧ (r = 0 ↔ subB a b = true) := by
  have h1 : (BitVec.ofInt k.bits (a : Int) &&& ~~~BitVec.ofInt k.bits (b : Int)).toNat ≤ a := by
    rw [BitVec.toNat_and, hk.toNat ha]
    exact Nat.and_le_left
  refine ⟨(BitVec.ofInt k.bits (a : Int) &&& ~~~BitVec.ofInt k.bits (b : Int)).toNat, ?_, ?_⟩
  · have e : iBin .andNot (.int k (a : Int)) (.int k (b : Int)) = some (Value.int k (k.wrap ((BitVec.ofInt k.bits (a : Int) &&& ~~~BitVec.ofInt k.bits (b : Int)).toNat : Int))) := by simp [iBin, iInt]
    rw [e, hk.wrap (by omega) (by omega)]
  · generalize hx : BitVec.ofInt k.bits (a : Int) = x
    generalize hy : BitVec.ofInt k.bits (b : Int) = y
    have ex : x.toNat = a := by rw [← hx]; exact hk.toNat ha
    have ey : y.toNat = b := by rw [← hy]; exact hk.toNat hb
    unfold subB
    rw [beq_iff_eq, ← ex, ← ey, ← BitVec.toNat_and]
    have h0 : (x &&& ~~~y).toNat = 0 ↔ x &&& ~~~y = 0#k.bits := by
      constructor
      · intro h; exact BitVec.eq_of_toNat_eq (by rw [h]; simp)
      · intro h; rw [h]; simp
    rw [h0]
    constructor
    · intro h
      have : x &&& y = x := by
        ext i hi
        have := congrArg (fun v => v[i]) h
        simp only [BitVec.getElem_and, BitVec.getElem_not, BitVec.getElem_zero] at this ⊢
        cases hxi : x[i] <;> cases hyi : y[i] <;> simp_all
      rw [this]
    · intro h
      have h2 : x &&& y = x := BitVec.eq_of_toNat_eq h
      ext i hi
      have := congrArg (fun v => v[i]) h2
      simp only [BitVec.getElem_and, BitVec.getElem_not, BitVec.getElem_zero] at this ⊢
      cases hxi : x[i] <;> cases hyi : y[i] <;> simp_all

theorem shrK {k : IntKind} (hk : SK k) {s a : Nat} (ha : a < 16) : iBin .shr (.int k (s : Int)) (I a) = some (.int k ((s / 2 ^ a : Nat) : Int)) := by
  have h := hk.bits
  simp only [iBin, iShift]
  rw [if_neg (by omega)]
  have : min ((a : Int).toNat) k.bits = a := by omega
  rw [this, Int.fdiv_eq_ediv_of_nonneg _ (Int.pow_nonneg (by decide))]
  rfl

theorem shlK {k : IntKind} (hk : SK k) {a : Nat} (ha : a < 11) : iBin .shl (.int k 1) (I a) = some (.int k ((2 ^ a : Nat) : Int)) := by
  have h := hk.bits
  simp only [iBin, iShift]
  rw [if_neg (by omega)]
  have : min ((a : Int).toNat) k.bits = a := by omega
  rw [this, Int.one_mul]
  have h2 : (2 : Nat) ^ a ≤ 2 ^ 10 := Nat.pow_le_pow_right (by decide) (by omega)
  have h3 : ((2 : Int) ^ a) = ((2 ^ a : Nat) : Int) := by simp
  rw [h3, hk.wrap (Int.natCast_nonneg _) (by have : ((2 ^ a : Nat) : Int) ≤ ((1024 : Nat) : Int) := Int.ofNat_le.2 h2
                                             omega)]

theorem bit_and (z : Nat) : z &&& 1 = z % 2 := Nat.and_one_is_mod z

theorem bitB_test (s a : Nat) : bitB s a = s.testBit a := by
  unfold bitB
  rw [Nat.testBit_eq_decide_div_mod_eq]
  rfl

theorem subB_iff {a b : Nat} : subB a b = true ↔ ∀ i, a.testBit i = true → b.testBit i = true := by
  unfold subB
  rw [beq_iff_eq]
  constructor
  · intro h i hi
    have := congrArg (fun n => n.testBit i) h
    simp only [Nat.testBit_and] at this
    rw [hi] at this
    simpa using this
  · intro h
    apply Nat.eq_of_testBit_eq
    intro i
    rw [Nat.testBit_and]
    cases hi : a.testBit i with
    | false => rfl
    | true => rw [h i hi]; rfl

theorem testBit_or_pow (d i j : Nat) : (d ||| 2 ^ i).testBit j = (d.testBit j || decide (i = j)) := by
  rw [Nat.testBit_or, Nat.testBit_two_pow]

theorem or_lt {d i n : Nat} (hd : d < 2 ^ n) (hi : i < n) : d ||| 2 ^ i < 2 ^ n := Nat.or_lt_two_pow hd (Nat.pow_lt_pow_right (by decide) hi)

end Go.Sim

/-
  How many orders there are: from the front, and as the program adds them up.
-/
namespace Go.Sim

/-- A job can be done after those of a set. -/
def rdyS (bs : List Nat) (s i : Nat) : Bool := !s.testBit i && subB (bs.getD i 0) s
def fullS (n : Nat) : Nat := 2 ^ n - 1

/-- How many ways there are to do what is left. -/
def cntO (bs : List Nat) (n : Nat) : Nat → Nat → Int
  | 0, s => if s = fullS n then 1 else 0
  | f + 1, s => if s = fullS n then 1 else rsum n fun i => if rdyS bs s i = true then cntO bs n f (s ||| 2 ^ i) else 0

theorem lt_or_pow {s i : Nat} (h : s.testBit i = false) : s < s ||| 2 ^ i := by
  have h1 : s ≤ s ||| 2 ^ i := Nat.left_le_or
  rcases Nat.lt_or_eq_of_le h1 with h2 | h2
  · exact h2
  · exfalso
    have := congrArg (fun m => m.testBit i) h2
    simp only [testBit_or_pow] at this
    rw [h] at this
    simp at this

theorem rdyS_bit {bs : List Nat} {s i : Nat} (h : rdyS bs s i = true) : s.testBit i = false := by
  unfold rdyS at h
  rw [Bool.and_eq_true] at h
  simpa using h.1

/-- More steps make no difference. -/
theorem cntO_more (bs : List Nat) (n : Nat) : ∀ (f s : Nat), s < 2 ^ n → fullS n - s ≤ f → cntO bs n (f + 1) s = cntO bs n f s
  | 0, s, hs, hf => by
    have : s = fullS n := by unfold fullS at *; omega
    simp [cntO, this]
  | f + 1, s, hs, hf => by
    by_cases he : s = fullS n
    · simp [cntO, he]
    · rw [cntO, cntO, if_neg he, if_neg he]
      refine rsum_congr fun i hi => ?_
      split
      · rename_i hr
        have h1 := lt_or_pow (rdyS_bit hr)
        have h2 := or_lt hs hi
        exact cntO_more bs n f _ h2 (by unfold fullS at *; omega)
      · rfl

def lefts (bs : List Nat) (n s : Nat) : Int := cntO bs n (fullS n) s

theorem cntO_eq (bs : List Nat) (n : Nat) {s : Nat} (hs : s < 2 ^ n) : ∀ f, fullS n - s ≤ f → f ≤ fullS n → cntO bs n f s = lefts bs n s := by
  intro f h1 h2
  unfold lefts
  obtain ⟨d, hd⟩ : ∃ d, fullS n = f + d := ⟨fullS n - f, by omega⟩
  rw [hd]
  clear h2
  induction d generalizing f with
  | zero => rfl
  | succ d ih =>
    have := cntO_more bs n (f + d) s hs (by omega)
    rw [show f + (d + 1) = f + d + 1 by omega, this]
    by_cases h3 : fullS n = f + d
    · exact ih f h1 h3
    · -- the end does not matter
      have key : ∀ d, cntO bs n (f + d) s = cntO bs n f s := by
        intro d
        induction d with
        | zero => rfl
        | succ d ih2 => rw [show f + (d + 1) = f + d + 1 by omega, cntO_more bs n (f + d) s hs (by omega), ih2]
      exact (key d).symm

theorem lefts_full (bs : List Nat) (n : Nat) : lefts bs n (fullS n) = 1 := by
  unfold lefts
  cases h : fullS n with
  | zero => simp [cntO, h]
  | succ f => rw [cntO, if_pos h.symm]

theorem lefts_rec (bs : List Nat) (n : Nat) {s : Nat} (hs : s < fullS n) : lefts bs n s = rsum n fun i => if rdyS bs s i = true then lefts bs n (s ||| 2 ^ i) else 0 := by
  have hs2 : s < 2 ^ n := by unfold fullS at hs; omega
  obtain ⟨f, hf⟩ : ∃ f, fullS n = f + 1 := ⟨fullS n - 1, by omega⟩
  unfold lefts
  conv => lhs; rw [hf, cntO, if_neg (by omega)]
  refine rsum_congr fun i hi => ?_
  split
  · rename_i hr
    have h1 := lt_or_pow (rdyS_bit hr)
    exact cntO_eq bs n (or_lt hs2 hi) f (by omega) (by omega)
  · rfl

/-! ### The program's sums, as far as 64 bits tell -/

def M64 : Int := 18446744073709551616
theorem wrap_mod (x : Int) : ∃ q : Int, IntKind.wrap .i64 x = x + q * M64 := by
  have e : IntKind.wrap .i64 x = if 9223372036854775808 ≤ x % 18446744073709551616 then x % 18446744073709551616 - 18446744073709551616 else x % 18446744073709551616 := by
    simp [IntKind.wrap, IntKind.bits, IntKind.signed]
  have hd := Int.emod_add_mul_ediv x 18446744073709551616
  rw [e]
  unfold M64
  split
  · exact ⟨-(x / 18446744073709551616) - 1, by omega⟩
  · exact ⟨-(x / 18446744073709551616), by omega⟩

/-- What is weighed from a set on. -/
def phi (bs : List Nat) (n : Nat) (ws : List Int) (a : Nat) : Nat → Int
  | 0 => 0
  | m + 1 => phi bs n ws a m + ws.getD (a + m) 0 * lefts bs n (a + m)

theorem phi_first (bs : List Nat) (n : Nat) (ws : List Int) (a : Nat) : ∀ m, phi bs n ws a (m + 1) = ws.getD a 0 * lefts bs n a + phi bs n ws (a + 1) m
  | 0 => by simp [phi]
  | m + 1 => by
    rw [phi, phi_first bs n ws a m]
    simp only [phi]
    rw [show a + (m + 1) = a + 1 + m by omega]
    omega

theorem phi_out (bs : List Nat) (n : Nat) (ws : List Int) (a : Nat) {j : Nat} (v : Int) (hj : j < a) : ∀ m, phi bs n (ws.set j v) a m = phi bs n ws a m
  | 0 => rfl
  | m + 1 => by
    simp only [phi, phi_out bs n ws a v hj m]
    have : (ws.set j v).getD (a + m) 0 = ws.getD (a + m) 0 := by
      simp only [List.getD_eq_getElem?_getD]
      rw [List.getElem?_set_ne (by omega)]
    rw [this]

theorem phi_set (bs : List Nat) (n : Nat) (ws : List Int) (a : Nat) {j : Nat} (v : Int) (hj : j < ws.length) (ha : a ≤ j) : ∀ m, j < a + m → phi bs n (ws.set j v) a m = phi bs n ws a m + (v - ws.getD j 0) * lefts bs n j
  | 0, h => by omega
  | m + 1, h => by
    simp only [phi]
    by_cases he : j = a + m
    · subst he
      have h1 : ∀ m', m' ≤ m → phi bs n (ws.set (a + m) v) a m' = phi bs n ws a m' := by
        intro m'
        induction m' with
        | zero => intro _; rfl
        | succ m' ih =>
          intro hm
          simp only [phi, ih (by omega)]
          have : (ws.set (a + m) v).getD (a + m') 0 = ws.getD (a + m') 0 := by
            simp only [List.getD_eq_getElem?_getD]
            rw [List.getElem?_set_ne (by omega)]
          rw [this]
      rw [h1 m (Nat.le_refl _)]
      have : (ws.set (a + m) v).getD (a + m) 0 = v := by
        simp only [List.getD_eq_getElem?_getD]
        rw [List.getElem?_set_self hj]; rfl
      rw [this, Int.sub_mul]
      omega
    · rw [phi_set bs n ws a v hj ha m (by omega)]
      have : (ws.set j v).getD (a + m) 0 = ws.getD (a + m) 0 := by
        simp only [List.getD_eq_getElem?_getD]
        rw [List.getElem?_set_ne he]
      rw [this]
      omega

end Go.Sim

/-
  Orders of jobs, and their cost.
-/
namespace Go.Sim

/-- What is done after some jobs. -/
def stO : Nat → List Nat → Nat
  | s, [] => s
  | s, i :: l => stO (s ||| 2 ^ i) l
def okO (bs : List Nat) (n : Nat) : Nat → List Nat → Bool
  | _, [] => true
  | s, i :: l => (decide (i < n) && rdyS bs s i) && okO bs n (s ||| 2 ^ i) l

theorem stO_append : ∀ (s : Nat) (l m : List Nat), stO s (l ++ m) = stO (stO s l) m
  | s, [], m => rfl
  | s, i :: l, m => by simp only [List.cons_append, stO, stO_append _ l m]

theorem okO_append (bs : List Nat) (n : Nat) : ∀ (s : Nat) (l m : List Nat), okO bs n s (l ++ m) = (okO bs n s l && okO bs n (stO s l) m)
  | s, [], m => by simp [okO, stO]
  | s, i :: l, m => by simp only [List.cons_append, okO, stO, okO_append bs n _ l m, Bool.and_assoc]

theorem okO_at {bs : List Nat} {n s : Nat} {l : List Nat} (h : okO bs n s l = true) {i : Nat} (hi : i < l.length) : l[i] < n ∧ rdyS bs (stO s (l.take i)) l[i] = true := by
  have e : l = l.take i ++ (l[i] :: l.drop (i + 1)) := by
    rw [← List.drop_eq_getElem_cons hi, List.take_append_drop]
  rw [e, okO_append] at h
  simp only [okO, Bool.and_eq_true, decide_eq_true_eq] at h
  exact h.2.1

theorem stO_take {s : Nat} {l : List Nat} {i : Nat} (hi : i < l.length) : stO s (l.take (i + 1)) = stO s (l.take i) ||| 2 ^ l[i] := by
  rw [List.take_succ_eq_append_getElem hi, stO_append]
  rfl

theorem stO_lt {n : Nat} : ∀ {s : Nat} {l : List Nat}, s < 2 ^ n → (∀ i ∈ l, i < n) → stO s l < 2 ^ n
  | s, [], hs, _ => hs
  | s, i :: l, hs, h => stO_lt (s := s ||| 2 ^ i) (or_lt hs (h i (by simp))) fun x hx => h x (by simp [hx])

theorem okO_lt {bs : List Nat} {n : Nat} : ∀ {s : Nat} {l : List Nat}, okO bs n s l = true → ∀ i ∈ l, i < n
  | s, [], _, i, hi => by simp at hi
  | s, j :: l, h, i, hi => by
    simp only [okO, Bool.and_eq_true, decide_eq_true_eq] at h
    rcases List.mem_cons.1 hi with rfl | hi
    · exact h.1.1
    · exact okO_lt h.2 i hi

def lenJ (js : List (Int × Int)) (i : Nat) : Int := (js.getD i (0, 0)).1
def weiJ (js : List (Int × Int)) (i : Nat) : Int := (js.getD i (0, 0)).2

/-- The cost of what is left, from some time on. -/
def costF (js : List (Int × Int)) : Int → List Nat → Int
  | _, [] => 0
  | now, i :: l => weiJ js i * (now + lenJ js i) + costF js (now + lenJ js i) l
def endF (js : List (Int × Int)) : Int → List Nat → Int
  | now, [] => now
  | now, i :: l => endF js (now + lenJ js i) l

theorem endF_append (js : List (Int × Int)) : ∀ (now : Int) (l m : List Nat), endF js now (l ++ m) = endF js (endF js now l) m
  | now, [], m => rfl
  | now, i :: l, m => by simp only [List.cons_append, endF, endF_append js _ l m]
theorem costF_append (js : List (Int × Int)) : ∀ (now : Int) (l m : List Nat), costF js now (l ++ m) = costF js now l + costF js (endF js now l) m
  | now, [], m => by simp [costF, endF]
  | now, i :: l, m => by simp only [List.cons_append, costF, endF, costF_append js _ l m]; omega

theorem endF_take (js : List (Int × Int)) (now : Int) {l : List Nat} {i : Nat} (hi : i < l.length) : endF js now (l.take (i + 1)) = endF js now (l.take i) + lenJ js l[i] := by
  rw [List.take_succ_eq_append_getElem hi, endF_append]
  rfl
theorem costF_take (js : List (Int × Int)) (now : Int) {l : List Nat} {i : Nat} (hi : i < l.length) : costF js now (l.take (i + 1)) = costF js now (l.take i) + weiJ js l[i] * (endF js now (l.take i) + lenJ js l[i]) := by
  rw [List.take_succ_eq_append_getElem hi, costF_append]
  simp [costF]

/-- Small jobs cost little. -/
theorem cost_bound {js : List (Int × Int)} (h : ∀ i, (0 ≤ lenJ js i ∧ lenJ js i ≤ 50) ∧ 0 ≤ weiJ js i ∧ weiJ js i ≤ 50) : ∀ (l : List Nat) (now : Int), 0 ≤ now → now + 50 * l.length ≤ 1000 → (0 ≤ costF js now l ∧ costF js now l ≤ 50000 * l.length) ∧ now ≤ endF js now l ∧ endF js now l ≤ now + 50 * l.length
  | [], now, h0, h1 => by simp [costF, endF]
  | i :: l, now, h0, h1 => by
    obtain ⟨⟨a, b⟩, c, d⟩ := h i
    simp only [List.length_cons] at h1
    have ih := cost_bound h l (now + lenJ js i) (by omega) (by omega)
    have hm1 : 0 ≤ weiJ js i * (now + lenJ js i) := Int.mul_nonneg c (by omega)
    have hm2 : weiJ js i * (now + lenJ js i) ≤ 50 * 1000 := Int.mul_le_mul d (by omega) (by omega) (by omega)
    simp only [costF, endF, List.length_cons]
    omega

end Go.Sim

/-
  The least cost of what is left after a set.
-/
namespace Go.Sim

def listS' (s : Nat) : Nat → List Nat
  | 0 => []
  | i + 1 => if s.testBit i = true then listS' s i ++ [i] else listS' s i

/-- The time that a set takes. -/
def nowS (js : List (Int × Int)) (s : Nat) : Int := sumL (listS' s 10) (lenJ js)

theorem now_step (js : List (Int × Int)) {s i : Nat} (hi : i < 10) (hb : s.testBit i = false) : nowS js (s ||| 2 ^ i) = nowS js s + lenJ js i := by
  have key : ∀ m, sumL (listS' (s ||| 2 ^ i) m) (lenJ js) = sumL (listS' s m) (lenJ js) + if i < m then lenJ js i else 0 := by
    intro m
    induction m with
    | zero => simp [listS', sumL]
    | succ m ih =>
      simp only [listS', testBit_or_pow]
      by_cases him : i = m
      · subst him
        rw [hb]
        simp only [decide_true, Bool.or_true, if_true, sumL_append, sumL, ih]
        simp
      · have : decide (i = m) = false := decide_eq_false him
        rw [this, Bool.or_false]
        have h2 : (if i < m + 1 then lenJ js i else 0) = if i < m then lenJ js i else 0 := by
          by_cases h3 : i < m
          · rw [if_pos h3, if_pos (by omega)]
          · rw [if_neg h3, if_neg (by omega)]
        rw [h2]
        split
        · simp only [sumL_append, sumL, ih]; omega
        · exact ih
  have := key 10
  rw [if_pos hi] at this
  exact this

theorem now_zero (js : List (Int × Int)) : nowS js 0 = 0 := by
  have : ∀ m, listS' 0 m = [] := by
    intro m
    induction m with
    | zero => rfl
    | succ m ih => simp [listS', ih]
  unfold nowS
  rw [this]; rfl

/-- The least so far of the jobs that are ready. -/
def bstep (bs : List Nat) (js : List (Int × Int)) (s : Nat) (g : Nat → Int) : Nat → Int
  | 0 => -1
  | i + 1 => if rdyS bs s i = true then (if bstep bs js s g i < 0 ∨ weiJ js i * (nowS js s + lenJ js i) + g i < bstep bs js s g i then weiJ js i * (nowS js s + lenJ js i) + g i else bstep bs js s g i) else bstep bs js s g i

theorem bstep_congr {bs : List Nat} {js : List (Int × Int)} {s : Nat} {g g' : Nat → Int} : ∀ {m : Nat}, (∀ i, i < m → rdyS bs s i = true → g i = g' i) → bstep bs js s g m = bstep bs js s g' m
  | 0, _ => rfl
  | m + 1, h => by
    have ih := bstep_congr (bs := bs) (js := js) (s := s) (g := g) (g' := g') (m := m) fun i hi => h i (by omega)
    simp only [bstep, ih]
    split
    · rename_i hr
      rw [h m (by omega) hr]
    · rfl

def minC (bs : List Nat) (js : List (Int × Int)) (n : Nat) : Nat → Nat → Int
  | 0, _ => 0
  | f + 1, s => if s = fullS n then 0 else bstep bs js s (fun i => minC bs js n f (s ||| 2 ^ i)) n

theorem minC_more (bs : List Nat) (js : List (Int × Int)) (n : Nat) : ∀ (f s : Nat), s < 2 ^ n → fullS n - s ≤ f → minC bs js n (f + 1) s = minC bs js n f s
  | 0, s, hs, hf => by
    have : s = fullS n := by unfold fullS at *; omega
    simp [minC, this]
  | f + 1, s, hs, hf => by
    by_cases he : s = fullS n
    · simp [minC, he]
    · rw [minC, minC, if_neg he, if_neg he]
      refine bstep_congr fun i hi hr => ?_
      have h1 := lt_or_pow (rdyS_bit hr)
      exact minC_more bs js n f _ (or_lt hs hi) (by unfold fullS at *; omega)

def minS (bs : List Nat) (js : List (Int × Int)) (n s : Nat) : Int := minC bs js n (fullS n) s

theorem minC_eq (bs : List Nat) (js : List (Int × Int)) (n : Nat) {s : Nat} (hs : s < 2 ^ n) {f : Nat} (h1 : fullS n - s ≤ f) (h2 : f ≤ fullS n) : minC bs js n f s = minS bs js n s := by
  unfold minS
  obtain ⟨d, hd⟩ : ∃ d, fullS n = f + d := ⟨fullS n - f, by omega⟩
  have key : ∀ d, minC bs js n (f + d) s = minC bs js n f s := by
    intro d
    induction d with
    | zero => rfl
    | succ d ih => rw [show f + (d + 1) = f + d + 1 by omega, minC_more bs js n (f + d) s hs (by omega), ih]
  rw [hd]
  exact (key d).symm

theorem minS_full (bs : List Nat) (js : List (Int × Int)) (n : Nat) : minS bs js n (fullS n) = 0 := by
  unfold minS
  cases h : fullS n with
  | zero => rfl
  | succ f => rw [minC, if_pos h.symm]

theorem minS_rec (bs : List Nat) (js : List (Int × Int)) (n : Nat) {s : Nat} (hs : s < fullS n) : minS bs js n s = bstep bs js s (fun i => minS bs js n (s ||| 2 ^ i)) n := by
  have hs2 : s < 2 ^ n := by unfold fullS at hs; omega
  obtain ⟨f, hf⟩ : ∃ f, fullS n = f + 1 := ⟨fullS n - 1, by omega⟩
  conv => lhs; unfold minS; rw [hf, minC, if_neg (by omega)]
  refine bstep_congr fun i hi hr => ?_
  have h1 := lt_or_pow (rdyS_bit hr)
  exact minC_eq bs js n (or_lt hs2 hi) (by omega) (by omega)

/-- Small jobs. -/
def smallF (js : List (Int × Int)) : Prop := ∀ i, (0 ≤ lenJ js i ∧ lenJ js i ≤ 50) ∧ 0 ≤ weiJ js i ∧ weiJ js i ≤ 50

theorem now_bound {js : List (Int × Int)} (h : smallF js) (s : Nat) : 0 ≤ nowS js s ∧ nowS js s ≤ 500 := by
  have key : ∀ m, 0 ≤ sumL (listS' s m) (lenJ js) ∧ sumL (listS' s m) (lenJ js) ≤ 50 * m := by
    intro m
    induction m with
    | zero => simp [listS', sumL]
    | succ m ih =>
      have := h m
      simp only [listS']
      split
      · simp only [sumL_append, sumL]; omega
      · omega
  have := key 10
  unfold nowS
  omega

theorem c_bound {js : List (Int × Int)} (h : smallF js) (s i : Nat) : 0 ≤ weiJ js i * (nowS js s + lenJ js i) ∧ weiJ js i * (nowS js s + lenJ js i) ≤ 27500 := by
  have h1 := h i
  have h2 := now_bound h s
  have hm1 : 0 ≤ weiJ js i * (nowS js s + lenJ js i) := Int.mul_nonneg h1.2.1 (by omega)
  have hm2 : weiJ js i * (nowS js s + lenJ js i) ≤ 50 * 550 := Int.mul_le_mul h1.2.2 (by omega) (by omega) (by omega)
  omega

/-- What the rounds find. -/
theorem bstep_spec {bs : List Nat} {js : List (Int × Int)} (h : smallF js) {s : Nat} {g : Nat → Int} : ∀ {m : Nat}, (∀ i, i < m → rdyS bs s i = true → 0 ≤ g i) →
    (bstep bs js s g m = -1 ∧ ∀ i, i < m → rdyS bs s i = false) ∨ (0 ≤ bstep bs js s g m ∧ (∃ i, i < m ∧ rdyS bs s i = true ∧ bstep bs js s g m = weiJ js i * (nowS js s + lenJ js i) + g i) ∧ ∀ i, i < m → rdyS bs s i = true → bstep bs js s g m ≤ weiJ js i * (nowS js s + lenJ js i) + g i)
  | 0, _ => .inl ⟨rfl, fun i hi => by omega⟩
  | m + 1, hg => by
    have hc := (c_bound h s m).1
    have ih := bstep_spec h (bs := bs) (s := s) (g := g) (m := m) fun i hi => hg i (by omega)
    by_cases hr : rdyS bs s m = true
    · have hgm := hg m (by omega) hr
      simp only [bstep, hr, if_true]
      rcases ih with ⟨e, hno⟩ | ⟨h0, ⟨j, j1, j2, j3⟩, hle⟩
      · rw [e, if_pos (.inl (by omega))]
        refine .inr ⟨by omega, ⟨m, by omega, hr, rfl⟩, fun i hi hri => ?_⟩
        by_cases him : i = m
        · subst him; exact Int.le_refl _
        · rw [hno i (by omega)] at hri; cases hri
      · by_cases hlt : weiJ js m * (nowS js s + lenJ js m) + g m < bstep bs js s g m
        · rw [if_pos (.inr hlt)]
          refine .inr ⟨by omega, ⟨m, by omega, hr, rfl⟩, fun i hi hri => ?_⟩
          by_cases him : i = m
          · subst him; exact Int.le_refl _
          · have := hle i (by omega) hri; omega
        · rw [if_neg (by omega)]
          refine .inr ⟨h0, ⟨j, by omega, j2, j3⟩, fun i hi hri => ?_⟩
          by_cases him : i = m
          · subst him; omega
          · exact hle i (by omega) hri
    · have hr' : rdyS bs s m = false := by simpa using hr
      simp only [bstep, hr']
      simp only [Bool.false_eq_true, if_false]
      rcases ih with ⟨e, hno⟩ | ⟨h0, ⟨j, j1, j2, j3⟩, hle⟩
      · refine .inl ⟨e, fun i hi => ?_⟩
        by_cases him : i = m
        · subst him; exact hr'
        · exact hno i (by omega)
      · refine .inr ⟨h0, ⟨j, by omega, j2, j3⟩, fun i hi hri => ?_⟩
        by_cases him : i = m
        · subst him; rw [hr'] at hri; cases hri
        · exact hle i (by omega) hri

/-- A job is ready as long as some are left: what comes before has a lower number. -/
def goesUp (bs : List Nat) (n : Nat) : Prop := ∀ i, i < n → ∀ j, (bs.getD i 0).testBit j = true → j < i

theorem some_ready {bs : List Nat} {n s : Nat} (hu : goesUp bs n) (hs : s < fullS n) : ∃ i, i < n ∧ rdyS bs s i = true := by
  have hex : ∃ i, i < n ∧ s.testBit i = false := by
    apply Classical.byContradiction
    intro hno
    have : fullS n ≤ s := by
      apply Classical.byContradiction
      intro _
      have he : s = fullS n := by
        apply Nat.eq_of_testBit_eq
        intro j
        have e1 : (fullS n).testBit j = decide (j < n) := Nat.testBit_two_pow_sub_one n j
        rw [e1]
        by_cases hj : j < n
        · rw [decide_eq_true hj]
          cases ht : s.testBit j with
          | true => rfl
          | false => exact absurd ⟨j, hj, ht⟩ hno
        · rw [decide_eq_false hj]
          exact Nat.testBit_lt_two_pow (Nat.lt_of_lt_of_le (show s < 2 ^ n by unfold fullS at hs; omega) (Nat.pow_le_pow_right (by decide) (by omega)))
      omega
    omega
  -- the least one
  have key : ∀ k, (∃ i, i < k ∧ i < n ∧ s.testBit i = false) → ∃ i, i < n ∧ rdyS bs s i = true := by
    intro k
    induction k with
    | zero => rintro ⟨i, hi, _⟩; omega
    | succ k ih =>
      rintro ⟨i, hi, hn, hb⟩
      by_cases hlow : ∃ i, i < k ∧ i < n ∧ s.testBit i = false
      · exact ih hlow
      · refine ⟨i, hn, ?_⟩
        unfold rdyS
        rw [hb, Bool.not_false, Bool.true_and, subB_iff]
        intro j hj
        have hji := hu i hn j hj
        cases ht : s.testBit j with
        | true => rfl
        | false => exact absurd ⟨j, by omega, by omega, ht⟩ hlow
  obtain ⟨i, hi, hb⟩ := hex
  exact key (i + 1) ⟨i, by omega, hi, hb⟩

theorem minC_bound {bs : List Nat} {js : List (Int × Int)} (h : smallF js) {n : Nat} (hu : goesUp bs n) : ∀ (f s : Nat), s < 2 ^ n → 0 ≤ minC bs js n f s ∧ minC bs js n f s ≤ 27500 * f
  | 0, s, hs => by simp [minC]
  | f + 1, s, hs => by
    rw [minC]
    by_cases he : s = fullS n
    · rw [if_pos he]; omega
    · rw [if_neg he]
      have hsf : s < fullS n := by unfold fullS at *; omega
      have ih : ∀ i, i < n → 0 ≤ minC bs js n f (s ||| 2 ^ i) ∧ minC bs js n f (s ||| 2 ^ i) ≤ 27500 * f := fun i hi => minC_bound h hu f _ (or_lt hs hi)
      rcases bstep_spec h (bs := bs) (s := s) (g := fun i => minC bs js n f (s ||| 2 ^ i)) (m := n) (fun i hi _ => (ih i hi).1) with ⟨_, hno⟩ | ⟨h0, ⟨j, j1, j2, j3⟩, _⟩
      · obtain ⟨i, hi, hr⟩ := some_ready hu hsf
        rw [hno i hi] at hr; cases hr
      · refine ⟨h0, ?_⟩
        rw [j3]
        have h1 := c_bound h s j
        have h2 := ih j j1
        omega

theorem minS_bound {bs : List Nat} {js : List (Int × Int)} (h : smallF js) {n : Nat} (hn : n ≤ 10) (hu : goesUp bs n) {s : Nat} (hs : s < 2 ^ n) : 0 ≤ minS bs js n s ∧ minS bs js n s ≤ 30000000 := by
  have := minC_bound h hu (fullS n) s hs
  have h2n : (2 : Nat) ^ n ≤ 2 ^ 10 := Nat.pow_le_pow_right (by decide) hn
  have : fullS n ≤ 1023 := by unfold fullS; omega
  unfold minS
  omega

/-- What the least is reached by, and below what it is. -/
theorem minS_spec {bs : List Nat} {js : List (Int × Int)} (h : smallF js) {n : Nat} (hn : n ≤ 10) (hu : goesUp bs n) {s : Nat} (hs : s < fullS n) :
    (∃ i, i < n ∧ rdyS bs s i = true ∧ minS bs js n s = weiJ js i * (nowS js s + lenJ js i) + minS bs js n (s ||| 2 ^ i)) ∧ ∀ i, i < n → rdyS bs s i = true → minS bs js n s ≤ weiJ js i * (nowS js s + lenJ js i) + minS bs js n (s ||| 2 ^ i) := by
  have hs2 : s < 2 ^ n := by unfold fullS at hs; omega
  rw [minS_rec bs js n hs]
  rcases bstep_spec h (bs := bs) (s := s) (g := fun i => minS bs js n (s ||| 2 ^ i)) (m := n) (fun i hi _ => (minS_bound h hn hu (or_lt hs2 hi)).1) with ⟨_, hno⟩ | ⟨_, b, c⟩
  · obtain ⟨i, hi, hr⟩ := some_ready hu hs
    rw [hno i hi] at hr; cases hr
  · exact ⟨b, c⟩

/-- No order is below the least. -/
theorem minS_le {bs : List Nat} {js : List (Int × Int)} (h : smallF js) {n : Nat} (hn : n ≤ 10) (hu : goesUp bs n) : ∀ {l : List Nat} {s : Nat}, s < 2 ^ n → okO bs n s l = true → stO s l = fullS n → minS bs js n s ≤ costF js (nowS js s) l
  | [], s, hs, _, he => by
    have he' : s = fullS n := he
    rw [he', minS_full]
    exact Int.le_refl _
  | i :: l, s, hs, hok, he => by
    simp only [okO, Bool.and_eq_true, decide_eq_true_eq] at hok
    obtain ⟨⟨hi, hr⟩, hrest⟩ := hok
    have h1 := lt_or_pow (rdyS_bit hr)
    have h2 := or_lt hs hi
    have hsf : s < fullS n := by unfold fullS; omega
    have h3 := (minS_spec h hn hu hsf).2 i hi hr
    have ih := minS_le h hn hu (l := l) h2 hrest he
    rw [now_step js (by omega) (rdyS_bit hr)] at ih
    simp only [costF]
    omega

end Go.Sim

/-
  Orders of a seam's letters: what is left of a seam after a set of its places.
-/
namespace Go.Sim

theorem firstAt_iff {fr : UInt8 → UInt8 → Bool} {x : UInt8} (hx : fr x x = false) : ∀ {w : List UInt8} {k0 k : Nat}, firstAt fr x w k0 = some (k0 + k) ↔ w[k]? = some x ∧ ∀ j c, j < k → w[j]? = some c → fr c x = true
  | [], k0, k => by simp [firstAt]
  | c :: w, k0, k => by
    simp only [firstAt]
    by_cases hc : c = x
    · subst hc
      rw [if_pos rfl]
      constructor
      · intro h
        have : k = 0 := by injection h with h; omega
        subst this
        exact ⟨rfl, fun j d hj => by omega⟩
      · rintro ⟨h1, h2⟩
        cases k with
        | zero => rfl
        | succ k => have := h2 0 c (by omega) rfl; rw [hx] at this; cases this
    · rw [if_neg hc]
      by_cases hf : fr c x = true
      · rw [if_pos hf]
        cases k with
        | zero =>
          constructor
          · intro h
            have := (firstAt_ge h).1
            omega
          · rintro ⟨h1, _⟩
            simp at h1
            exact absurd h1 hc
        | succ k =>
          rw [show k0 + (k + 1) = k0 + 1 + k by omega, firstAt_iff hx]
          constructor
          · rintro ⟨h1, h2⟩
            refine ⟨by simpa using h1, fun j d hj hd => ?_⟩
            cases j with
            | zero => simp at hd; subst hd; exact hf
            | succ j => exact h2 j d (by omega) (by simpa using hd)
          · rintro ⟨h1, h2⟩
            exact ⟨by simpa using h1, fun j d hj hd => h2 (j + 1) d (by omega) (by simpa using hd)⟩
      · rw [if_neg hf]
        constructor
        · intro h; cases h
        · rintro ⟨h1, h2⟩
          cases k with
          | zero => simp at h1; exact absurd h1 hc
          | succ k => exact absurd (h2 0 c (by omega) rfl) hf

/-- A place whose letter commutes with all before it. -/
def isF (fr : UInt8 → UInt8 → Bool) (w : List UInt8) (k : Nat) : Bool := (List.range k).all fun j => fr (w.getD j 0) (w.getD k 0)

theorem isF_iff {fr : UInt8 → UInt8 → Bool} {w : List UInt8} {k : Nat} : isF fr w k = true ↔ ∀ j, j < k → fr (w.getD j 0) (w.getD k 0) = true := by
  simp [isF]

theorem getD_of {w : List UInt8} {k : Nat} {c : UInt8} (h : w[k]? = some c) : w.getD k 0 = c := by simp [List.getD_eq_getElem?_getD, h]

theorem firstAt_isF {fr : UInt8 → UInt8 → Bool} {x : UInt8} (hx : fr x x = false) {w : List UInt8} {k : Nat} : firstAt fr x w 0 = some k ↔ k < w.length ∧ w.getD k 0 = x ∧ isF fr w k = true := by
  have := firstAt_iff (fr := fr) hx (w := w) (k0 := 0) (k := k)
  rw [Nat.zero_add] at this
  rw [this, isF_iff]
  constructor
  · rintro ⟨h1, h2⟩
    have hk := (List.getElem?_eq_some_iff.1 h1).1
    refine ⟨hk, getD_of h1, fun j hj => ?_⟩
    rw [getD_of h1]
    have hjl : j < w.length := by omega
    have e : w.getD j 0 = w[j] := getD_of (List.getElem?_eq_getElem hjl)
    rw [e]
    exact h2 j _ hj (List.getElem?_eq_getElem hjl)
  · rintro ⟨h1, h2, h3⟩
    have e : w[k]? = some x := by
      rw [List.getElem?_eq_getElem h1, ← h2, getD_of (List.getElem?_eq_getElem h1)]
    refine ⟨e, fun j c hj hc => ?_⟩
    have := h3 j hj
    rw [h2, getD_of hc] at this
    exact this

theorem rsum_comm (f : Nat → Nat → Int) (n : Nat) : ∀ m, rsum m (fun a => rsum n fun k => f a k) = rsum n fun k => rsum m fun a => f a k
  | 0 => (rsum_zero n).symm
  | m + 1 => by
    simp only [rsum, rsum_comm f n m]
    exact rsum_plus _ _ n

/-- The letters that can come first, or the places. -/
theorem first_sum {fr : UInt8 → UInt8 → Bool} {w : List UInt8} (hw : letters 6 w) (hself : ∀ a, a < 6 → fr (lt a) (lt a) = false) (F : Nat → Int) :
    rsum 6 (fun a => match firstAt fr (lt a) w 0 with | some i => F i | none => 0) = rsum w.length fun k => if isF fr w k = true then F k else 0 := by
  have h1 : ∀ a, a < 6 → (match firstAt fr (lt a) w 0 with | some i => F i | none => 0) = rsum w.length fun k => if w.getD k 0 = lt a ∧ isF fr w k = true then F k else 0 := by
    intro a ha
    cases hc : firstAt fr (lt a) w 0 with
    | some i =>
      have hi := (firstAt_isF (hself a ha)).1 hc
      have e : rsum w.length (fun k => if w.getD k 0 = lt a ∧ isF fr w k = true then F k else 0) = rsum w.length fun k => if i = k then F k else 0 := by
        refine rsum_congr fun k hk => ?_
        by_cases hik : i = k
        · subst hik
          rw [if_pos hi.2, if_pos rfl]
        · rw [if_neg hik, if_neg]
          rintro h2
          have := (firstAt_isF (hself a ha)).2 ⟨hk, h2⟩
          rw [hc] at this
          injection this with this
          exact hik this
      rw [e, rsum_one, if_pos hi.1]
    | none =>
      have e : rsum w.length (fun k => if w.getD k 0 = lt a ∧ isF fr w k = true then F k else 0) = rsum w.length fun _ => 0 := by
        refine rsum_congr fun k hk => ?_
        rw [if_neg]
        intro h2
        have := (firstAt_isF (hself a ha)).2 ⟨hk, h2⟩
        rw [hc] at this
        cases this
      rw [e, rsum_zero]
  rw [rsum_congr h1, rsum_comm]
  refine rsum_congr fun k hk => ?_
  obtain ⟨a0, ha0, e0⟩ := hw _ (List.getElem_mem hk)
  have e1 : w.getD k 0 = lt a0 := by rw [getD_of (List.getElem?_eq_getElem hk), e0]
  have e2 : rsum 6 (fun a => if w.getD k 0 = lt a ∧ isF fr w k = true then F k else 0) = rsum 6 fun a => if a0 = a then (if isF fr w k = true then F k else 0) else 0 := by
    refine rsum_congr fun a ha => ?_
    by_cases haa : a0 = a
    · subst haa
      rw [if_pos rfl]
      by_cases hf : isF fr w k = true
      · rw [if_pos ⟨e1, hf⟩, if_pos hf]
      · rw [if_neg fun h => hf h.2, if_neg hf]
    · rw [if_neg haa, if_neg]
      rintro ⟨h3, _⟩
      rw [e1] at h3
      exact haa (lt_inj (by omega) (by omega) h3)
  rw [e2, rsum_one, if_pos ha0]

/-! ### Places that are left -/

def posR (n S : Nat) : List Nat := (List.range n).filter fun i => !S.testBit i
def remS (s : List UInt8) (S : Nat) : List UInt8 := (posR s.length S).map fun i => s.getD i 0

theorem posR_mem {n S i : Nat} : i ∈ posR n S ↔ i < n ∧ S.testBit i = false := by simp [posR]
theorem posR_sorted (n S : Nat) : (posR n S).Pairwise (· < ·) := List.pairwise_lt_range.filter _

theorem posR_step {n S i : Nat} : posR n (S ||| 2 ^ i) = (posR n S).filter fun j => decide (j ≠ i) := by
  unfold posR
  rw [List.filter_filter]
  refine List.filter_congr fun j _ => ?_
  rw [testBit_or_pow]
  by_cases h : i = j
  · subst h; simp
  · have h2 : ¬ j = i := fun h3 => h h3.symm
    simp [h, h2]

theorem filter_ne {l : List Nat} (hs : l.Pairwise (· < ·)) {k : Nat} (hk : k < l.length) : l.filter (fun j => decide (j ≠ l[k])) = l.take k ++ l.drop (k + 1) := by
  have e : l = l.take k ++ (l[k] :: l.drop (k + 1)) := by rw [← List.drop_eq_getElem_cons hk, List.take_append_drop]
  have hp := hs
  rw [e] at hp
  rw [List.pairwise_append] at hp
  obtain ⟨_, p2, p3⟩ := hp
  rw [List.pairwise_cons] at p2
  have h1 : (l.take k).filter (fun j => decide (j ≠ l[k])) = l.take k := by
    rw [List.filter_eq_self]
    intro a ha
    have := p3 a ha l[k] List.mem_cons_self
    simp; omega
  have h2 : (l.drop (k + 1)).filter (fun j => decide (j ≠ l[k])) = l.drop (k + 1) := by
    rw [List.filter_eq_self]
    intro a ha
    have := p2.1 a ha
    simp; omega
  have h3 : ∀ x, x = l[k] → l.filter (fun j => decide (j ≠ x)) = l.take k ++ l.drop (k + 1) := by
    intro x hx
    rw [e, List.filter_append, List.filter_cons]
    rw [hx, h1, h2]
    simp
  exact h3 _ rfl

theorem remS_step {s : List UInt8} {S k : Nat} (hk : k < (posR s.length S).length) : remS s (S ||| 2 ^ (posR s.length S)[k]) = without (remS s S) k := by
  unfold remS without
  rw [posR_step, filter_ne (posR_sorted _ _) hk, List.map_append, List.map_take, List.map_drop]

theorem remS_length (s : List UInt8) (S : Nat) : (remS s S).length = (posR s.length S).length := by simp [remS]

theorem remS_letters {s : List UInt8} (hs : letters 6 s) (S : Nat) : letters 6 (remS s S) := by
  intro c hc
  unfold remS at hc
  obtain ⟨i, hi, rfl⟩ := List.mem_map.1 hc
  have hi := (posR_mem.1 hi).1
  rw [getD_of (List.getElem?_eq_getElem hi)]
  exact hs _ (List.getElem_mem hi)

theorem remS_zero (s : List UInt8) : remS s 0 = s := by
  have e : posR s.length 0 = List.range s.length := by
    unfold posR
    rw [List.filter_eq_self]
    simp
  unfold remS
  rw [e]
  apply List.ext_getElem
  · simp
  · intro i h1 h2
    simp [List.getD_eq_getElem?_getD, h2]

theorem remS_full {s : List UInt8} {S : Nat} (h : S < 2 ^ s.length) : remS s S = [] ↔ S = fullS s.length := by
  have e1 : ∀ j, (fullS s.length).testBit j = decide (j < s.length) := fun j => Nat.testBit_two_pow_sub_one _ j
  constructor
  · intro h1
    have h2 : posR s.length S = [] := by unfold remS at h1; exact List.map_eq_nil_iff.1 h1
    apply Nat.eq_of_testBit_eq
    intro j
    rw [e1]
    by_cases hj : j < s.length
    · rw [decide_eq_true hj]
      cases ht : S.testBit j with
      | true => rfl
      | false =>
        have : j ∈ posR s.length S := posR_mem.2 ⟨hj, ht⟩
        rw [h2] at this
        cases this
    · rw [decide_eq_false hj]
      exact Nat.testBit_lt_two_pow (Nat.lt_of_lt_of_le h (Nat.pow_le_pow_right (by decide) (by omega)))
  · rintro rfl
    unfold remS
    rw [List.map_eq_nil_iff]
    unfold posR
    rw [List.filter_eq_nil_iff]
    intro i hi
    rw [e1]
    have := List.mem_range.1 hi
    simp [this]

/-- Each letter waits for those before it with which it does not commute. -/
def waits (fr : UInt8 → UInt8 → Bool) (s : List UInt8) (bs : List Nat) : Prop := ∀ i, i < s.length → ∀ j, (bs.getD i 0).testBit j = (decide (j < i) && !fr (s.getD j 0) (s.getD i 0))

theorem rdy_isF {fr : UInt8 → UInt8 → Bool} {s : List UInt8} {bs : List Nat} (hw : waits fr s bs) {S k : Nat} (hk : k < (posR s.length S).length) : rdyS bs S (posR s.length S)[k] = isF fr (remS s S) k := by
  have hm := posR_mem.1 (List.getElem_mem hk)
  have hso := List.pairwise_iff_getElem.1 (posR_sorted s.length S)
  have hg : ∀ j, j < (posR s.length S).length → (remS s S).getD j 0 = s.getD ((posR s.length S).getD j 0) 0 := by
    intro j hj
    unfold remS
    simp [List.getD_eq_getElem?_getD, hj]
  have hgd : ∀ j (hj : j < (posR s.length S).length), (posR s.length S).getD j 0 = (posR s.length S)[j] := by
    intro j hj; simp [List.getD_eq_getElem?_getD, hj]
  rw [Bool.eq_iff_iff, isF_iff]
  unfold rdyS
  rw [hm.2, Bool.not_false, Bool.true_and, subB_iff, hg k hk, hgd k hk]
  constructor
  · intro h j hj
    have hjl : j < (posR s.length S).length := by omega
    rw [hg j hjl, hgd j hjl]
    have h1 := hso j k hjl hk hj
    have h2 := (posR_mem.1 (List.getElem_mem hjl)).2
    cases hc : fr (s.getD (posR s.length S)[j] 0) (s.getD (posR s.length S)[k] 0) with
    | true => rfl
    | false =>
      have := h (posR s.length S)[j] (by rw [hw _ hm.1, hc, decide_eq_true h1]; rfl)
      rw [h2] at this
      cases this
  · intro h j hj
    rw [hw _ hm.1, Bool.and_eq_true, decide_eq_true_eq] at hj
    cases ht : S.testBit j with
    | true => rfl
    | false =>
      have hmem : j ∈ posR s.length S := posR_mem.2 ⟨by omega, ht⟩
      obtain ⟨j', hj', e⟩ := List.mem_iff_getElem.1 hmem
      have hlt : j' < k := by
        apply Classical.byContradiction
        intro hge
        by_cases heq : j' = k
        · subst heq; omega
        · have := hso k j' hk hj' (by omega)
          omega
      have := h j' hlt
      rw [hg j' hj', hgd j' hj', e] at this
      rw [this] at hj
      cases hj.2

theorem rsum_list (H : Nat → Int) : ∀ R : List Nat, rsum R.length (fun k => H (R.getD k 0)) = sumL R H
  | [] => rfl
  | r :: R => by
    rw [List.length_cons, Nat.add_comm, rsum_add]
    simp only [sumL, ← rsum_list H R]
    have : rsum 1 (fun k => H ((r :: R).getD k 0)) = H r := by simp [rsum]
    rw [this]
    congr 1
    refine rsum_congr fun i _ => ?_
    rw [Nat.add_comm]; simp

theorem sumL_range (H : Nat → Int) : ∀ n, sumL (List.range n) H = rsum n H
  | 0 => rfl
  | n + 1 => by rw [List.range_succ, sumL_append, sumL_range H n]; simp [sumL, rsum]

/-- All that are ready, over places or over what is left. -/
theorem ready_sum {fr : UInt8 → UInt8 → Bool} {s : List UInt8} {bs : List Nat} (hw : waits fr s bs) (S : Nat) (G : Nat → Int) :
    rsum s.length (fun i => if rdyS bs S i = true then G i else 0) = rsum (remS s S).length fun k => if isF fr (remS s S) k = true then G ((posR s.length S).getD k 0) else 0 := by
  have e1 : rsum s.length (fun i => if rdyS bs S i = true then G i else 0) = rsum s.length fun i => if (!S.testBit i) = true then (if rdyS bs S i = true then G i else 0) else 0 := by
    refine rsum_congr fun i _ => ?_
    by_cases hr : rdyS bs S i = true
    · rw [if_pos hr, rdyS_bit hr]; rfl
    · rw [if_neg hr]; split <;> rfl
  rw [e1, ← sumL_range, ← sumL_filter]
  show sumL (posR s.length S) _ = _
  rw [← rsum_list, remS_length]
  refine rsum_congr fun k hk => ?_
  have e : (posR s.length S).getD k 0 = (posR s.length S)[k] := by simp [List.getD_eq_getElem?_getD, hk]
  rw [e, rdy_isF hw hk]

theorem stO_bit : ∀ (l : List Nat) (S j : Nat), (stO S l).testBit j = (S.testBit j || decide (j ∈ l))
  | [], S, j => by simp [stO]
  | i :: l, S, j => by
    simp only [stO, stO_bit l, testBit_or_pow, List.mem_cons]
    by_cases h : i = j
    · subst h; simp
    · have : ¬ j = i := fun h2 => h h2.symm
      simp [h, this]

/-- An order, read as letters, is an equal seam. -/
theorem order_eqv {fr : UInt8 → UInt8 → Bool} (hs : ∀ a b, fr a b = fr b a) (hself : ∀ a, a < 6 → fr (lt a) (lt a) = false) {s : List UInt8} (ls : letters 6 s) {bs : List Nat} (hw : waits fr s bs) :
    ∀ {l : List Nat} {S : Nat}, S < 2 ^ s.length → okO bs s.length S l = true → stO S l = fullS s.length → eqv fr 6 (l.map fun i => s.getD i 0) (remS s S)
  | [], S, h1, _, h3 => by
    have : remS s S = [] := (remS_full h1).2 h3
    rw [this]
    exact eqv.refl _ _ _
  | i :: l, S, h1, h2, h3 => by
    simp only [okO, Bool.and_eq_true, decide_eq_true_eq] at h2
    have hmem : i ∈ posR s.length S := posR_mem.2 ⟨h2.1.1, rdyS_bit h2.1.2⟩
    obtain ⟨k, hk, e⟩ := List.mem_iff_getElem.1 hmem
    have hf := rdy_isF hw hk
    rw [e, h2.1.2] at hf
    have hx : (remS s S).getD k 0 = s.getD i 0 := by
      rw [← e]; unfold remS; simp [List.getD_eq_getElem?_getD, hk]
    obtain ⟨a, ha, ea⟩ : ∃ a, a < 6 ∧ s.getD i 0 = lt a := by
      rw [getD_of (List.getElem?_eq_getElem h2.1.1)]
      exact ls _ (List.getElem_mem h2.1.1)
    have hfa : firstAt fr (s.getD i 0) (remS s S) 0 = some k := (firstAt_isF (by rw [ea]; exact hself a ha)).2 ⟨by rw [remS_length]; exact hk, hx, hf.symm⟩
    have ih := order_eqv hs hself ls hw (l := l) (S := S ||| 2 ^ i) (or_lt h1 h2.1.1) h2.2 h3
    have hst := remS_step hk
    rw [e] at hst
    rw [hst] at ih
    exact (eqv.cons _ ih).trans (eqv_front hs hfa)

/-- What comes after all that it waits for is an order. -/
theorem okO_of {bs : List Nat} {n : Nat} : ∀ {l : List Nat} {S : Nat}, (∀ i ∈ l, i < n ∧ S.testBit i = false) → l.Nodup → l.Pairwise (fun a b => (bs.getD a 0).testBit b = false) → (∀ i ∈ l, ∀ j, (bs.getD i 0).testBit j = true → j ≠ i ∧ (S.testBit j = true ∨ j ∈ l)) → okO bs n S l = true
  | [], S, _, _, _, _ => rfl
  | i :: l, S, h1, h2, h3, h4 => by
    rw [List.nodup_cons] at h2
    rw [List.pairwise_cons] at h3
    have hi := h1 i (by simp)
    simp only [okO, Bool.and_eq_true, decide_eq_true_eq]
    refine ⟨⟨hi.1, ?_⟩, ?_⟩
    · unfold rdyS
      rw [hi.2, Bool.not_false, Bool.true_and, subB_iff]
      intro j hj
      obtain ⟨h5, h6⟩ := h4 i (by simp) j hj
      rcases h6 with h6 | h6
      · exact h6
      · rcases List.mem_cons.1 h6 with h6 | h6
        · exact absurd h6 h5
        · rw [h3.1 j h6] at hj; cases hj
    · refine okO_of (fun q hq => ⟨(h1 q (by simp [hq])).1, ?_⟩) h2.2 h3.2 (fun q hq j hj => ?_)
      · rw [testBit_or_pow, (h1 q (by simp [hq])).2]
        have : i ≠ q := fun h9 => h2.1 (h9 ▸ hq)
        simp [this]
      · obtain ⟨h5, h6⟩ := h4 q (by simp [hq]) j hj
        refine ⟨h5, ?_⟩
        rw [testBit_or_pow]
        rcases h6 with h6 | h6
        · exact .inl (by rw [h6]; rfl)
        · rcases List.mem_cons.1 h6 with h6 | h6
          · exact .inl (by subst h6; simp)
          · exact .inr h6

/-- By steps, and in a step by number. -/
def stepO (hs : List Int) (n : Nat) : Nat → List Nat
  | 0 => []
  | m + 1 => stepO hs n m ++ (List.range n).filter fun q => decide (hs.getD q 0 = (m : Int) + 1)

theorem stepO_mem {hs : List Int} {n q : Nat} : ∀ {m : Nat}, q ∈ stepO hs n m ↔ q < n ∧ 1 ≤ hs.getD q 0 ∧ hs.getD q 0 ≤ m
  | 0 => by
    constructor
    · intro h; cases h
    · rintro ⟨_, h1, h2⟩; omega
  | m + 1 => by
    rw [stepO, List.mem_append, stepO_mem (m := m), List.mem_filter, List.mem_range, decide_eq_true_eq]
    constructor
    · rintro (h | h) <;> omega
    · rintro ⟨h1, h2, h3⟩
      by_cases h : hs.getD q 0 = (m : Int) + 1
      · exact .inr ⟨h1, h⟩
      · exact .inl ⟨h1, h2, by omega⟩

theorem stepO_sorted (hs : List Int) (n : Nat) : ∀ m, (stepO hs n m).Pairwise fun a b => hs.getD a 0 < hs.getD b 0 ∨ (hs.getD a 0 = hs.getD b 0 ∧ a < b)
  | 0 => List.Pairwise.nil
  | m + 1 => by
    rw [stepO, List.pairwise_append]
    refine ⟨stepO_sorted hs n m, ?_, fun a ha b hb => ?_⟩
    · refine List.Pairwise.imp_of_mem ?_ (List.pairwise_lt_range.filter _)
      intro a b ha hb hab
      have h1 := of_decide_eq_true (List.mem_filter.1 ha).2
      have h2 := of_decide_eq_true (List.mem_filter.1 hb).2
      exact .inr ⟨by rw [h1, h2], hab⟩
    · have h1 := (stepO_mem.1 ha).2.2
      have h2 := of_decide_eq_true (List.mem_filter.1 hb).2
      exact .inl (by omega)

/-- The steps in turn are an order. -/
theorem stepO_ok {bs : List Nat} {n : Nat} {hs : List Int} (h1 : ∀ q, q < n → 1 ≤ hs.getD q 0 ∧ hs.getD q 0 ≤ n) (h2 : ∀ i, i < n → ∀ j, (bs.getD i 0).testBit j = true → j < i ∧ hs.getD j 0 < hs.getD i 0) :
    okO bs n 0 (stepO hs n n) = true ∧ stO 0 (stepO hs n n) = fullS n := by
  have hlt : ∀ i ∈ stepO hs n n, i < n := fun i hi => (stepO_mem.1 hi).1
  constructor
  · refine okO_of (fun i hi => ⟨hlt i hi, by simp⟩) ?_ ?_ ?_
    · exact (stepO_sorted hs n n).imp fun {a b} h => by
        rintro rfl
        omega
    · refine List.Pairwise.imp_of_mem ?_ (stepO_sorted hs n n)
      intro a b ha hb h
      cases hc : (bs.getD a 0).testBit b with
      | false => rfl
      | true =>
        have := h2 a (hlt a ha) b hc
        omega
    · intro i hi j hj
      have := h2 i (hlt i hi) j hj
      have hjn : j < n := by have := hlt i hi; omega
      exact ⟨by omega, .inr (stepO_mem.2 ⟨hjn, h1 j hjn⟩)⟩
  · apply Nat.eq_of_testBit_eq
    intro j
    have e1 : (fullS n).testBit j = decide (j < n) := Nat.testBit_two_pow_sub_one _ j
    rw [stO_bit, e1]
    have : (j ∈ stepO hs n n) ↔ j < n := by
      rw [stepO_mem]
      exact ⟨fun h => h.1, fun h => ⟨h, h1 j h⟩⟩
    simp [this]

end Go.Sim
