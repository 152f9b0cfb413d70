/-
  The law S8: without pairs, and with all pairs.
-/
import Derived.Test.YtjdlcokhlphmhaaMg7
import Derived.Test.YtjdlcokhlphmhaaMg9
import Derived.Test.YtjdlcokhlphmhaaCtV
import Derived.Test.YtjdlcokhlphmhaaMg8
namespace Go.Proofs.Ytjdlcokhlphmhaa
open Go.Sim

def tri : Nat → Nat
  | 0 => 0
  | m + 1 => tri m + m

theorem tri_le {n : Nat} (h : n ≤ 6) : tri n ≤ 15 := by
  rcases (by omega : n = 0 ∨ n = 1 ∨ n = 2 ∨ n = 3 ∨ n = 4 ∨ n = 5 ∨ n = 6) with rfl | rfl | rfl | rfl | rfl | rfl | rfl <;> decide

theorem bit16 {b : Nat} (h : b ≤ 15) : ∃ z, iBin .shr (.int .u16 65535) (I b) = some (.int .u16 z) ∧ iBin .and (.int .u16 z) (.int .u16 1) = some (.int .u16 1) := by
  rcases (by omega : b = 0 ∨ b = 1 ∨ b = 2 ∨ b = 3 ∨ b = 4 ∨ b = 5 ∨ b = 6 ∨ b = 7 ∨ b = 8 ∨ b = 9 ∨ b = 10 ∨ b = 11 ∨ b = 12 ∨ b = 13 ∨ b = 14 ∨ b = 15) with rfl | rfl | rfl | rfl | rfl | rfl | rfl | rfl | rfl | rfl | rfl | rfl | rfl | rfl | rfl | rfl <;> exact ⟨_, rfl, rfl⟩

/-- With all bits, all pairs are made. -/
theorem C30a {kk : Nat} {h : Heap} {K : Value → Heap → Prop} (h1 : kk < 256)
    (hk : ∀ ps id hx, threadsOk ((kk % 6 + 1 : Nat) : Int) ps = true → (∀ a b : Nat, b < a → a < kk % 6 + 1 → ((a : Int), (b : Int)) ∈ ps) → EX h hx → hx[id]? = some (.arr 98 (pcells ps)) → K (.tuple #[I ((kk % 6 + 1 : Nat) : Int), sl 98 id 0 ps.length]) hx) :
    CallP Try.prog 30 [.agg #[.int .u8 kk, .int .u16 65535]] h K := by
  refine f30 ?_
  have e1 : iBox 54 h (.agg #[.int .u8 kk, .int .u16 65535]) = some (pt h.length 0, h ++ [.arr 54 [.int .u8 kk, .int .u16 65535]]) := rfl
  simp only [T30, e1, OH_some, fadr_pt, Nat.add_zero, OP_some]
  have l0 : iLoad false 1 (h ++ [.arr 54 [.int .u8 kk, .int .u16 65535]]) (pt h.length 0) = some (.int .u8 kk) := load_last rfl
  have l1 : iLoad false 1 (h ++ [.arr 54 [.int .u8 kk, .int .u16 65535]]) (pt h.length 1) = some (.int .u16 65535) := load_last rfl
  have x1 : EX h (h ++ [.arr 54 [.int .u8 kk, .int .u16 65535]]) := EX.append _ _
  generalize hh1 : h ++ [IObj.arr 54 [.int .u8 kk, .int .u16 65535]] = h1 at *
  simp only [l0, OP_some, conv_int]
  rw [wrap64 (by omega) (by omega), show (.int .i64 6 : Value) = .int .i64 ((6 : Nat) : Int) from rfl, rem_nat _ _ _ (by omega)]
  have hr : kk % 6 < 6 := Nat.mod_lt _ (by omega)
  simp only [OP_some, bin_add, inc (kk % 6) (by omega)]
  obtain ⟨n, hn⟩ : ∃ n, n = kk % 6 + 1 := ⟨_, rfl⟩
  rw [← hn] at hk ⊢
  have hn1 : 1 ≤ n := by omega
  have hn6 : n ≤ 6 := by omega
  have htri := tri_le hn6
  have e2 : iMkSl 98 0 [.int .i64 0, .int .i64 0] h1 [] = some (sl 98 h1.length 0 0, h1 ++ [.arr 98 []]) := rfl
  simp only [e2, OH_some]
  refine loopL (σ := List (Int × Int) × Nat × Nat × Nat × Heap) (fun s => [sl 98 s.2.1 0 s.1.length, I s.2.2.1, I s.2.2.2.1]) (fun s => s.2.2.2.2)
    (fun s => (∀ p ∈ s.1, 0 ≤ p.2 ∧ p.2 < p.1 ∧ p.1 < n) ∧ EX h1 s.2.2.2.2 ∧ h1.length ≤ s.2.1 ∧ s.2.2.2.2[s.2.1]? = some (.arr 98 (pcells s.1)) ∧ s.1.length ≤ s.2.2.1 ∧ s.2.2.2.1 ≤ n ∧ s.2.2.1 + tri (n - s.2.2.2.1) = tri n ∧ ∀ a b : Nat, b < a → a < n → b < s.2.2.2.1 → ((a : Int), (b : Int)) ∈ s.1) (fun s => n - s.2.2.2.1)
    ([], h1.length, 0, 0, h1 ++ [.arr 98 []]) rfl rfl ⟨fun p hp => by simp at hp, EX.append _ _, Nat.le_refl _, by simp [pcells], by simp, by simp, by simp, fun a b _ _ hb => by simp at hb⟩ ?_
  rintro ⟨ps, id, at_, i, hx⟩ ⟨hv, hex, hid, hg, hlen, hi, htr, hall⟩ L hL
  simp only at hv hex hid hg hlen hi htr hall hL ⊢
  rw [q30z6]
  simp only [bin_lss, OP_some, IfP_dec]
  refine ⟨fun hlt => ?_, fun hge => ?_⟩
  · simp only [bin_add, OP_some, inc i (by omega)]
    have htn : tri (n - i) = tri (n - i - 1) + (n - i - 1) := by
      obtain ⟨m, hm⟩ : ∃ m, n - i = m + 1 := ⟨n - i - 1, by omega⟩
      rw [hm]; rfl
    refine loopL (σ := List (Int × Int) × Nat × Nat × Nat × Heap) (fun s => [sl 98 s.2.1 0 s.1.length, I s.2.2.1, I s.2.2.2.1]) (fun s => s.2.2.2.2)
      (fun s => (∀ p ∈ s.1, 0 ≤ p.2 ∧ p.2 < p.1 ∧ p.1 < n) ∧ EX h1 s.2.2.2.2 ∧ h1.length ≤ s.2.1 ∧ s.2.2.2.2[s.2.1]? = some (.arr 98 (pcells s.1)) ∧ s.1.length ≤ s.2.2.1 ∧ i < s.2.2.2.1 ∧ s.2.2.2.1 ≤ n ∧ s.2.2.1 + (n - s.2.2.2.1) + tri (n - i - 1) = tri n ∧ (∀ a b : Nat, b < a → a < n → b < i → ((a : Int), (b : Int)) ∈ s.1) ∧ ∀ a : Nat, i < a → a < s.2.2.2.1 → ((a : Int), (i : Int)) ∈ s.1) (fun s => n - s.2.2.2.1)
      (ps, id, at_, i + 1, hx) rfl rfl ⟨hv, hex, hid, hg, hlen, by show i < i + 1; omega, by show i + 1 ≤ n; omega, by show at_ + (n - (i + 1)) + tri (n - i - 1) = tri n; omega, hall, fun a h2 h3 => by have : a < i + 1 := h3; omega⟩ ?_
    rintro ⟨qs, jd, bt, j, hy⟩ ⟨hv, hex, hid, hg, hlen, hij, hj, htr2, hall, hrow⟩ L2 hL2
    simp only at hv hex hid hg hlen hij hj htr2 hall hrow hL2 ⊢
    rw [q30z13]
    simp only [bin_lss, OP_some, IfP_dec]
    refine ⟨fun hlt2 => ?_, fun hge2 => ?_⟩
    · have l1y := EX.load hex l1
      simp only [fadr_pt, Nat.zero_add, OP_some, l1y]
      obtain ⟨z, es, ea⟩ := bit16 (b := bt) (by omega)
      simp only [es, OP_some, ea, bin_eql, decide_true, IfP_true]
      refine app_pair (a := j) (b := i) hex hid hg (by omega) ?_
      intro id' hz q2 q3 q4
      simp only [q30z20, q30z21, bin_add, OP_some, inc bt (by omega), inc j (by omega), true_and]
      refine hL2 (qs ++ [((j : Int), (i : Int))], id', bt + 1, j + 1, hz) ⟨?_, q2, q3, q4, by show (qs ++ _).length ≤ bt + 1; simp; omega, by show i < j + 1; omega, by show j + 1 ≤ n; omega, by show bt + 1 + (n - (j + 1)) + tri (n - i - 1) = tri n; omega, fun a b x y z => List.mem_append_left _ (hall a b x y z), ?_⟩ (by show n - (j + 1) < n - j; omega)
      · intro p hp
        rcases List.mem_append.1 hp with hp | hp
        · exact hv p hp
        · rw [List.mem_singleton] at hp
          subst hp
          show 0 ≤ (i : Int) ∧ (i : Int) < (j : Int) ∧ (j : Int) < (n : Int)
          omega
      · intro a h2 h3
        have h3' : a < j + 1 := h3
        by_cases haj : a = j
        · subst haj; simp
        · exact List.mem_append_left _ (hrow a h2 (by omega))
    · have : j = n := by omega
      subst this
      simp only [q30z22, bin_add, OP_some, inc i (by omega), true_and]
      refine hL (qs, jd, bt, i + 1, hy) ⟨hv, hex, hid, hg, hlen, by show i + 1 ≤ j; omega, ?_, fun a b x y z => ?_⟩ (by show j - (i + 1) < j - i; omega)
      · show bt + tri (j - (i + 1)) = tri j
        rw [show j - (i + 1) = j - i - 1 by omega]
        omega
      · have z' : b < i + 1 := z
        by_cases hbi : b = i
        · subst hbi; exact hrow a x y
        · exact hall a b x y (by omega)
  · have : i = n := by omega
    subst this
    rw [q30z23]
    have ht : threadsOk i ps = true := by
      simp only [threadsOk, tlOk, Bool.and_eq_true, decide_eq_true_eq, List.all_eq_true]
      have hz : tri (i - i) = 0 := by rw [Nat.sub_self]; rfl
      refine ⟨fun p hp => ?_, ⟨by omega, by omega⟩, by omega⟩
      have := hv p hp
      simp only [pok, Bool.and_eq_true, decide_eq_true_eq, Bool.not_eq_true', decide_eq_false_iff_not]
      omega
    exact hk ps id hx ht (fun a b x y => hall a b x y (by omega)) (x1.trans hex) hg

end Go.Proofs.Ytjdlcokhlphmhaa
