/-
  Numbers of any size, as the document's side holds them: four decimal digits a digit.
-/
import Derived.Test.YtjdlcokhlphmhaaMg6
import Derived.Test.YtjdlcokhlphmhaaSh8
import Derived.Test.YtjdlcokhlphmhaaSh9
import Derived.Test.YtjdlcokhlphmhaaMg8
namespace Go.Proofs.Ytjdlcokhlphmhaa
open Go.Sim

theorem bigW_Z : bigW ≤ 10000 ^ 250 := by decide +kernel
theorem canZ_len {xs : List Nat} (h : Canon 10000 xs) (hv : val 10000 xs < bigW) : xs.length ≤ 250 := h.len (by decide) (Nat.lt_of_lt_of_le hv bigW_Z)

/-- Digits that were appended one by one. -/
def OwnD (b : Nat) (hx : Heap) (v : Value) (os : List Nat) : Prop := OwnS b hx 3 v (os.map fun d : Nat => I d)

theorem OwnD.ds {b : Nat} {hx : Heap} {v : Value} {os : List Nat} (o : OwnD b hx v os) : DS 3 .i64 hx v os := by
  rcases o with ⟨h1, h2⟩ | ⟨i, _, h2, h3⟩
  · exact .inl ⟨h1, by simpa using h2⟩
  · refine .inr ⟨i, by rw [h2, List.length_map], .inr ⟨[], ?_⟩⟩
    simp [objCells, h3]

theorem DS.cells {e : TypeId} {k : IntKind} {h : Heap} {v : Value} {xs : List Nat} (p : DS e k h v xs) : sliceCells h 1 v = some (xs.map fun d : Nat => Value.int k (d : Int)) ∧ lenOfSl v = some xs.length := by
  rcases p with ⟨rfl, rfl⟩ | ⟨i, rfl, hc⟩
  · exact ⟨rfl, rfl⟩
  · refine ⟨?_, rfl⟩
    unfold sliceCells sl
    simp only
    by_cases hz : xs.length = 0
    · rw [if_pos hz]
      have : xs = [] := List.length_eq_zero_iff.1 hz
      subst this
      rfl
    · obtain ⟨r, hc⟩ := hc.resolve_left (by rintro rfl; simp at hz)
      rw [if_neg hz, hc]
      simp only [Option.bind_some]
      rw [if_pos (by simp)]
      have : ((xs.map (fun d : Nat => Value.int k (d : Int)) ++ r).drop 0).take (xs.length * 1) = xs.map fun d : Nat => Value.int k (d : Int) := by
        rw [List.drop_zero, Nat.mul_one, List.take_append_of_le_length (by simp), List.take_of_length_le (by simp)]
      rw [this]

def MagZ (h : Heap) (v : Value) (n : Nat) : Prop := ∃ xs, DS 3 .i64 h v xs ∧ Canon 10000 xs ∧ val 10000 xs = n
theorem MagZ.mono {h h' : Heap} {v : Value} {n : Nat} (x : EX h h') (p : MagZ h v n) : MagZ h' v n := let ⟨xs, a, b, c⟩ := p; ⟨xs, a.mono x, b, c⟩

theorem DS.setB {e e' : TypeId} {k : IntKind} {h : Heap} {v : Value} {xs : List Nat} {j : Nat} {b : Bool} {r : List Value} (d : DS e k h v xs) (hj : h[j]? = some (.arr e' (.bool b :: r))) (o : IObj) : DS e k (h.set j o) v xs := by
  rcases d with d | ⟨i, h1, h2⟩
  · exact .inl d
  · refine .inr ⟨i, h1, ?_⟩
    rcases h2 with h2 | ⟨rest, h2⟩
    · exact .inl h2
    · cases xs with
      | nil => exact .inl rfl
      | cons x xs =>
        right
        refine ⟨rest, ?_⟩
        have hne : j ≠ i := by
          rintro rfl
          unfold objCells at h2
          rw [hj] at h2
          simp at h2
        unfold objCells at h2 ⊢
        rw [List.getElem?_set_ne hne]
        exact h2

theorem MagZ.setB {h : Heap} {v : Value} {n j : Nat} {e : TypeId} {b : Bool} {r : List Value} (p : MagZ h v n) (hj : h[j]? = some (.arr e (.bool b :: r))) (o : IObj) : MagZ (h.set j o) v n :=
  let ⟨xs, d, c, hv⟩ := p; ⟨xs, d.setB hj o, c, hv⟩

def ZV (h : Heap) (val : Value) (z : Int) : Prop := ∃ v, val = .agg #[B (decide (z < 0)), v] ∧ MagZ h v z.natAbs
theorem ZV.mono {h h' : Heap} {v : Value} {z : Int} (x : EX h h') (p : ZV h v z) : ZV h' v z := let ⟨w, a, b⟩ := p; ⟨w, a, b.mono x⟩
theorem ZV.setB {h : Heap} {v : Value} {z : Int} {j : Nat} {e : TypeId} {b : Bool} {r : List Value} (p : ZV h v z) (hj : h[j]? = some (.arr e (.bool b :: r))) (o : IObj) : ZV (h.set j o) v z :=
  let ⟨w, a, q⟩ := p; ⟨w, a, q.setB hj o⟩

/-- A digit more. -/
theorem appD {h0 hx : Heap} {v : Value} {os : List Nat} {d : Nat} {K : Value → Heap → Prop} (o : OwnD h0.length hx v os) (hex : EX h0 hx) (hl : os.length ≤ 10000)
    (hk : ∀ v' hx', EX h0 hx' → OwnD h0.length hx' v' (os ++ [d]) → K v' hx') : OH (iMkSl 3 1 [.int .i64 0] hx [(0, 1, I d)]) fun a h2 => OH (iApp 3 1 8 h2 v a) K := by
  refine app1 o hex (by simp; omega) (by simp [maxLen]; omega) rfl rfl ?_
  intro v' hx' h1 h2
  exact hk v' hx' h1 (by unfold OwnD; simpa using h2)

theorem C98f {s : Bool} {v : Value} {xs : List Nat} {h : Heap} {K : Value → Heap → Prop} (hd : DS 3 .i64 h v xs) (hl : Lim 10000 xs) (hs : xs.length ≤ 1000)
    (hk : ∀ r h', EX h h' → ZV h' r (if s then -(val 10000 xs : Int) else val 10000 xs) → (∃ b i n, r = .agg #[B b, sl 3 i 0 n] ∧ h.length ≤ i) → K r h') : CallP Try.prog 98 [.agg #[B s, v]] h K := by
  refine f98 ?_
  have e1 : iBox 46 h (.agg #[B s, v]) = some (pt h.length 0, h ++ [.arr 46 [B s, v]]) := rfl
  have e2 : ∀ g : Heap, iAlloc 46 [(.bool false), (.slice none 0 0)] g = some (pt g.length 0, g ++ [.arr 46 [(.bool false), (.slice none 0 0)]]) := fun _ => rfl
  simp only [T98, e1, OH_some, e2, List.length_append, List.length_cons, List.length_nil]
  have g0 : (h ++ [IObj.arr 46 [B s, v]] ++ [IObj.arr 46 [(.bool false), (.slice none 0 0)]])[h.length]? = some (.arr 46 [B s, v]) := by simp
  have g1 : (h ++ [IObj.arr 46 [B s, v]] ++ [IObj.arr 46 [(.bool false), (.slice none 0 0)]])[h.length + 1]? = some (.arr 46 [(.bool false), (.slice none 0 0)]) := by simp
  have x1 : EX h (h ++ [IObj.arr 46 [B s, v]] ++ [IObj.arr 46 [(.bool false), (.slice none 0 0)]]) := (EX.append _ _).push _
  have hlen : (h ++ [IObj.arr 46 [B s, v]] ++ [IObj.arr 46 [(.bool false), (.slice none 0 0)]]).length = h.length + 2 := by simp
  generalize h ++ [IObj.arr 46 [B s, v]] ++ [IObj.arr 46 [(.bool false), (.slice none 0 0)]] = h1 at g0 g1 x1 hlen ⊢
  have ld1 : iLoad false 1 h1 (pt h.length 1) = some v := by simp [iLoad, objCells, g0, iPart]
  have hd1 := hd.mono x1
  simp only [fadr_pt, Nat.zero_add, OP_some, ld1, hd1.len]
  refine loopL (σ := Nat) (fun n => [I n]) (fun _ => h1) (fun n => n ≤ xs.length ∧ val 10000 (xs.take n) = val 10000 xs) (fun n => n) xs.length rfl rfl ⟨Nat.le_refl _, by rw [List.take_length]⟩ ?_
  rintro n ⟨hn, hval⟩ L hL
  rw [q98z5]
  -- the end
  have fin : Canon 10000 (xs.take n) → p98z13 Try.prog K (pt h.length 0) (pt (h.length + 1) 0) (I n) h1 := by
    intro hc
    rw [q98z13]
    have mk : iMkSl 3 0 [.int .i64 0] h1 [] = some (sl 3 h1.length 0 0, h1 ++ [.arr 3 []]) := rfl
    have x2 : EX h1 (h1 ++ [.arr 3 []]) := EX.append _ _
    obtain ⟨v', p1, p2⟩ := (hd1.mono x2).pop hn
    obtain ⟨c1, c2⟩ := p2.cells
    have hnl : (xs.take n).length = n := by rw [List.length_take]; omega
    simp only [mk, OH_some, fadr_pt, Nat.zero_add, OP_some, EX.load x2 ld1, p1]
    -- copied
    have app : ∃ w h3, iApp 3 1 8 (h1 ++ [.arr 3 []]) (sl 3 h1.length 0 0) v' = some (w, h3) ∧ EX h1 h3 ∧ DS 3 .i64 h3 w (xs.take n) ∧ ∃ i n, w = sl 3 i 0 n ∧ h.length ≤ i := by
      by_cases hn0 : n = 0
      · subst hn0
        refine ⟨sl 3 h1.length 0 0, h1 ++ [.arr 3 []], ?_, x2, .inr ⟨h1.length, by simp, .inl (by simp)⟩, h1.length, 0, rfl, by omega⟩
        simp [iApp, c1, c2, sl]
      · refine ⟨sl 3 (h1.length + 1) 0 n, (h1 ++ [IObj.arr 3 []]).set h1.length .dead ++ [.arr 3 ((xs.take n).map fun d : Nat => I d)], ?_, (x2.set (Nat.le_refl _) _).push _, .inr ⟨h1.length + 1, by rw [hnl], .inr ⟨[], ?_⟩⟩, h1.length + 1, n, rfl, by omega⟩
        · have hg : (h1 ++ [IObj.arr 3 []])[h1.length]? = some (.arr 3 []) := get_last
          simp only [iApp, c1, c2, hnl]
          simp only [sl, hg]
          rw [if_pos ⟨trivial, trivial, by simp, by omega, by unfold maxLen; omega⟩, if_neg hn0]
          simp
        · unfold objCells
          rw [List.getElem?_append_right (by simp)]
          simp
    obtain ⟨w, h3, a1, a2, a3, wi, wn, hwi, hwl⟩ := app
    simp only [a1, OH_some]
    have g0' := a2.get g0
    have g1' := a2.get g1
    rw [store_at g0' (by simp) a3.one.1 a3.one.2]
    simp only [OH_some, List.set_cons_succ, List.set_cons_zero]
    have k0 : (h3.set h.length (.arr 46 [B s, w]))[h.length]? = some (.arr 46 [B s, w]) := set_get g0'
    have k1 : (h3.set h.length (.arr 46 [B s, w]))[h.length + 1]? = some (.arr 46 [(.bool false), (.slice none 0 0)]) := by rw [List.getElem?_set_ne (by omega)]; exact g1'
    have d1 := a3.setB g0' (.arr 46 [B s, w])
    have x3 : EX h (h3.set h.length (.arr 46 [B s, w])) := (x1.trans a2).set (Nat.le_refl _) _
    generalize h3.set h.length (.arr 46 [B s, w]) = h4 at k0 k1 d1 x3 ⊢
    have ld0 : iLoad false 1 h4 (pt h.length 0) = some (B s) := by simp [iLoad, objCells, k0, iPart]
    simp only [Nat.add_zero, ld0, OP_some]
    have last : ∀ c : Bool, c = (s && decide (0 < n)) → OH (oStore 1 h4 (pt h.length 0) (B c)) fun _ h_1 => OP (iLoad true 2 h_1 (pt h.length 0)) fun x34 => OH (oStore 2 h_1 (pt (h.length + 1) 0) x34) fun _ h_2 => OP (iLoad true 2 h_2 (pt (h.length + 1) 0)) fun r0 => K r0 h_2 := by
      rintro c rfl
      rw [store_at k0 (by simp) rfl rfl]
      simp only [OH_some, List.set_cons_zero]
      rw [load2 (set_get k0)]
      simp only [OP_some]
      have m1 : (h4.set h.length (.arr 46 [B (s && decide (0 < n)), w]))[h.length + 1]? = some (.arr 46 [(.bool false), (.slice none 0 0)]) := by rw [List.getElem?_set_ne (by omega)]; exact k1
      rw [store2 m1]
      simp only [OH_some]
      rw [load2 (set_get m1)]
      simp only [OP_some]
      refine hk _ _ ((x3.set (Nat.le_refl _) _).set (by omega) _) ⟨w, ?_, (xs.take n), (d1.setB k0 _).setB m1 _, hc, ?_⟩ ⟨_, wi, wn, by rw [hwi], hwl⟩
      · have h0n : (0 < n ↔ 0 < val 10000 xs) := by
          rw [← hval]
          constructor
          · intro h0
            have := Canon.low (by decide) hc (by intro h; rw [h] at hnl; simp at hnl; omega)
            have : 0 < 10000 ^ ((xs.take n).length - 1) := Nat.pow_pos (by decide)
            omega
          · intro h0
            by_cases hn0 : n = 0
            · subst hn0; simp [val] at h0
            · omega
        have : (s && decide (0 < n)) = decide ((if s = true then -(val 10000 xs : Int) else (val 10000 xs : Int)) < 0) := by
          cases s with
          | true =>
            by_cases h0 : 0 < n
            · have := h0n.1 h0
              rw [decide_eq_true h0, decide_eq_true (by simp; omega)]; rfl
            · have : ¬ 0 < val 10000 xs := fun h => h0 (h0n.2 h)
              rw [decide_eq_false h0, decide_eq_false (by simp; omega)]; rfl
          | false => simp
        rw [this]
      · rw [hval]; cases s <;> simp
    cases s with
    | true =>
      simp only [q98z17, GdP_tt, bin_gtr, OP_some, q98z19, iPick_t, fadr_pt, Nat.add_zero]
      refine last _ ?_
      rw [Bool.true_and]
      by_cases h0 : 0 < n
      · simp [h0]
      · simp [h0]
    | false =>
      simp only [q98z17, GdP_ft, q98z19, iPick_f, OP_some, fadr_pt, Nat.add_zero]
      exact last _ rfl
  simp only [bin_gtr, OP_some]
  by_cases hn0 : n = 0
  · subst hn0
    rw [decide_eq_false (show ¬ (0 : Int) < ((0 : Nat) : Int) by omega)]
    simp only [q98z9, GdP_ft, q98z11, iPick_f, OP_some, IfP_false]
    exact fin (by simpa using Canon.nil 10000)
  · rw [decide_eq_true (show (0 : Int) < (n : Int) by omega)]
    have e3 : IntKind.wrap .i64 ((n : Int) - 1) = ((n - 1 : Nat) : Int) := by rw [wrap64 (by omega) (by omega)]; omega
    obtain ⟨i, p1, p2⟩ := hd1.get (j := n - 1) (by omega)
    simp only [q98z9, GdP_tt, fadr_pt, Nat.zero_add, OP_some, ld1, bin_sub, e3, p1, p2, bin_eql, q98z11, iPick_t, IfP_dec]
    refine ⟨fun hz => ?_, fun hz => ?_⟩
    · simp only [true_and]
      refine hL (n - 1) ⟨by omega, ?_⟩ (by omega)
      have := val_take_succ 10000 xs (i := n - 1) (by omega)
      rw [show n - 1 + 1 = n by omega] at this
      have hz' : xs[n - 1]'(by omega) = 0 := by omega
      rw [hz', Nat.mul_zero] at this
      omega
    · refine fin (can_of_last (hl.mono fun y hy => List.mem_of_mem_take hy) ?_)
      intro h1 h2
      rw [List.getElem_take] at h2
      simp only [List.length_take] at h2
      apply hz
      have hm : min n xs.length - 1 = n - 1 := by omega
      simp only [hm] at h2
      omega

theorem C98 {s : Bool} {v : Value} {xs : List Nat} {h : Heap} {K : Value → Heap → Prop} (hd : DS 3 .i64 h v xs) (hl : Lim 10000 xs) (hs : xs.length ≤ 1000)
    (hk : ∀ r h', EX h h' → ZV h' r (if s then -(val 10000 xs : Int) else val 10000 xs) → K r h') : CallP Try.prog 98 [.agg #[B s, v]] h K :=
  C98f hd hl hs fun r h' x z _ => hk r h' x z

end Go.Proofs.Ytjdlcokhlphmhaa

/-
  The document's sums and products.
-/
namespace Go.Proofs.Ytjdlcokhlphmhaa
open Go.Sim

theorem quoI {a b : Nat} (hb : b ≠ 0) (ha : a < 9223372036854775808) : iBin .quo (.int .i64 (a : Int)) (.int .i64 (b : Int)) = some (I ((a / b : Nat) : Int)) := by
  have h : ¬ ((b : Int) = 0) := by omega
  have h2 : a / b ≤ a := Nat.div_le_self _ _
  simp only [iBin, iInt, if_true, if_neg h]
  have e : (a : Int).tdiv (b : Int) = ((a / b : Nat) : Int) := rfl
  rw [e]
  generalize a / b = q at *
  rw [wrap64 (by omega) (by omega)]

theorem mkD0 (h : Heap) : iMkSl 3 0 [.int .i64 0] h [] = some (sl 3 h.length 0 0, h ++ [.arr 3 []]) := rfl

theorem ownD0 (h : Heap) : OwnD h.length (h ++ [.arr 3 []]) (sl 3 h.length 0 0) [] := .inr ⟨h.length, Nat.le_refl _, rfl, by simp⟩

theorem C99 {va vb : Value} {xs ys : List Nat} {h : Heap} {K : Value → Heap → Prop} (hx : DS 3 .i64 h va xs) (hy : DS 3 .i64 h vb ys) (lx : Lim 10000 xs) (ly : Lim 10000 ys) (sx : xs.length ≤ 400) (sy : ys.length ≤ 400)
    (hk : ∀ v h' os, EX h h' → DS 3 .i64 h' v os → Lim 10000 os → os.length ≤ 500 → val 10000 os = val 10000 xs + val 10000 ys → K v h') : CallP Try.prog 99 [va, vb] h K := by
  refine f99 ?_
  simp only [T99, mkD0, OH_some]
  refine loopL (σ := Value × Nat × List Nat × Heap) (fun p => [p.1, I p.2.1, I p.2.2.1.length]) (fun p => p.2.2.2)
    (fun p => EX h p.2.2.2 ∧ OwnD h.length p.2.2.2 p.1 p.2.2.1 ∧ p.2.1 ≤ 1 ∧ Lim 10000 p.2.2.1 ∧ p.2.2.1.length ≤ max xs.length ys.length + 1 ∧ (p.2.2.1.length = max xs.length ys.length + 1 → p.2.1 = 0) ∧ val 10000 p.2.2.1 + 10000 ^ p.2.2.1.length * p.2.1 = val 10000 (xs.take p.2.2.1.length) + val 10000 (ys.take p.2.2.1.length)) (fun p => max xs.length ys.length + 1 - p.2.2.1.length)
    (sl 3 h.length 0 0, 0, [], h ++ [.arr 3 []]) rfl rfl ⟨EX.append _ _, ownD0 h, by simp, fun x hx => by simp at hx, by simp, by simp, by simp [val]⟩ ?_
  rintro ⟨v, c, os, hx'⟩ ⟨hex, hown, hc, hlim, hlen, hend, hval⟩ L hL
  simp only at hex hown hc hlim hlen hend hval hL ⊢
  rw [q99z6]
  have dx := hx.mono hex
  have dy := hy.mono hex
  -- one digit
  have dig : ∀ (x y : Nat), x < 10000 → y < 10000 → (os.length < max xs.length ys.length ∨ 0 < c) → val 10000 (xs.take (os.length + 1)) = val 10000 (xs.take os.length) + 10000 ^ os.length * x → val 10000 (ys.take (os.length + 1)) = val 10000 (ys.take os.length) + 10000 ^ os.length * y →
      (x = 0 ∧ y = 0 ∨ os.length < max xs.length ys.length) → p99z25 Try.prog K va vb v (I os.length) (I ((c + x + y : Nat) : Int)) L hx' := by
    intro x y hxl hyl hor e1 e2 hlast
    rw [q99z25]
    rw [show (.int .i64 10000 : Value) = .int .i64 ((10000 : Nat) : Int) from rfl, rem_nat _ _ _ (by decide)]
    simp only [OP_some]
    refine appD hown hex (by omega) ?_
    intro v' h2 x2 o2
    rw [quoI (by decide) (by omega)]
    simp only [OP_some, q99z26, bin_add, inc os.length (by omega), true_and]
    have hlen' : os.length < max xs.length ys.length + 1 := by
      rcases hor with h | h
      · omega
      · apply Classical.byContradiction
        intro hc2
        have := hend (by omega)
        omega
    have hm : (c + x + y) % 10000 < 10000 := Nat.mod_lt _ (by decide)
    have hdm := Nat.mod_add_div (c + x + y) 10000
    have el : (os ++ [(c + x + y) % 10000]).length = os.length + 1 := by simp
    have := hL (v', (c + x + y) / 10000, os ++ [(c + x + y) % 10000], h2) ⟨x2, o2, by show (c + x + y) / 10000 ≤ 1; omega, hlim.append (fun z hz => by simp at hz; omega), by rw [el]; omega, ?_, ?_⟩ (by rw [el]; omega)
    · rw [el] at this
      exact this
    · intro h9
      rw [el] at h9
      show (c + x + y) / 10000 = 0
      rcases hlast with ⟨rfl, rfl⟩ | h
      · omega
      · omega
    · rw [el]
      show val 10000 (os ++ [(c + x + y) % 10000]) + 10000 ^ (os.length + 1) * ((c + x + y) / 10000) = _
      rw [val_append, e1, e2, Nat.pow_succ]
      simp only [val, Nat.mul_zero, Nat.add_zero]
      generalize (c + x + y) / 10000 = q at *
      generalize (c + x + y) % 10000 = m at *
      generalize 10000 ^ os.length = P at *
      generalize val 10000 os = V at *
      clear hL dx dy hx hy hown
      grind
  have next : (os.length < max xs.length ys.length ∨ 0 < c) → OP (iLenSl va) fun x29 => OP (iBin .lss (I os.length) x29) fun x30 => IfP x30
      (OP (iAdrSl 1 va (I os.length)) fun x34 => OP (iLoad false 1 hx' x34) fun x35 => OP (iBin .add (I c) x35) fun x36 => p99z22 Try.prog K va vb v (I os.length) x36 L hx')
      (p99z22 Try.prog K va vb v (I os.length) (I c) L hx') := by
    intro hor
    have second : ∀ x : Nat, x < 10000 → val 10000 (xs.take (os.length + 1)) = val 10000 (xs.take os.length) + 10000 ^ os.length * x → (x = 0 ∨ os.length < xs.length) → p99z22 Try.prog K va vb v (I os.length) (I ((c + x : Nat) : Int)) L hx' := by
      intro x hxl e1 hx0
      rw [q99z22]
      simp only [dy.len, OP_some, bin_lss, IfP_dec]
      refine ⟨fun hlt => ?_, fun hge => ?_⟩
      · obtain ⟨i, g1, g2⟩ := dy.get (j := os.length) (by omega)
        have hyl := ly _ (List.getElem_mem (show os.length < ys.length by omega))
        have e2 := val_take_succ 10000 ys (i := os.length) (by omega)
        generalize ys[os.length]'(by omega) = y at g2 hyl e2
        have ea : IntKind.wrap .i64 (((c + x : Nat) : Int) + (y : Int)) = ((c + x + y : Nat) : Int) := by rw [wrap64 (by omega) (by omega)]; omega
        simp only [g1, OP_some, g2, bin_add, ea]
        exact dig x y hxl hyl hor e1 e2 (.inr (by omega))
      · have := dig x 0 hxl (by decide) hor e1 (by rw [List.take_of_length_le (by omega), List.take_of_length_le (by omega)]; simp) (by rcases hx0 with h | h; exact .inl ⟨h, rfl⟩; exact .inr (by omega))
        simpa using this
    simp only [dx.len, OP_some, bin_lss, IfP_dec]
    refine ⟨fun hlt => ?_, fun hge => ?_⟩
    · obtain ⟨i, g1, g2⟩ := dx.get (j := os.length) (by omega)
      have hxl := lx _ (List.getElem_mem (show os.length < xs.length by omega))
      have e1 := val_take_succ 10000 xs (i := os.length) (by omega)
      generalize xs[os.length]'(by omega) = x at g2 hxl e1
      have ea : IntKind.wrap .i64 ((c : Int) + (x : Int)) = ((c + x : Nat) : Int) := by rw [wrap64 (by omega) (by omega)]; omega
      simp only [g1, OP_some, g2, bin_add, ea]
      exact second x hxl e1 (.inr (by omega))
    · have := second 0 (by decide) (by rw [List.take_of_length_le (by omega), List.take_of_length_le (by omega)]; simp) (.inl rfl)
      simpa using this
  have done : ¬ (os.length < max xs.length ys.length ∨ 0 < c) → p99z27 Try.prog K v hx' := by
    intro hno
    rw [q99z27]
    refine hk v hx' os hex hown.ds hlim (by omega) ?_
    have hc0 : c = 0 := by omega
    rw [hc0, Nat.mul_zero, Nat.add_zero, List.take_of_length_le (by omega), List.take_of_length_le (by omega)] at hval
    exact hval
  simp only [dx.len, OP_some, bin_lss]
  by_cases h1 : os.length < xs.length
  · rw [decide_eq_true (show (os.length : Int) < (xs.length : Int) by omega)]
    simp only [q99z10, GdP_tf, q99z12, iPick_t, OP_some, q99z14, q99z16, IfP_true]
    exact next (.inl (by omega))
  · rw [decide_eq_false (show ¬ (os.length : Int) < (xs.length : Int) by omega)]
    simp only [q99z10, GdP_ff, dy.len, OP_some, bin_lss]
    by_cases h2 : os.length < ys.length
    · rw [decide_eq_true (show (os.length : Int) < (ys.length : Int) by omega)]
      simp only [q99z12, iPick_f, OP_some, q99z14, GdP_tf, q99z16, iPick_t, IfP_true]
      exact next (.inl (by omega))
    · rw [decide_eq_false (show ¬ (os.length : Int) < (ys.length : Int) by omega)]
      simp only [q99z12, iPick_f, OP_some, q99z14, GdP_ff, bin_gtr]
      by_cases h3 : 0 < c
      · rw [decide_eq_true (show (0 : Int) < (c : Int) by omega)]
        simp only [q99z16, iPick_f, OP_some, IfP_true]
        exact next (.inr h3)
      · rw [decide_eq_false (show ¬ (0 : Int) < (c : Int) by omega)]
        simp only [q99z16, iPick_f, OP_some, IfP_false]
        exact done (by omega)

theorem C101 {va vb : Value} {xs ys : List Nat} {h : Heap} {K : Value → Heap → Prop} (hx : DS 3 .i64 h va xs) (hy : DS 3 .i64 h vb ys) (lx : Lim 10000 xs) (ly : Lim 10000 ys) (sx : xs.length ≤ 400) (hyx : ys.length ≤ xs.length) (hle : val 10000 ys ≤ val 10000 xs)
    (hk : ∀ v h' os, EX h h' → DS 3 .i64 h' v os → Lim 10000 os → os.length ≤ 500 → val 10000 os = val 10000 xs - val 10000 ys → K v h') : CallP Try.prog 101 [va, vb] h K := by
  refine f101 ?_
  simp only [T101, mkD0, OH_some]
  refine loopL (σ := Value × Nat × List Nat × Heap) (fun p => [p.1, I p.2.1, I p.2.2.1.length]) (fun p => p.2.2.2)
    (fun p => EX h p.2.2.2 ∧ OwnD h.length p.2.2.2 p.1 p.2.2.1 ∧ p.2.1 ≤ 1 ∧ Lim 10000 p.2.2.1 ∧ p.2.2.1.length ≤ xs.length ∧ val 10000 p.2.2.1 + val 10000 (ys.take p.2.2.1.length) = val 10000 (xs.take p.2.2.1.length) + 10000 ^ p.2.2.1.length * p.2.1) (fun p => xs.length - p.2.2.1.length)
    (sl 3 h.length 0 0, 0, [], h ++ [.arr 3 []]) rfl rfl ⟨EX.append _ _, ownD0 h, by simp, fun x hx => by simp at hx, by simp, by simp [val]⟩ ?_
  rintro ⟨v, c, os, hx'⟩ ⟨hex, hown, hc, hlim, hlen, hval⟩ L hL
  simp only at hex hown hc hlim hlen hval hL ⊢
  rw [q101z6]
  have dx := hx.mono hex
  have dy := hy.mono hex
  simp only [dx.len, OP_some, bin_lss, IfP_dec]
  refine ⟨fun hlt => ?_, fun hge => ?_⟩
  · have hil : os.length < xs.length := by omega
    obtain ⟨i, g1, g2⟩ := dx.get hil
    have hxl := lx _ (List.getElem_mem hil)
    have e1 := val_take_succ 10000 xs hil
    generalize xs[os.length] = x at g2 hxl e1
    have dig : ∀ y : Nat, y < 10000 → val 10000 (ys.take (os.length + 1)) = val 10000 (ys.take os.length) + 10000 ^ os.length * y → p101z14 Try.prog K va vb v (I os.length) (I ((x : Int) - c - y)) L hx' := by
      intro y hyl e2
      rw [q101z14]
      have go : ∀ d b : Nat, d < 10000 → b ≤ 1 → d + y + c = x + 10000 * b → p101z18 Try.prog K va vb v (I b) (I os.length) (I d) L hx' := by
        intro d b hd hb he
        rw [q101z18]
        refine appD hown hex (by omega) ?_
        intro v' h2 x2 o2
        simp only [q101z19, bin_add, OP_some, inc os.length (by omega), true_and]
        have el : (os ++ [d]).length = os.length + 1 := by simp
        have := hL (v', b, os ++ [d], h2) ⟨x2, o2, hb, hlim.append (fun z hz => by simp at hz; omega), by rw [el]; omega, ?_⟩ (by rw [el]; omega)
        · rw [el] at this
          exact this
        · rw [el]
          show val 10000 (os ++ [d]) + _ = _
          rw [val_append, e1, e2, Nat.pow_succ]
          simp only [val, Nat.mul_zero, Nat.add_zero]
          generalize 10000 ^ os.length = P at *
          generalize val 10000 os = V at *
          clear hL dx dy hx hy hown
          grind
      simp only [bin_lss, OP_some, IfP_dec]
      refine ⟨fun hneg => ?_, fun hpos => ?_⟩
      · obtain ⟨d, hd⟩ : ∃ d : Nat, (x : Int) - c - y + 10000 = d := ⟨((x : Int) - c - y + 10000).toNat, by omega⟩
        simp only [bin_add, OP_some, hd]
        rw [wrap64 (by omega) (by omega)]
        exact go d 1 (by omega) (by omega) (by omega)
      · obtain ⟨d, hd⟩ : ∃ d : Nat, (x : Int) - c - y = d := ⟨((x : Int) - c - y).toNat, by omega⟩
        rw [hd]
        exact go d 0 (by omega) (by omega) (by omega)
    simp only [g1, OP_some, g2, bin_sub, dy.len, bin_lss, IfP_dec]
    rw [wrap64 (n := (x : Int) - c) (by omega) (by omega)]
    refine ⟨fun hly => ?_, fun hgy => ?_⟩
    · obtain ⟨i', k1, k2⟩ := dy.get (j := os.length) (by omega)
      have hyl := ly _ (List.getElem_mem (show os.length < ys.length by omega))
      have e2 := val_take_succ 10000 ys (i := os.length) (by omega)
      generalize ys[os.length]'(by omega) = y at k2 hyl e2
      simp only [k1, OP_some, k2, bin_sub]
      rw [wrap64 (by omega) (by omega)]
      exact dig y hyl e2
    · have := dig 0 (by decide) (by rw [List.take_of_length_le (by omega), List.take_of_length_le (by omega)]; simp)
      simpa using this
  · have hl : os.length = xs.length := by omega
    rw [q101z20]
    rw [hl, List.take_length, List.take_of_length_le hyx] at hval
    have hlt := val_lt hlim
    rw [hl] at hlt
    have hc0 : c = 0 := by
      apply Classical.byContradiction
      intro hne
      have : c = 1 := by omega
      subst this
      omega
    subst hc0
    exact hk v hx' os hex hown.ds hlim (by omega) (by omega)

theorem C100 {va vb : Value} {a b : Nat} {h : Heap} {K : Value → Heap → Prop} (ha : MagZ h va a) (hb : MagZ h vb b) (la : a < bigW) (lb : b < bigW) (hk : K (I (sgn a b)) h) : CallP Try.prog 100 [va, vb] h K := by
  obtain ⟨xs, hx, cx, rfl⟩ := ha
  obtain ⟨ys, hy, cy, rfl⟩ := hb
  have l1 := canZ_len cx la
  have l2 := canZ_len cy lb
  have less : val 10000 xs < val 10000 ys → K (.int .i64 (-1)) h := fun h1 => by unfold sgn at hk; rw [if_pos h1] at hk; exact hk
  have more : val 10000 ys < val 10000 xs → K (.int .i64 1) h := fun h1 => by unfold sgn at hk; rw [if_neg (by omega), if_pos h1] at hk; exact hk
  have same : val 10000 xs = val 10000 ys → K (.int .i64 0) h := fun h1 => by unfold sgn at hk; rw [if_neg (by omega), if_neg (by omega)] at hk; exact hk
  refine f100 ?_
  simp only [T100, hx.len, hy.len, OP_some, bin_neq, IfP_ndec, bin_lss, IfP_dec]
  refine ⟨fun hne => ⟨fun hlt => less (Canon.lt_of_len (by decide) cx cy (by omega)), fun hge => more (Canon.lt_of_len (by decide) cy cx (by omega))⟩, fun he => ?_⟩
  have he' : xs.length = ys.length := by omega
  simp only [bin_sub, OP_some]
  have e1 : IntKind.wrap .i64 ((xs.length : Int) - 1) = (xs.length : Int) - 1 := by rw [wrap64 (by omega) (by omega)]
  rw [e1]
  refine loopL (σ := Nat) (fun i => [I ((i : Int) - 1)]) (fun _ => h) (fun i => i ≤ xs.length ∧ xs.drop i = ys.drop i) (fun i => i) xs.length rfl rfl ⟨Nat.le_refl _, by rw [List.drop_length, he', List.drop_length]⟩ ?_
  rintro i ⟨hi, hdr⟩ L hL
  rw [q100z11]
  simp only [bin_geq, OP_some, IfP_dec]
  refine ⟨fun hge => ?_, fun hlt => ?_⟩
  · obtain ⟨j, rfl⟩ : ∃ j, i = j + 1 := ⟨i - 1, by omega⟩
    have ej : (((j + 1 : Nat) : Int) - 1) = (j : Int) := by omega
    rw [ej]
    obtain ⟨ia, a1, a2⟩ := hx.get (j := j) (by omega)
    obtain ⟨ib, b1, b2⟩ := hy.get (j := j) (by omega)
    simp only [a1, a2, b1, b2, OP_some, true_and, bin_lss, IfP_dec]
    refine ⟨fun hlt => less (val_lt_of_top cx.1 cy.1 he' (i := j) (by omega) hdr (by omega)), fun hge => ?_⟩
    simp only [bin_gtr, OP_some, IfP_dec]
    refine ⟨fun hgt => more (val_lt_of_top cy.1 cx.1 he'.symm (i := j) (by omega) hdr.symm (by omega)), fun hle => ?_⟩
    simp only [bin_sub, OP_some]
    rw [wrap64 (by omega) (by omega)]
    refine hL j ⟨by omega, ?_⟩ (by omega)
    rw [List.drop_eq_getElem_cons (by omega), List.drop_eq_getElem_cons (show j < ys.length by omega), hdr]
    congr 1
    omega
  · have : i = 0 := by omega
    subst this
    rw [List.drop_zero, List.drop_zero] at hdr
    exact same (by rw [hdr])

end Go.Proofs.Ytjdlcokhlphmhaa

/-
  The document's integers.
-/
namespace Go.Proofs.Ytjdlcokhlphmhaa
open Go.Sim

theorem fin2z {h' : Heap} {j : Nat} {b0 v0 b v : Value} {K : Value → Heap → Prop} (hg : h'[j]? = some (.arr 46 [b0, v0])) (hk : K (.agg #[b, v]) (h'.set j (.arr 46 [b, v]))) :
    OH (oStore 2 h' (pt j 0) (.agg #[b, v])) fun _ h6 => OP (iLoad true 2 h6 (pt j 0)) fun r0 => K r0 h6 := by
  rw [store2 hg]
  simp only [OH_some]
  rw [load2 (set_get hg)]
  exact OP_some.2 hk

structure Box2z (h : Heap) (va vb : Value) (sa sb : Bool) (h3 : Heap) : Prop where
  ex : EX h h3
  a0 : iLoad false 1 h3 (pt h.length 0) = some (B sa)
  a1 : iLoad false 1 h3 (pt h.length 1) = some va
  b0 : iLoad false 1 h3 (pt (h.length + 1) 0) = some (B sb)
  b1 : iLoad false 1 h3 (pt (h.length + 1) 1) = some vb
  a2 : iLoad true 2 h3 (pt h.length 0) = some (.agg #[B sa, va])
  b2 : iLoad true 2 h3 (pt (h.length + 1) 0) = some (.agg #[B sb, vb])
  out : h3[h.length + 2]? = some (.arr 46 [.bool false, .slice none 0 0])

theorem box2z {h : Heap} {va vb : Value} {sa sb : Bool} {K : Value → Value → Value → Heap → Prop} (hk : ∀ h3, Box2z h va vb sa sb h3 → K (pt h.length 0) (pt (h.length + 1) 0) (pt (h.length + 2) 0) h3) :
    OH (iBox 46 h (.agg #[B sa, va])) fun a2 h_1 => OH (iBox 46 h_1 (.agg #[B sb, vb])) fun b3 h_2 => OH (iAlloc 46 [(.bool false), (.slice none 0 0)] h_2) fun x4 h_3 => K a2 b3 x4 h_3 := by
  have e1 : ∀ (g : Heap) (s : Bool) (v : Value), iBox 46 g (.agg #[B s, v]) = some (pt g.length 0, g ++ [.arr 46 [B s, v]]) := fun _ _ _ => rfl
  have e2 : ∀ (g : Heap), iAlloc 46 [(.bool false), (.slice none 0 0)] g = some (pt g.length 0, g ++ [.arr 46 [(.bool false), (.slice none 0 0)]]) := fun _ => rfl
  simp only [e1, e2, OH_some, List.length_append, List.length_cons, List.length_nil]
  have g0 : (h ++ [IObj.arr 46 [B sa, va]] ++ [IObj.arr 46 [B sb, vb]] ++ [IObj.arr 46 [(.bool false), (.slice none 0 0)]])[h.length]? = some (.arr 46 [B sa, va]) := by simp
  have g1 : (h ++ [IObj.arr 46 [B sa, va]] ++ [IObj.arr 46 [B sb, vb]] ++ [IObj.arr 46 [(.bool false), (.slice none 0 0)]])[h.length + 1]? = some (.arr 46 [B sb, vb]) := by simp
  have g2 : (h ++ [IObj.arr 46 [B sa, va]] ++ [IObj.arr 46 [B sb, vb]] ++ [IObj.arr 46 [(.bool false), (.slice none 0 0)]])[h.length + 2]? = some (.arr 46 [(.bool false), (.slice none 0 0)]) := by simp
  refine hk _ ⟨((EX.append _ _).push _).push _, ?_, ?_, ?_, ?_, load2 g0, load2 g1, g2⟩
  · simp [iLoad, objCells, iPart]
  · simp [iLoad, objCells, iPart]
  · simp [iLoad, objCells, iPart]
  · simp [iLoad, objCells, iPart]

theorem build2 {b : Bool} {e : TypeId} {k : IntKind} {h : Heap} {v : Value} {xs : List Nat} (d : DS e k h v xs) : iBuild [(.bool false), (.slice none 0 0)] [(0, 1, B b), (1, 1, v)] = some (.agg #[B b, v]) := by
  rcases d with ⟨rfl, _⟩ | ⟨i, rfl, _⟩ <;> rfl

theorem C74 {va vb : Value} {a b : Int} {h : Heap} {K : Value → Heap → Prop} (ha : ZV h va a) (hb : ZV h vb b) (la : a.natAbs < bigW) (lb : b.natAbs < bigW) (hk : ∀ r h', EX h h' → ZV h' r (a + b) → K r h') : CallP Try.prog 74 [va, vb] h K := by
  obtain ⟨v, rfl, hv⟩ := ha
  obtain ⟨w, rfl, hw⟩ := hb
  refine f74 ?_
  unfold T74
  refine box2z ?_
  intro h3 x
  have hv3 := hv.mono x.ex
  have hw3 := hw.mono x.ex
  obtain ⟨xs, dx, cx, ex⟩ := id hv3
  obtain ⟨ys, dy, cy, ey⟩ := id hw3
  have l1 := canZ_len cx (by rw [ex]; exact la)
  have l2 := canZ_len cy (by rw [ey]; exact lb)
  simp only [fadr_pt, Nat.add_zero, Nat.zero_add, OP_some, x.a0, x.a1, x.b0, x.b1, eqb_bool, Bool.false_eq_true, if_false]
  -- the result, put in its place
  have put : ∀ (s : Bool) (u : Value) (os : List Nat) (h4 : Heap) (z : Int), EX h3 h4 → DS 3 .i64 h4 u os → Lim 10000 os → os.length ≤ 500 → (if s then -(val 10000 os : Int) else (val 10000 os : Int)) = z → z = a + b →
      OP (iBuild [(.bool false), (.slice none 0 0)] [(0, 1, B s), (1, 1, u)]) fun x17 => CallP Try.prog 98 [x17] h4 fun x18 h_5 => OH (oStore 2 h_5 (pt (h.length + 2) 0) x18) fun _ h_6 => OP (iLoad true 2 h_6 (pt (h.length + 2) 0)) fun r0 => K r0 h_6 := by
    intro s u os h4 z x4 d4 l4 s4 hz hz2
    simp only [build2 d4, OP_some]
    refine C98 d4 l4 (by omega) ?_
    intro r h5 x5 zr
    rw [hz, hz2] at zr
    obtain ⟨q, rfl, hq⟩ := id zr
    have g' := (x4.trans x5).get x.out
    exact fin2z g' (hk _ _ (((x.ex.trans x4).trans x5).set (by omega) _) (zr.setB g' _))
  refine IfP_of (fun he => ?_) fun hne => ?_
  · have hs : decide (a < 0) = decide (b < 0) := by simpa using he
    have hs' : (a < 0 ↔ b < 0) := by simpa using hs
    simp only [true_and]
    refine C99 dx dy cx.1 cy.1 (by omega) (by omega) ?_
    intro u h4 os x4 d4 l4 s4 v4
    refine ⟨⟨EX.load x4 x.a0, trivial⟩, ?_⟩
    have := put (decide (a < 0)) u os h4 _ x4 d4 l4 s4 rfl (by
      rw [v4, ex, ey]
      by_cases h0 : a < 0
      · rw [decide_eq_true h0]; simp; omega
      · rw [decide_eq_false h0]; simp; omega)
    simpa using this
  · have hs : decide (a < 0) ≠ decide (b < 0) := by simpa using hne
    have hs' : ¬ (a < 0 ↔ b < 0) := fun h => hs (decide_eq_decide.2 h)
    refine C100 hv3 hw3 la lb ?_
    simp only [bin_geq, OP_some, IfP_dec]
    have ll : ∀ {p q : List Nat}, Canon 10000 p → Canon 10000 q → val 10000 q ≤ val 10000 p → q.length ≤ p.length := by
      intro p q cp cq hpq
      apply Classical.byContradiction
      intro hc
      have := Canon.lt_of_len (by decide) cp cq (by omega)
      omega
    refine ⟨fun hge => ?_, fun hlt => ?_⟩
    · have hle : b.natAbs ≤ a.natAbs := by
        apply Classical.byContradiction
        intro hc
        unfold sgn at hge
        rw [if_pos (by omega)] at hge
        omega
      simp only [x.a0, x.a1, x.b1, OP_some, true_and]
      refine C101 dx dy cx.1 cy.1 (by omega) (ll cx cy (by omega)) (by omega) ?_
      intro u h4 os x4 d4 l4 s4 v4
      refine ⟨⟨EX.load x4 x.a0, trivial⟩, ?_⟩
      have := put (decide (a < 0)) u os h4 _ x4 d4 l4 s4 rfl (by
        rw [v4, ex, ey]
        by_cases h0 : a < 0
        · rw [decide_eq_true h0]; simp; omega
        · rw [decide_eq_false h0]; simp; omega)
      simpa using this
    · have hle : a.natAbs ≤ b.natAbs := by
        apply Classical.byContradiction
        intro hc
        unfold sgn at hlt
        rw [if_neg (by omega), if_pos (by omega)] at hlt
        omega
      simp only [x.b0, x.a1, x.b1, OP_some, true_and]
      refine C101 dy dx cy.1 cx.1 (by omega) (ll cy cx (by omega)) (by omega) ?_
      intro u h4 os x4 d4 l4 s4 v4
      refine ⟨⟨EX.load x4 x.b0, trivial⟩, ?_⟩
      have := put (decide (b < 0)) u os h4 _ x4 d4 l4 s4 rfl (by
        rw [v4, ex, ey]
        by_cases h0 : b < 0
        · rw [decide_eq_true h0]; simp; omega
        · rw [decide_eq_false h0]; simp; omega)
      simpa using this

theorem MagZ.len0 {h : Heap} {v : Value} {n : Nat} (p : MagZ h v n) : ∃ l : Nat, iLenSl v = some (I l) ∧ (0 < l ↔ 0 < n) := by
  obtain ⟨xs, d, c, rfl⟩ := p
  refine ⟨xs.length, d.len, ?_⟩
  constructor
  · intro h0
    have := Canon.low (by decide) c (by rintro rfl; simp at h0)
    have : 0 < 10000 ^ (xs.length - 1) := Nat.pow_pos (by decide)
    omega
  · intro h0
    cases xs with
    | nil => simp [val] at h0
    | cons x xs => simp

theorem C104 {va : Value} {a : Int} {h : Heap} {K : Value → Heap → Prop} (ha : ZV h va a) (hk : ∀ r h', EX h h' → ZV h' r (-a) → K r h') : CallP Try.prog 104 [va] h K := by
  obtain ⟨v, rfl, hv⟩ := ha
  refine f104 ?_
  have e1 : iBox 46 h (.agg #[B (decide (a < 0)), v]) = some (pt h.length 0, h ++ [.arr 46 [B (decide (a < 0)), v]]) := rfl
  have e2 : ∀ (g : Heap), iAlloc 46 [(.bool false), (.slice none 0 0)] g = some (pt g.length 0, g ++ [.arr 46 [(.bool false), (.slice none 0 0)]]) := fun _ => rfl
  simp only [T104, e1, e2, OH_some, List.length_append, List.length_cons, List.length_nil]
  have g0 : (h ++ [IObj.arr 46 [B (decide (a < 0)), v]] ++ [IObj.arr 46 [(.bool false), (.slice none 0 0)]])[h.length]? = some (.arr 46 [B (decide (a < 0)), v]) := by simp
  have g1 : (h ++ [IObj.arr 46 [B (decide (a < 0)), v]] ++ [IObj.arr 46 [(.bool false), (.slice none 0 0)]])[h.length + 1]? = some (.arr 46 [(.bool false), (.slice none 0 0)]) := by simp
  have x1 : EX h (h ++ [IObj.arr 46 [B (decide (a < 0)), v]] ++ [IObj.arr 46 [(.bool false), (.slice none 0 0)]]) := (EX.append _ _).push _
  generalize h ++ [IObj.arr 46 [B (decide (a < 0)), v]] ++ [IObj.arr 46 [(.bool false), (.slice none 0 0)]] = h1 at g0 g1 x1 ⊢
  have l0 : iLoad false 1 h1 (pt h.length 0) = some (B (decide (a < 0))) := by simp [iLoad, objCells, g0, iPart]
  have l1 : iLoad false 1 h1 (pt h.length 1) = some v := by simp [iLoad, objCells, g0, iPart]
  have hv1 := hv.mono x1
  obtain ⟨l, n1, n2⟩ := hv1.len0
  have last : ∀ c : Bool, c = decide (-a < 0) → OH (oStore 1 h1 (pt h.length 0) (B c)) fun _ h_1 => OP (iLoad true 2 h_1 (pt h.length 0)) fun x13 => OH (oStore 2 h_1 (pt (h.length + 1) 0) x13) fun _ h_2 => OP (iLoad true 2 h_2 (pt (h.length + 1) 0)) fun r0 => K r0 h_2 := by
    rintro c rfl
    rw [store_at g0 (by simp) rfl rfl]
    simp only [OH_some, List.set_cons_zero]
    rw [load2 (set_get g0)]
    simp only [OP_some]
    have m1 : (h1.set h.length (.arr 46 [B (decide (-a < 0)), v]))[h.length + 1]? = some (.arr 46 [(.bool false), (.slice none 0 0)]) := by rw [List.getElem?_set_ne (by omega)]; exact g1
    refine fin2z m1 (hk _ _ ((x1.set (Nat.le_refl _) _).set (by omega) _) ⟨v, rfl, ?_⟩)
    have : (-a).natAbs = a.natAbs := by omega
    rw [this]
    exact (hv1.setB g0 _).setB m1 _
  simp only [fadr_pt, Nat.add_zero, OP_some, l0, un_not]
  by_cases h0 : a < 0
  · rw [decide_eq_true h0]
    simp only [Bool.not_true, q104z4, GdP_ft, q104z6, iPick_f, OP_some, fadr_pt, Nat.add_zero]
    rw [decide_eq_true h0] at *
    exact last _ (by simp; omega)
  · rw [decide_eq_false h0]
    simp only [Bool.not_false, q104z4, GdP_tt, fadr_pt, Nat.zero_add, OP_some, l1, n1, bin_gtr, q104z6, iPick_t, Nat.add_zero]
    refine last _ ?_
    rw [decide_eq_decide]
    omega

theorem C105 {va vb : Value} {a b : Int} {h : Heap} {K : Value → Heap → Prop} (ha : ZV h va a) (hb : ZV h vb b) (la : a.natAbs < bigW) (lb : b.natAbs < bigW) (hk : ∀ r h', EX h h' → ZV h' r (a - b) → K r h') : CallP Try.prog 105 [va, vb] h K := by
  have ha0 := ha
  have hb0 := hb
  obtain ⟨v, rfl, hv⟩ := ha
  obtain ⟨w, rfl, hw⟩ := hb
  refine f105 ?_
  unfold T105
  refine box2z ?_
  intro h3 x
  simp only [OP_some, x.a2, x.b2, true_and]
  refine C104 (hb0.mono x.ex) ?_
  intro r1 h4 x4 i1
  refine ⟨⟨EX.load x4 x.a2, trivial⟩, ?_⟩
  refine C74 (ha0.mono (x.ex.trans x4)) i1 la (by rw [Int.natAbs_neg]; exact lb) ?_
  intro r2 h5 x5 i2
  have g' := (x4.trans x5).get x.out
  obtain ⟨u, rfl, hu⟩ := id i2
  refine fin2z g' (hk _ _ (((x.ex.trans x4).trans x5).set (by omega) _) ?_)
  rw [Int.sub_eq_add_neg]
  exact i2.setB g' _

def isgn (z : Int) : Int := if z = 0 then 0 else if z < 0 then -1 else 1

theorem C40 {va : Value} {a : Int} {h : Heap} {K : Value → Heap → Prop} (ha : ZV h va a) (hk : ∀ h', EX h h' → K (I (isgn a)) h') : CallP Try.prog 40 [va] h K := by
  obtain ⟨v, rfl, hv⟩ := ha
  refine f40 ?_
  have e1 : iBox 46 h (.agg #[B (decide (a < 0)), v]) = some (pt h.length 0, h ++ [.arr 46 [B (decide (a < 0)), v]]) := rfl
  simp only [T40, e1, OH_some]
  have l0 : iLoad false 1 (h ++ [.arr 46 [B (decide (a < 0)), v]]) (pt h.length 0) = some (B (decide (a < 0))) := load_last rfl
  have l1 : iLoad false 1 (h ++ [.arr 46 [B (decide (a < 0)), v]]) (pt h.length 1) = some v := load_last rfl
  have x1 : EX h (h ++ [.arr 46 [B (decide (a < 0)), v]]) := EX.append _ _
  obtain ⟨l, n1, n2⟩ := hv.len0
  have hk' := hk _ x1
  unfold isgn at hk'
  simp only [fadr_pt, Nat.zero_add, Nat.add_zero, OP_some, l1, n1, bin_eql, IfP_dec, l0]
  refine ⟨fun h0 => ?_, fun h0 => ⟨fun hn => ?_, fun hn => ?_⟩⟩
  · rw [if_pos (by omega)] at hk'; exact hk'
  · rw [if_neg (by omega), if_pos hn] at hk'; exact hk'
  · rw [if_neg (by omega), if_neg hn] at hk'; exact hk'

theorem C76 {va vb : Value} {a b : Int} {h : Heap} {K : Value → Heap → Prop} (ha : ZV h va a) (hb : ZV h vb b) (la : a.natAbs < bigW) (lb : b.natAbs < bigW) (hk : ∀ h', EX h h' → K (I (isgn (a - b))) h') : CallP Try.prog 76 [va, vb] h K := by
  have ha0 := ha
  have hb0 := hb
  obtain ⟨v, rfl, hv⟩ := ha
  obtain ⟨w, rfl, hw⟩ := hb
  refine f76 ?_
  have e1 : ∀ (g : Heap) (s : Bool) (v : Value), iBox 46 g (.agg #[B s, v]) = some (pt g.length 0, g ++ [.arr 46 [B s, v]]) := fun _ _ _ => rfl
  simp only [T76, e1, OH_some, List.length_append, List.length_cons, List.length_nil]
  have g0 : (h ++ [IObj.arr 46 [B (decide (a < 0)), v]] ++ [IObj.arr 46 [B (decide (b < 0)), w]])[h.length]? = some (.arr 46 [B (decide (a < 0)), v]) := by simp
  have g1 : (h ++ [IObj.arr 46 [B (decide (a < 0)), v]] ++ [IObj.arr 46 [B (decide (b < 0)), w]])[h.length + 1]? = some (.arr 46 [B (decide (b < 0)), w]) := by simp
  have x1 : EX h (h ++ [IObj.arr 46 [B (decide (a < 0)), v]] ++ [IObj.arr 46 [B (decide (b < 0)), w]]) := (EX.append _ _).push _
  simp only [Nat.zero_add, load2 g0, load2 g1, OP_some]
  refine C105 (ha0.mono x1) (hb0.mono x1) la lb ?_
  intro r h2 x2 zr
  refine C40 zr ?_
  intro h3 x3
  exact hk h3 ((x1.trans x2).trans x3)

end Go.Proofs.Ytjdlcokhlphmhaa

/-
  The document's integers: from an int, and their product.
-/
namespace Go.Proofs.Ytjdlcokhlphmhaa
open Go.Sim

theorem appD' {b : Nat} {hx : Heap} {v : Value} {os : List Nat} {d : Nat} {K : Value → Heap → Prop} (hb : b ≤ hx.length) (o : OwnD b hx v os) (hl : os.length ≤ 10000)
    (hk : ∀ v' hx', (∀ d, d < b → hx'[d]? = hx[d]?) → b ≤ hx'.length → OwnD b hx' v' (os ++ [d]) → K v' hx') : OH (iMkSl 3 1 [.int .i64 0] hx [(0, 1, I d)]) fun a h2 => OH (iApp 3 1 8 h2 v a) K := by
  have hlen : (hx.take b).length = b := by rw [List.length_take]; omega
  have hex : EX (hx.take b) hx := by
    refine ⟨by omega, fun i hi => ?_⟩
    rw [List.getElem?_take_of_lt (by omega)]
  refine appD (h0 := hx.take b) (by rw [hlen]; exact o) hex hl ?_
  intro v' hx' x o'
  rw [hlen] at o'
  refine hk v' hx' (fun d hd => ?_) (by have := x.1; omega) o'
  rw [x.2 d (by omega), List.getElem?_take_of_lt hd]

theorem OwnD.set {b j : Nat} {hx : Heap} {v : Value} {os : List Nat} (o : OwnD b hx v os) (hj : j < b) (x : IObj) : OwnD b (hx.set j x) v os :=
  OwnS.keep o fun d _ _ hd => by rw [List.getElem?_set_ne (by omega)]

theorem remI {a : Int} {b : Nat} (hb : b ≠ 0) : iBin .rem (.int .i64 a) (.int .i64 (b : Int)) = some (I (a.tmod b)) := by
  have h : ¬ ((b : Int) = 0) := by omega
  simp only [iBin, iInt, if_true, if_neg h]
theorem quoII {a : Int} {b : Nat} (hb : b ≠ 0) (h1 : -9223372036854775808 < a) (h2 : a < 9223372036854775808) : iBin .quo (.int .i64 a) (.int .i64 (b : Int)) = some (I (a.tdiv b)) := by
  have h : ¬ ((b : Int) = 0) := by omega
  have h3 : (a.tdiv b).natAbs ≤ a.natAbs := by
    rw [Int.natAbs_tdiv, Int.natAbs_natCast]; exact Nat.div_le_self _ _
  simp only [iBin, iInt, if_true, if_neg h]
  rw [wrap64 (by omega) (by omega)]

theorem C29 {z : Int} {h : Heap} {K : Value → Heap → Prop} (hz : z.natAbs < 1000000000000000000) (hk : ∀ r h', EX h h' → ZV h' r z → K r h') : CallP Try.prog 29 [I z] h K := by
  refine f29 ?_
  have e2 : ∀ g : Heap, iAlloc 46 [(.bool false), (.slice none 0 0)] g = some (pt g.length 0, g ++ [.arr 46 [(.bool false), (.slice none 0 0)]]) := fun _ => rfl
  have e3 : ∀ b : Bool, iBuild [(.bool false), (.slice none 0 0)] [(0, 1, B b)] = some (.agg #[B b, .slice none 0 0]) := fun _ => rfl
  simp only [T29, e2, OH_some, bin_lss, OP_some, e3, List.length_append, List.length_cons, List.length_nil]
  have g1 : (h ++ [IObj.arr 46 [(.bool false), (.slice none 0 0)]] ++ [IObj.arr 46 [(.bool false), (.slice none 0 0)]])[h.length + 1]? = some (.arr 46 [(.bool false), (.slice none 0 0)]) := by simp
  have g0 : (h ++ [IObj.arr 46 [(.bool false), (.slice none 0 0)]] ++ [IObj.arr 46 [(.bool false), (.slice none 0 0)]])[h.length]? = some (.arr 46 [(.bool false), (.slice none 0 0)]) := by simp
  have x1 : EX h (h ++ [IObj.arr 46 [(.bool false), (.slice none 0 0)]] ++ [IObj.arr 46 [(.bool false), (.slice none 0 0)]]) := (EX.append _ _).push _
  have hl1 : (h ++ [IObj.arr 46 [(.bool false), (.slice none 0 0)]] ++ [IObj.arr 46 [(.bool false), (.slice none 0 0)]]).length = h.length + 2 := by simp
  generalize h ++ [IObj.arr 46 [(.bool false), (.slice none 0 0)]] ++ [IObj.arr 46 [(.bool false), (.slice none 0 0)]] = h1 at *
  simp only [Nat.zero_add]
  rw [store2 g1]
  simp only [OH_some]
  refine loopL (σ := Int × List Nat × Value × Heap) (fun p => [I p.1]) (fun p => p.2.2.2)
    (fun p => h.length + 2 ≤ p.2.2.2.length ∧ EX h p.2.2.2 ∧ p.2.2.2[h.length]? = some (.arr 46 [.bool false, .slice none 0 0]) ∧ p.2.2.2[h.length + 1]? = some (.arr 46 [B (decide (z < 0)), p.2.2.1]) ∧ OwnD (h.length + 2) p.2.2.2 p.2.2.1 p.2.1 ∧ Lim 10000 p.2.1 ∧ p.2.1.length ≤ 5 ∧ p.1.natAbs < 10000 ^ (5 - p.2.1.length) ∧ val 10000 p.2.1 + 10000 ^ p.2.1.length * p.1.natAbs = z.natAbs ∧ (p.1 = 0 → Canon 10000 p.2.1)) (fun p => p.1.natAbs)
    (z, [], .slice none 0 0, h1.set (h.length + 1) (.arr 46 [B (decide (z < 0)), .slice none 0 0])) rfl rfl
    ⟨by simp [hl1], x1.set (by omega) _, by rw [List.getElem?_set_ne (by omega)]; exact g0, set_get g1, .inl ⟨rfl, rfl⟩, fun _ hx => by simp at hx, by simp, by simp; omega, by simp [val], fun _ => Canon.nil _⟩ ?_
  rintro ⟨a, os, v, hx⟩ ⟨hlen, hex, k0, k1, hown, hlim, hol, hab, hval, hcan⟩ L hL
  simp only at hlen hex k0 k1 hown hlim hol hab hval hcan hL ⊢
  rw [q29z5]
  simp only [bin_neq, OP_some, IfP_ndec]
  refine ⟨fun hne => ?_, fun heq => ?_⟩
  · have ha0 : a ≠ 0 := hne
    have hzle : a.natAbs ≤ z.natAbs := by
      have : 1 * a.natAbs ≤ 10000 ^ os.length * a.natAbs := Nat.mul_le_mul_right _ (Nat.pow_pos (by decide))
      omega
    have hol' : os.length < 5 := by
      apply Classical.byContradiction
      intro hc
      have : 5 - os.length = 0 := by omega
      rw [this] at hab
      omega
    have hmod : (a.tmod 10000).natAbs = a.natAbs % 10000 := Int.natAbs_tmod _ _
    have hdiv : (a.tdiv 10000).natAbs = a.natAbs / 10000 := Int.natAbs_tdiv _ _
    have step : p29z12 Try.prog K (I a) (pt h.length 0) (pt (h.length + 1) 0) (I ((a.natAbs % 10000 : Nat) : Int)) L hx := by
      rw [q29z12]
      have ld : iLoad false 1 hx (pt (h.length + 1) 1) = some v := by simp [iLoad, objCells, k1, iPart]
      simp only [fadr_pt, Nat.zero_add, OP_some, ld]
      refine appD' hlen hown (by omega) ?_
      intro v' hx' hs hl' hown'
      have k1' : hx'[h.length + 1]? = some (.arr 46 [B (decide (z < 0)), v]) := by rw [hs _ (by omega)]; exact k1
      rw [store_at k1' (by simp) hown'.ds.one.1 hown'.ds.one.2]
      simp only [OH_some, List.set_cons_succ, List.set_cons_zero]
      rw [show (.int .i64 10000 : Value) = .int .i64 ((10000 : Nat) : Int) from rfl, quoII (by decide) (by omega) (by omega)]
      simp only [OP_some, true_and]
      have hdm := Nat.mod_add_div a.natAbs 10000
      have el : (os ++ [a.natAbs % 10000]).length = os.length + 1 := by simp
      have hm : a.natAbs % 10000 < 10000 := Nat.mod_lt _ (by decide)
      have hdiv' : (a.tdiv ((10000 : Nat) : Int)).natAbs = a.natAbs / 10000 := hdiv
      refine hL (a.tdiv ((10000 : Nat) : Int), os ++ [a.natAbs % 10000], v', hx'.set (h.length + 1) (.arr 46 [B (decide (z < 0)), v'])) ⟨?_, ?_, ?_, set_get k1', hown'.set (by omega) _, hlim.append (fun y hy => by simp at hy; omega), by rw [el]; omega, ?_, ?_, ?_⟩ ?_
      · rw [List.length_set]; exact hl'
      · refine EX.set ⟨by have := hex.1; omega, fun i hi => ?_⟩ (by omega) _
        rw [hs i (by omega)]; exact hex.2 i hi
      · rw [List.getElem?_set_ne (by omega), hs _ (by omega)]; exact k0
      · show (a.tdiv ((10000 : Nat) : Int)).natAbs < _
        rw [el, hdiv']
        have : 5 - os.length = (5 - (os.length + 1)) + 1 := by omega
        rw [this, Nat.pow_succ] at hab
        exact Nat.div_lt_of_lt_mul (by rw [Nat.mul_comm]; exact hab)
      · show val 10000 (os ++ [a.natAbs % 10000]) + 10000 ^ (os ++ [a.natAbs % 10000]).length * (a.tdiv ((10000 : Nat) : Int)).natAbs = _
        rw [el, val_append, hdiv', ← hval, Nat.pow_succ]
        simp only [val, Nat.mul_zero, Nat.add_zero]
        have := congrArg (10000 ^ os.length * ·) hdm
        rw [Nat.mul_add] at this
        rw [← this, Nat.mul_assoc, Nat.add_assoc]
      · intro h0
        have h0' : a.natAbs / 10000 = 0 := by
          have h0b : a.tdiv ((10000 : Nat) : Int) = 0 := h0
          rw [← hdiv', h0b]; rfl
        refine can_of_last (hlim.append (fun y hy => by simp at hy; omega)) ?_
        intro h1 h2
        simp only [el, Nat.add_sub_cancel] at h2
        rw [List.getElem_append_right (Nat.le_refl _)] at h2
        simp at h2
        omega
      · show (a.tdiv ((10000 : Nat) : Int)).natAbs < a.natAbs
        rw [hdiv']
        exact Nat.div_lt_self (by omega) (by decide)
    rw [show (.int .i64 10000 : Value) = .int .i64 ((10000 : Nat) : Int) from rfl, remI (by decide)]
    simp only [OP_some, bin_lss, IfP_dec]
    have hmod' : (a.tmod ((10000 : Nat) : Int)).natAbs = a.natAbs % 10000 := hmod
    refine ⟨fun hn => ?_, fun hn => ?_⟩
    · have e4 : iUn .neg (I (a.tmod ((10000 : Nat) : Int))) = some (I (-(a.tmod ((10000 : Nat) : Int)))) := by
        simp only [iUn]
        rw [wrap64 (by omega) (by omega), Int.zero_sub]
      rw [e4]
      simp only [OP_some]
      rw [show -(a.tmod ((10000 : Nat) : Int)) = ((a.natAbs % 10000 : Nat) : Int) by omega]
      exact step
    · rw [show a.tmod ((10000 : Nat) : Int) = ((a.natAbs % 10000 : Nat) : Int) by omega]
      exact step
  · have ha : a = 0 := heq
    subst ha
    rw [q29z14]
    rw [load2 k1]
    simp only [OP_some]
    rw [store2 k0]
    simp only [OH_some]
    rw [load2 (set_get k0)]
    refine OP_some.2 (hk _ _ (hex.set (Nat.le_refl _) _) ⟨v, rfl, os, hown.ds.setB k0 _, hcan rfl, ?_⟩)
    simpa using hval

/-! ### The product -/

abbrev hz (h : Heap) (os : List Nat) : Heap := h ++ [.arr 3 (os.map fun d : Nat => I d)]

theorem make_hz {h : Heap} {n : Nat} (hn : n ≤ 1000) : iMake 3 8 [.int .i64 0] h (I n) (I n) = some (sl 3 h.length 0 n, hz h (List.replicate n 0)) := by
  have hzr : ∀ m, zrep [Value.int .i64 0] m = (List.replicate m 0).map fun d : Nat => I d := by
    intro m
    induction m with
    | zero => rfl
    | succ m ih =>
      have : zrep [Value.int .i64 0] (m + 1) = Value.int .i64 0 :: zrep [Value.int .i64 0] m := by simp [zrep, List.replicate_succ]
      rw [this, ih, List.replicate_succ]; rfl
  simp only [iMake]
  rw [if_pos ⟨by omega, by omega, by omega, by omega⟩, Int.toNat_natCast, hzr]

theorem hz_get (h : Heap) (os : List Nat) : (hz h os)[h.length]? = some (.arr 3 (os.map fun d : Nat => I d)) := by simp [hz]

theorem hz_store {h : Heap} {os : List Nat} {j : Nat} (d : Nat) (hj : j < os.length) : oStore 1 (hz h os) (pt h.length j) (I d) = some (undef, hz h (os.set j d)) := by
  rw [store_at (hz_get h os) (by simpa using hj) rfl rfl]
  simp [hz, List.map_set]

theorem hz_load {h : Heap} {os : List Nat} {j : Nat} (hj : j < os.length) : iLoad false 1 (hz h os) (pt h.length j) = some (I os[j]) := by
  simp [iLoad, objCells, hz_get, iPart, hj]

theorem hz_DS (h : Heap) (os : List Nat) : DS 3 .i64 (hz h os) (sl 3 h.length 0 os.length) os := .inr ⟨h.length, rfl, .inr ⟨[], by simp [objCells, hz]⟩⟩
theorem hz_EX (h : Heap) (os : List Nat) : EX h (hz h os) := EX.append _ _

theorem mul_lt4 {x y : Nat} (hx : x < 10000) (hy : y < 10000) : x * y ≤ 99980001 := by
  have := Nat.mul_le_mul (show x ≤ 9999 by omega) (show y ≤ 9999 by omega)
  omega

theorem sgn_mul (a b : Int) : (if (!(decide (a < 0) == decide (b < 0))) = true then -((a.natAbs * b.natAbs : Nat) : Int) else ((a.natAbs * b.natAbs : Nat) : Int)) = a * b := by
  have ea : (a.natAbs : Int) = if a < 0 then -a else a := by split <;> omega
  have eb : (b.natAbs : Int) = if b < 0 then -b else b := by split <;> omega
  rw [Int.natCast_mul, ea, eb]
  by_cases h1 : a < 0 <;> by_cases h2 : b < 0 <;> simp [h1, h2, Int.neg_mul, Int.mul_neg]

theorem C77 {va vb : Value} {a b : Int} {h : Heap} {K : Value → Heap → Prop} (ha : ZV h va a) (hb : ZV h vb b) (la : a.natAbs < bigW) (lb : b.natAbs < bigW) (hk : ∀ r h', EX h h' → ZV h' r (a * b) → K r h') : CallP Try.prog 77 [va, vb] h K := by
  obtain ⟨v, rfl, hv⟩ := ha
  obtain ⟨w, rfl, hw⟩ := hb
  refine f77 ?_
  unfold T77
  refine box2z ?_
  intro h3 x
  obtain ⟨xs, dx, cx, ex⟩ := hv.mono x.ex
  obtain ⟨ys, dy, cy, ey⟩ := hw.mono x.ex
  have l1 := canZ_len cx (by rw [ex]; exact la)
  have l2 := canZ_len cy (by rw [ey]; exact lb)
  have hB : (0 : Nat) < 10000 := by decide
  have e0 : IntKind.wrap .i64 ((xs.length : Int) + (ys.length : Int)) = ((xs.length + ys.length : Nat) : Int) := by rw [wrap64 (by omega) (by omega)]; omega
  simp only [fadr_pt, Nat.add_zero, Nat.zero_add, OP_some, x.a1, x.b1, dx.len, dy.len, bin_add, e0, inc (xs.length + ys.length) (by omega), make_hz (show xs.length + ys.length + 1 ≤ 1000 by omega), OH_some]
  refine loopL (σ := Nat × List Nat) (fun p => [I p.1]) (fun p => hz h3 p.2)
    (fun p => p.1 ≤ xs.length ∧ p.2.length = xs.length + ys.length + 1 ∧ Lim 10000 p.2 ∧ (∀ j (hj : j < p.2.length), p.1 + ys.length ≤ j → p.2[j] = 0) ∧ val 10000 p.2 = val 10000 (xs.take p.1) * val 10000 ys) (fun p => xs.length - p.1)
    (0, List.replicate (xs.length + ys.length + 1) 0) rfl rfl ⟨by simp, by simp, Lim.zeros hB _, by simp, by simp [val_zeros, val]⟩ ?_
  rintro ⟨i, os⟩ ⟨hi, hol, hlim, hzr, hval⟩ L hL
  simp only at hi hol hlim hzr hval hL ⊢
  have ldA : ∀ ps, iLoad false 1 (hz h3 ps) (pt h.length 1) = some v := fun ps => EX.load (hz_EX h3 ps) x.a1
  have ldB : ∀ ps, iLoad false 1 (hz h3 ps) (pt (h.length + 1) 1) = some w := fun ps => EX.load (hz_EX h3 ps) x.b1
  rw [q77z6]
  simp only [fadr_pt, Nat.add_zero, Nat.zero_add, ldA, dx.len, bin_lss, OP_some, IfP_dec]
  refine ⟨fun hlt => ?_, fun hge => ?_⟩
  · have hil : i < xs.length := by omega
    have hxl : xs[i] < 10000 := cx.1 _ (List.getElem_mem hil)
    have hvt := val_take_succ 10000 xs hil
    refine loopL (σ := Nat × Nat × List Nat) (fun p => [I p.1, I p.2.1]) (fun p => hz h3 p.2.2)
      (fun p => p.2.1 ≤ ys.length + 1 ∧ (p.2.1 = ys.length + 1 → p.1 = 0) ∧ p.1 < 10000 ∧ p.2.2.length = xs.length + ys.length + 1 ∧ Lim 10000 p.2.2 ∧ (∀ j (hj : j < p.2.2.length), i + ys.length + 1 ≤ j → p.2.2[j] = 0) ∧ (p.2.1 ≤ ys.length → ∀ j (hj : j < p.2.2.length), i + ys.length ≤ j → p.2.2[j] = 0) ∧ val 10000 p.2.2 + 10000 ^ (i + p.2.1) * p.1 = val 10000 os + 10000 ^ i * (xs[i] * val 10000 (ys.take p.2.1))) (fun p => ys.length + 1 - p.2.1)
      (0, 0, os) rfl rfl ⟨by simp, by simp, hB, hol, hlim, fun j hj h => hzr j hj (by omega), fun _ => hzr, by simp [val]⟩ ?_
    rintro ⟨c, k, ps⟩ ⟨hk0, hkc, hc, hpl, hplim, hpz, hpz2, hpval⟩ L2 hL2
    simp only at hk0 hkc hc hpl hplim hpz hpz2 hpval hL2 ⊢
    have dx' := dx.mono (hz_EX h3 ps)
    have dy' := dy.mono (hz_EX h3 ps)
    have hpk : i + k < ps.length := by omega
    have hol2 : ps[i + k] < 10000 := hplim _ (List.getElem_mem hpk)
    have ei : IntKind.wrap .i64 ((i : Int) + (k : Int)) = ((i + k : Nat) : Int) := by rw [wrap64 (by omega) (by omega)]; omega
    -- the next digit
    have step : ∀ p : Nat, p ≤ 99980001 → k < ys.length + 1 → (k = ys.length → p = 0) → xs[i] * val 10000 (ys.take (k + 1)) = xs[i] * val 10000 (ys.take k) + 10000 ^ k * p →
        p77z26 Try.prog K (pt h.length 0) (pt (h.length + 1) 0) (pt (h.length + 2) 0) (sl 3 h3.length 0 (xs.length + ys.length + 1)) (I i) (I k) (I ((ps[i + k] + c + p : Nat) : Int)) L L2 (hz h3 ps) := by
      intro p hp hkl hkp hpv
      rw [q77z26]
      have hset := val_set 10000 ps (i + k) ((ps[i + k] + c + p) % 10000) hpk
      have hmod : (ps[i + k] + c + p) % 10000 < 10000 := Nat.mod_lt _ hB
      have hdm := Nat.mod_add_div (ps[i + k] + c + p) 10000
      have hdiv : (ps[i + k] + c + p) / 10000 < 10000 := by omega
      have hend : k = ys.length → (ps[i + k] + c + p) / 10000 = 0 := by
        intro hke
        have := hpz2 (by omega) (i + k) hpk (by omega)
        rw [this, hkp hke]
        omega
      simp only [bin_add, ei, OP_some]
      rw [show (.int .i64 10000 : Value) = .int .i64 ((10000 : Nat) : Int) from rfl, rem_nat _ _ _ (by decide), quoI (by decide) (by omega)]
      simp only [OP_some]
      rw [adr_sl (show i + k < xs.length + ys.length + 1 by omega)]
      simp only [OP_some]
      rw [hz_store _ hpk]
      simp only [OH_some, q77z27, bin_add, OP_some, inc k (by omega), true_and]
      refine hL2 ((ps[i + k] + c + p) / 10000, k + 1, ps.set (i + k) ((ps[i + k] + c + p) % 10000)) ⟨by show k + 1 ≤ ys.length + 1; omega, fun h => hend (by simp only at h; omega), hdiv, by show (ps.set _ _).length = _; rw [List.length_set]; exact hpl, hplim.set hmod _, ?_, ?_, ?_⟩ (by show ys.length + 1 - (k + 1) < ys.length + 1 - k; omega)
      · intro j hj hij
        show (ps.set (i + k) _)[j] = 0
        rw [List.getElem_set_ne (by omega)]
        exact hpz j (by simpa using hj) hij
      · intro hk1 j hj hij
        have hk2 : k + 1 ≤ ys.length := hk1
        show (ps.set (i + k) _)[j] = 0
        rw [List.getElem_set_ne (by omega)]
        exact hpz2 (by omega) j (by simpa using hj) hij
      · show val 10000 (ps.set (i + k) _) + 10000 ^ (i + (k + 1)) * _ = val 10000 os + 10000 ^ i * (xs[i] * val 10000 (ys.take (k + 1)))
        rw [hpv, ← Nat.add_assoc, Nat.pow_succ]
        rw [Nat.pow_add] at hset hpval ⊢
        generalize ps[i + k] = o at *
        generalize (o + c + p) % 10000 = m at *
        generalize (o + c + p) / 10000 = q at *
        generalize xs[i] * val 10000 (ys.take k) = v at *
        generalize val 10000 (ps.set (i + k) m) = s1 at *
        generalize val 10000 ps = s0 at *
        generalize val 10000 os = s2 at *
        generalize 10000 ^ i = P at *
        generalize 10000 ^ k = Q at *
        clear hL2 hL dx dy dx' dy' hv hw x ldA ldB
        have h1 : P * Q * (m + 10000 * q) = P * Q * (o + c + p) := by rw [hdm]
        grind
    have body : k < ys.length + 1 → OP (iBin .add (I i) (I k)) fun x40 => OP (iAdrSl 1 (sl 3 h3.length 0 (xs.length + ys.length + 1)) x40) fun x41 => OP (iLoad false 1 (hz h3 ps) x41) fun x42 => OP (iBin .add x42 (I c)) fun x44 =>
        OP (iLenSl w) fun x48 => OP (iBin .lss (I k) x48) fun x49 => IfP x49
          (OP (iAdrSl 1 v (I i)) fun x54 => OP (iLoad false 1 (hz h3 ps) x54) fun x55 => OP (iAdrSl 1 w (I k)) fun x59 => OP (iLoad false 1 (hz h3 ps) x59) fun x60 => OP (iBin .mul x55 x60) fun x61 => OP (iBin .add x44 x61) fun x62 =>
            p77z26 Try.prog K (pt h.length 0) (pt (h.length + 1) 0) (pt (h.length + 2) 0) (sl 3 h3.length 0 (xs.length + ys.length + 1)) (I i) (I k) x62 L L2 (hz h3 ps))
          (p77z26 Try.prog K (pt h.length 0) (pt (h.length + 1) 0) (pt (h.length + 2) 0) (sl 3 h3.length 0 (xs.length + ys.length + 1)) (I i) (I k) x44 L L2 (hz h3 ps)) := by
      intro hkl
      have e1 : IntKind.wrap .i64 ((ps[i + k] : Int) + (c : Int)) = ((ps[i + k] + c : Nat) : Int) := by rw [wrap64 (by omega) (by omega)]; omega
      simp only [bin_add, ei, OP_some]
      rw [adr_sl (show i + k < xs.length + ys.length + 1 by omega)]
      simp only [OP_some, hz_load hpk, bin_add, e1, dy.len, bin_lss, IfP_dec]
      refine ⟨fun hlt2 => ?_, fun hge2 => ?_⟩
      · have hkl2 : k < ys.length := by omega
        obtain ⟨ia, a1, a2⟩ := dx'.get hil
        obtain ⟨ib, b1, b2⟩ := dy'.get hkl2
        have hyl : ys[k] < 10000 := cy.1 _ (List.getElem_mem hkl2)
        have hxy := mul_lt4 hxl hyl
        have cst : ((xs[i] : Int) * (ys[k] : Int)) = ((xs[i] * ys[k] : Nat) : Int) := by simp
        have e2 : IntKind.wrap .i64 ((ps[i + k] + c : Nat) + (xs[i] * ys[k] : Nat) : Int) = ((ps[i + k] + c + xs[i] * ys[k] : Nat) : Int) := by rw [wrap64 (by omega) (by omega)]; omega
        simp only [a1, a2, b1, b2, OP_some, bin_mul, cst]
        rw [wrap64 (n := ((xs[i] * ys[k] : Nat) : Int)) (by omega) (by omega)]
        simp only [bin_add, OP_some, e2]
        refine step (xs[i] * ys[k]) hxy hkl (fun h => by omega) ?_
        rw [val_take_succ 10000 ys hkl2]
        grind
      · have hke : k = ys.length := by omega
        have := step 0 (by omega) hkl (fun _ => rfl) (by rw [hke, List.take_length, List.take_of_length_le (by omega)]; rfl)
        simpa using this
    rw [q77z14]
    simp only [fadr_pt, Nat.add_zero, Nat.zero_add, ldB, dy.len, bin_lss, OP_some]
    have other : ∀ t : Bool, (t = true → k < ys.length + 1) → (t = false → ys.length ≤ k ∧ c = 0) → IfP (B t) (OP (iBin .add (I i) (I k)) fun x40 => OP (iAdrSl 1 (sl 3 h3.length 0 (xs.length + ys.length + 1)) x40) fun x41 => OP (iLoad false 1 (hz h3 ps) x41) fun x42 => OP (iBin .add x42 (I c)) fun x44 =>
        OP (iLenSl w) fun x48 => OP (iBin .lss (I k) x48) fun x49 => IfP x49
          (OP (iAdrSl 1 v (I i)) fun x54 => OP (iLoad false 1 (hz h3 ps) x54) fun x55 => OP (iAdrSl 1 w (I k)) fun x59 => OP (iLoad false 1 (hz h3 ps) x59) fun x60 => OP (iBin .mul x55 x60) fun x61 => OP (iBin .add x44 x61) fun x62 =>
            p77z26 Try.prog K (pt h.length 0) (pt (h.length + 1) 0) (pt (h.length + 2) 0) (sl 3 h3.length 0 (xs.length + ys.length + 1)) (I i) (I k) x62 L L2 (hz h3 ps))
          (p77z26 Try.prog K (pt h.length 0) (pt (h.length + 1) 0) (pt (h.length + 2) 0) (sl 3 h3.length 0 (xs.length + ys.length + 1)) (I i) (I k) x44 L L2 (hz h3 ps)))
        (p77z28 Try.prog K (pt h.length 0) (pt (h.length + 1) 0) (pt (h.length + 2) 0) (sl 3 h3.length 0 (xs.length + ys.length + 1)) (I i) L (hz h3 ps)) := by
      intro t h1 h2
      refine IfP_of (fun he => body (h1 (by simpa using he))) fun hne => ?_
      obtain ⟨h3', rfl⟩ := h2 (by simpa using hne)
      rw [q77z28]
      simp only [bin_add, OP_some, inc i (by omega), true_and]
      have hfull : val 10000 (ys.take k) = val 10000 ys := by rw [List.take_of_length_le h3']
      refine hL (i + 1, ps) ⟨by show i + 1 ≤ xs.length; omega, hpl, hplim, fun j hj hij => hpz j hj (by have : i + 1 + ys.length ≤ j := hij; omega), ?_⟩ (by show xs.length - (i + 1) < xs.length - i; omega)
      show val 10000 ps = val 10000 (xs.take (i + 1)) * val 10000 ys
      rw [hvt, Nat.add_mul, ← hval, Nat.mul_assoc, ← hfull, ← hpval]
      omega
    by_cases hkl : k < ys.length
    · rw [decide_eq_true (show (k : Int) < (ys.length : Int) by omega)]
      simp only [q77z18, GdP_tf, q77z20, iPick_t, OP_some, fadr_pt, Nat.add_zero, Nat.zero_add, ldA, ldB, true_and]
      exact other true (fun _ => by omega) (fun h => by cases h)
    · rw [decide_eq_false (show ¬ (k : Int) < (ys.length : Int) by omega)]
      simp only [q77z18, GdP_ff, q77z20, bin_gtr, iPick_f, OP_some, fadr_pt, Nat.add_zero, Nat.zero_add, ldA, ldB, true_and]
      exact other _ (fun h => by
        have h0 : (0 : Int) < (c : Int) := by simpa using h
        apply Classical.byContradiction
        intro hc2
        have := hkc (by omega)
        omega) (fun h => by
        have h0 : ¬ (0 : Int) < (c : Int) := by simpa using h
        omega)
  · have : i = xs.length := by omega
    subst this
    rw [q77z29]
    rw [List.take_length] at hval
    have ld0 : iLoad false 1 (hz h3 os) (pt h.length 0) = some (B (decide (a < 0))) := EX.load (hz_EX h3 os) x.a0
    have ld1 : iLoad false 1 (hz h3 os) (pt (h.length + 1) 0) = some (B (decide (b < 0))) := EX.load (hz_EX h3 os) x.b0
    have e : sl 3 h3.length 0 (xs.length + ys.length + 1) = sl 3 h3.length 0 os.length := by rw [hol]
    simp only [fadr_pt, Nat.zero_add, OP_some, ld0, ld1, eqb_bool, if_true, e]
    simp only [build2 (hz_DS h3 os), OP_some]
    refine C98 (hz_DS h3 os) hlim (by omega) ?_
    intro r h5 x5 zr
    have hzv : (if (!(decide (a < 0) == decide (b < 0))) = true then -(val 10000 os : Int) else (val 10000 os : Int)) = a * b := by
      rw [hval, ex, ey]
      exact sgn_mul a b
    rw [hzv] at zr
    obtain ⟨q, rfl, hq⟩ := id zr
    have g' := ((hz_EX h3 os).trans x5).get x.out
    exact fin2z g' (hk _ _ (((x.ex.trans (hz_EX h3 os)).trans x5).set (by omega) _) (zr.setB g' _))

end Go.Proofs.Ytjdlcokhlphmhaa

/-
  The document's fractions: whole ones, sums and products.
-/
namespace Go.Proofs.Ytjdlcokhlphmhaa
open Go.Sim

/-- A fraction in memory: two integers side by side. -/
def QZ (h : Heap) (val : Value) (a b : Int) : Prop := ∃ u w, val = .agg #[B (decide (a < 0)), u, B (decide (b < 0)), w] ∧ MagZ h u a.natAbs ∧ MagZ h w b.natAbs
theorem QZ.mono {h h' : Heap} {v : Value} {a b : Int} (x : EX h h') (p : QZ h v a b) : QZ h' v a b := let ⟨u, w, e, m, n⟩ := p; ⟨u, w, e, m.mono x, n.mono x⟩
theorem QZ.setB {h : Heap} {v : Value} {a b : Int} {j : Nat} {e : TypeId} {s : Bool} {r : List Value} (p : QZ h v a b) (hj : h[j]? = some (.arr e (.bool s :: r))) (o : IObj) : QZ (h.set j o) v a b :=
  let ⟨u, w, e, m, n⟩ := p; ⟨u, w, e, m.setB hj o, n.setB hj o⟩

theorem store4 {h : Heap} {i : Nat} {e : TypeId} {a b c d x y z w : Value} (hg : h[i]? = some (.arr e [a, b, c, d])) : oStore 4 h (pt i 0) (.agg #[x, y, z, w]) = some (undef, h.set i (.arr e [x, y, z, w])) := by
  simp [oStore, iStore, hg, noTuple, vcells, Value.cells, setAt]
theorem load4 {h : Heap} {i : Nat} {e : TypeId} {a b c d : Value} (hg : h[i]? = some (.arr e [a, b, c, d])) : iLoad true 4 h (pt i 0) = some (.agg #[a, b, c, d]) := by
  simp [iLoad, objCells, hg, iPart]
theorem load4a {h : Heap} {i : Nat} {e : TypeId} {a b c d : Value} (hg : h[i]? = some (.arr e [a, b, c, d])) : iLoad true 2 h (pt i 0) = some (.agg #[a, b]) := by
  simp [iLoad, objCells, hg, iPart]
theorem load4b {h : Heap} {i : Nat} {e : TypeId} {a b c d : Value} (hg : h[i]? = some (.arr e [a, b, c, d])) : iLoad true 2 h (pt i 2) = some (.agg #[c, d]) := by
  simp [iLoad, objCells, hg, iPart]

theorem fin4 {h' : Heap} {j : Nat} {e : TypeId} {b0 v0 c0 w0 a b c d : Value} {K : Value → Heap → Prop} (hg : h'[j]? = some (.arr e [b0, v0, c0, w0])) (hk : K (.agg #[a, b, c, d]) (h'.set j (.arr e [a, b, c, d]))) :
    OH (oStore 4 h' (pt j 0) (.agg #[a, b, c, d])) fun _ h6 => OP (iLoad true 4 h6 (pt j 0)) fun r0 => K r0 h6 := by
  rw [store4 hg]
  simp only [OH_some]
  rw [load4 (set_get hg)]
  exact OP_some.2 hk

theorem build4 {b c : Bool} {e e' : TypeId} {k k' : IntKind} {h h' : Heap} {v w : Value} {xs ys : List Nat} (d : DS e k h v xs) (d' : DS e' k' h' w ys) :
    iBuild [(.bool false), (.slice none 0 0), (.bool false), (.slice none 0 0)] [(0, 2, .agg #[B b, v]), (2, 2, .agg #[B c, w])] = some (.agg #[B b, v, B c, w]) := by
  rcases d with ⟨rfl, _⟩ | ⟨i, rfl, _⟩ <;> rcases d' with ⟨rfl, _⟩ | ⟨i', rfl, _⟩ <;> rfl

abbrev z4 : List Value := [(.bool false), (.slice none 0 0), (.bool false), (.slice none 0 0)]

/-- Two integers put together, and the place that they go to. -/
theorem endQ {h h' : Heap} {j : Nat} {va vb : Value} {a b : Int} {K : Value → Heap → Prop} (ha : ZV h' va a) (hb : ZV h' vb b) (x : EX h h') (hj : h.length ≤ j) (hg : h'[j]? = some (.arr 50 z4)) (hk : ∀ r h', EX h h' → QZ h' r a b → K r h') :
    OP (iBuild [(.bool false), (.slice none 0 0), (.bool false), (.slice none 0 0)] [(0, 2, va), (2, 2, vb)]) fun x15 => OH (oStore 4 h' (pt j 0) x15) fun _ h6 => OP (iLoad true 4 h6 (pt j 0)) fun r0 => K r0 h6 := by
  obtain ⟨u, rfl, hu⟩ := ha
  obtain ⟨w, rfl, hw⟩ := hb
  obtain ⟨xs, dx, cx⟩ := id hu
  obtain ⟨ys, dy, cy⟩ := id hw
  rw [build4 dx dy]
  exact OP_some.2 (fin4 hg (hk _ _ (x.set hj _) ⟨u, w, rfl, hu.setB hg _, hw.setB hg _⟩))

theorem C35 {z : Int} {h : Heap} {K : Value → Heap → Prop} (hz : z.natAbs < 1000000000000000000) (hk : ∀ r h', EX h h' → QZ h' r z 1 → K r h') : CallP Try.prog 35 [I z] h K := by
  refine f35 ?_
  have e1 : iAlloc 50 [(.bool false), (.slice none 0 0), (.bool false), (.slice none 0 0)] h = some (pt h.length 0, h ++ [.arr 50 z4]) := rfl
  simp only [T35, e1, OH_some]
  refine C29 hz ?_
  intro r1 h1 x1 z1
  refine C29 (z := 1) (by decide) ?_
  intro r2 h2 x2 z2
  exact endQ (z1.mono x2) z2 ((EX.append _ _).trans (x1.trans x2)) (Nat.le_refl _) ((x1.trans x2).get get_last) hk

structure Box4 (h : Heap) (a b c d a' b' c' d' : Value) (h3 : Heap) : Prop where
  ex : EX h h3
  a0 : iLoad true 2 h3 (pt h.length 0) = some (.agg #[a, b])
  a2 : iLoad true 2 h3 (pt h.length 2) = some (.agg #[c, d])
  b0 : iLoad true 2 h3 (pt (h.length + 1) 0) = some (.agg #[a', b'])
  b2 : iLoad true 2 h3 (pt (h.length + 1) 2) = some (.agg #[c', d'])
  a4 : iLoad true 4 h3 (pt h.length 0) = some (.agg #[a, b, c, d])
  b4 : iLoad true 4 h3 (pt (h.length + 1) 0) = some (.agg #[a', b', c', d'])
  out : h3[h.length + 2]? = some (.arr 50 z4)

theorem box4 {h : Heap} {s s' t t' : Bool} {b d b' d' : Value} {K : Value → Value → Value → Heap → Prop} (hk : ∀ h3, Box4 h (B s) b (B s') d (B t) b' (B t') d' h3 → K (pt h.length 0) (pt (h.length + 1) 0) (pt (h.length + 2) 0) h3) :
    OH (iBox 50 h (.agg #[B s, b, B s', d])) fun a2 h_1 => OH (iBox 50 h_1 (.agg #[B t, b', B t', d'])) fun b3 h_2 => OH (iAlloc 50 [(.bool false), (.slice none 0 0), (.bool false), (.slice none 0 0)] h_2) fun x4 h_3 => K a2 b3 x4 h_3 := by
  have e1 : ∀ (g : Heap) (s s' : Bool) (b d : Value), iBox 50 g (.agg #[B s, b, B s', d]) = some (pt g.length 0, g ++ [.arr 50 [B s, b, B s', d]]) := fun _ _ _ _ _ => rfl
  have e2 : ∀ (g : Heap), iAlloc 50 [(.bool false), (.slice none 0 0), (.bool false), (.slice none 0 0)] g = some (pt g.length 0, g ++ [.arr 50 z4]) := fun _ => rfl
  simp only [e1, e2, OH_some, List.length_append, List.length_cons, List.length_nil]
  have g0 : (h ++ [IObj.arr 50 [B s, b, B s', d]] ++ [IObj.arr 50 [B t, b', B t', d']] ++ [IObj.arr 50 z4])[h.length]? = some (.arr 50 [B s, b, B s', d]) := by simp
  have g1 : (h ++ [IObj.arr 50 [B s, b, B s', d]] ++ [IObj.arr 50 [B t, b', B t', d']] ++ [IObj.arr 50 z4])[h.length + 1]? = some (.arr 50 [B t, b', B t', d']) := by simp
  have g2 : (h ++ [IObj.arr 50 [B s, b, B s', d]] ++ [IObj.arr 50 [B t, b', B t', d']] ++ [IObj.arr 50 z4])[h.length + 2]? = some (.arr 50 z4) := by simp
  exact hk _ ⟨((EX.append _ _).push _).push _, load4a g0, load4b g0, load4a g1, load4b g1, load4 g0, load4 g1, g2⟩

theorem C38 {va vb : Value} {a b c d : Int} {h : Heap} {K : Value → Heap → Prop} (ha : QZ h va a b) (hb : QZ h vb c d) (la : a.natAbs < bigW) (lb : b.natAbs < bigW) (lc : c.natAbs < bigW) (ld : d.natAbs < bigW)
    (hk : ∀ r h', EX h h' → QZ h' r (a * c) (b * d) → K r h') : CallP Try.prog 38 [va, vb] h K := by
  obtain ⟨u, w, rfl, hu, hw⟩ := ha
  obtain ⟨u', w', rfl, hu', hw'⟩ := hb
  refine f38 ?_
  unfold T38
  refine box4 ?_
  intro h3 x
  have za : ZV h3 (.agg #[B (decide (a < 0)), u]) a := ⟨u, rfl, hu.mono x.ex⟩
  have zb : ZV h3 (.agg #[B (decide (b < 0)), w]) b := ⟨w, rfl, hw.mono x.ex⟩
  have zc : ZV h3 (.agg #[B (decide (c < 0)), u']) c := ⟨u', rfl, hu'.mono x.ex⟩
  have zd : ZV h3 (.agg #[B (decide (d < 0)), w']) d := ⟨w', rfl, hw'.mono x.ex⟩
  simp only [fadr_pt, Nat.add_zero, Nat.zero_add, OP_some, x.a0, x.b0, true_and]
  refine C77 za zc la lc ?_
  intro r4 h4 x4 z4'
  simp only [EX.load x4 x.a2, EX.load x4 x.b2, OP_some, x.a2, x.b2, true_and]
  refine C77 (zb.mono x4) (zd.mono x4) lb ld ?_
  intro r5 h5 x5 z5
  exact endQ (z4'.mono x5) z5 ((x.ex.trans x4).trans x5) (by omega) ((x4.trans x5).get x.out) hk

theorem C37 {va vb : Value} {a b c d : Int} {h : Heap} {K : Value → Heap → Prop} (ha : QZ h va a b) (hb : QZ h vb c d) (la : a.natAbs < bigW) (lb : b.natAbs < bigW) (lc : c.natAbs < bigW) (ld : d.natAbs < bigW) (lad : (a * d).natAbs < bigW) (lcb : (c * b).natAbs < bigW)
    (hk : ∀ r h', EX h h' → QZ h' r (a * d + c * b) (b * d) → K r h') : CallP Try.prog 37 [va, vb] h K := by
  obtain ⟨u, w, rfl, hu, hw⟩ := ha
  obtain ⟨u', w', rfl, hu', hw'⟩ := hb
  refine f37 ?_
  unfold T37
  refine box4 ?_
  intro h3 x
  have za : ZV h3 (.agg #[B (decide (a < 0)), u]) a := ⟨u, rfl, hu.mono x.ex⟩
  have zb : ZV h3 (.agg #[B (decide (b < 0)), w]) b := ⟨w, rfl, hw.mono x.ex⟩
  have zc : ZV h3 (.agg #[B (decide (c < 0)), u']) c := ⟨u', rfl, hu'.mono x.ex⟩
  have zd : ZV h3 (.agg #[B (decide (d < 0)), w']) d := ⟨w', rfl, hw'.mono x.ex⟩
  simp only [fadr_pt, Nat.add_zero, Nat.zero_add, OP_some, x.a0, x.b2, true_and]
  refine C77 za zd la ld ?_
  intro r4 h4 x4 z4'
  simp only [EX.load x4 x.a2, EX.load x4 x.b0, OP_some, x.a2, x.b0, true_and]
  refine C77 (zc.mono x4) (zb.mono x4) lc lb ?_
  intro r5 h5 x5 z5
  refine C74 (z4'.mono x5) z5 lad lcb ?_
  intro r6 h6 x6 z6
  have x46 := (x4.trans x5).trans x6
  simp only [EX.load x46 x.a2, EX.load x46 x.b2, EX.load (x4.trans x5) x.a2, EX.load (x4.trans x5) x.b2, EX.load x4 x.a2, EX.load x4 x.b2, OP_some, x.a2, x.b2, true_and]
  refine C77 (zb.mono x46) (zd.mono x46) lb ld ?_
  intro r7 h7 x7 z7
  exact endQ (z6.mono x7) z7 ((x.ex.trans x46).trans x7) (by omega) ((x46.trans x7).get x.out) hk

end Go.Proofs.Ytjdlcokhlphmhaa

/-
  Numbers are read from their digits, as the document's side does it.
-/
namespace Go.Proofs.Ytjdlcokhlphmhaa
open Go.Sim

/-- What the digits of a text are together, the greatest first. -/
def valB (s : List UInt8) : Nat := s.foldl (fun d c => 10 * d + (c.toNat - 48)) 0

theorem valB_fold : ∀ (s : List UInt8) (a : Nat), s.foldl (fun d c => 10 * d + (c.toNat - 48)) a = a * 10 ^ s.length + valB s
  | [], a => by simp [valB]
  | c :: s, a => by
    have h1 := valB_fold s (10 * a + (c.toNat - 48))
    have h2 := valB_fold s (10 * 0 + (c.toNat - 48))
    have e : valB (c :: s) = s.foldl (fun d c => 10 * d + (c.toNat - 48)) (10 * 0 + (c.toNat - 48)) := rfl
    rw [e, h2, List.foldl_cons, h1, List.length_cons, Nat.pow_succ]
    generalize 10 ^ s.length = P
    generalize c.toNat - 48 = d
    generalize valB s = w
    grind

theorem valB_append (s t : List UInt8) : valB (s ++ t) = valB s * 10 ^ t.length + valB t := by
  show (s ++ t).foldl _ 0 = _
  rw [List.foldl_append, valB_fold]
  rfl

theorem valB_one (c : UInt8) : valB [c] = c.toNat - 48 := by simp [valB]

def digs (s : List UInt8) : Prop := ∀ c ∈ s, 48 ≤ c.toNat ∧ c.toNat ≤ 57

theorem valB_cons (c : UInt8) (s : List UInt8) : valB (c :: s) = (c.toNat - 48) * 10 ^ s.length + valB s := by
  have := valB_append [c] s
  rw [valB_one] at this
  exact this

theorem valB_lt : ∀ {s : List UInt8}, digs s → valB s < 10 ^ s.length
  | [], _ => by simp [valB]
  | c :: s, h => by
    have h1 := valB_lt (s := s) fun x hx => h x (by simp [hx])
    have h2 := h c (by simp)
    rw [valB_cons, List.length_cons, Nat.pow_succ]
    have h3 := Nat.mul_le_mul_right (10 ^ s.length) (show c.toNat - 48 ≤ 9 by omega)
    omega

theorem C102 {s : List UInt8} {h : Heap} {K : Value → Heap → Prop} (hd : digs s) (h0 : 0 < s.length) (h1 : s.length ≤ 4000) (h2 : s.head? = some 48 → s.length = 1)
    (hk : ∀ r h', EX h h' → ZV h' r (valB s) → K (.tuple #[r, B true]) h') : CallP Try.prog 102 [S s] h K := by
  refine f102 ?_
  have e2 : ∀ g : Heap, iAlloc 46 [(.bool false), (.slice none 0 0)] g = some (pt g.length 0, g ++ [.arr 46 [(.bool false), (.slice none 0 0)]]) := fun _ => rfl
  have e3 : iBuild [(.bool false), (.slice none 0 0)] [] = some (.agg #[B false, .slice none 0 0]) := rfl
  have hc0 : (s[0].toNat : Int) = 48 → s.length ≤ 1 := by
    intro h3
    refine Nat.le_of_eq (h2 ?_)
    rw [List.head?_eq_getElem?, List.getElem?_eq_getElem h0]
    congr 1
    apply UInt8.toNat_inj.1
    show s[0].toNat = 48
    omega
  have i0 := idxS_S (a := s) (i := 0) h0 .i64
  simp only [Int.natCast_zero, Int.ofNat_zero] at i0
  simp only [T102, e2, OH_some, lenS_S, OP_some, bin_lss]
  rw [decide_eq_false (show ¬ (s.length : Int) < 1 by omega)]
  simp only [q102z5, GdP_ff, lenS_S, OP_some, bin_gtr]
  rw [decide_eq_false (show ¬ (s.length : Int) > 4000 by omega)]
  simp only [q102z7, iPick_f, OP_some, q102z9, GdP_ff, i0]
  have after : ∀ t : Value, t = B false → p102z15 Try.prog K (S s) (pt h.length 0) (B false) t (h ++ [.arr 46 [(.bool false), (.slice none 0 0)]]) := by
    rintro _ rfl
    rw [q102z15]
    simp only [iPick_f, OP_some, IfP_false, e3, e2, OH_some, List.length_append, List.length_cons, List.length_nil, Nat.zero_add]
    have g1 : (h ++ [IObj.arr 46 [(.bool false), (.slice none 0 0)]] ++ [IObj.arr 46 [(.bool false), (.slice none 0 0)]])[h.length + 1]? = some (.arr 46 [(.bool false), (.slice none 0 0)]) := by simp
    have g0 : (h ++ [IObj.arr 46 [(.bool false), (.slice none 0 0)]] ++ [IObj.arr 46 [(.bool false), (.slice none 0 0)]])[h.length]? = some (.arr 46 [(.bool false), (.slice none 0 0)]) := by simp
    have x1 : EX h (h ++ [IObj.arr 46 [(.bool false), (.slice none 0 0)]] ++ [IObj.arr 46 [(.bool false), (.slice none 0 0)]]) := (EX.append _ _).push _
    have hl1 : (h ++ [IObj.arr 46 [(.bool false), (.slice none 0 0)]] ++ [IObj.arr 46 [(.bool false), (.slice none 0 0)]]).length = h.length + 2 := by simp
    generalize h ++ [IObj.arr 46 [(.bool false), (.slice none 0 0)]] ++ [IObj.arr 46 [(.bool false), (.slice none 0 0)]] = hA at *
    rw [store2 g1]
    simp only [OH_some, lenS_S, OP_some]
    refine loopL (σ := Int × List Nat × Value × Heap) (fun p => [I p.1]) (fun p => p.2.2.2)
      (fun p => h.length + 2 ≤ p.2.2.2.length ∧ EX h p.2.2.2 ∧ p.2.2.2[h.length]? = some (.arr 46 [.bool false, .slice none 0 0]) ∧ p.2.2.2[h.length + 1]? = some (.arr 46 [B false, p.2.2.1]) ∧ OwnD (h.length + 2) p.2.2.2 p.2.2.1 p.2.1 ∧ Lim 10000 p.2.1 ∧ p.1 = (s.length : Int) - 4 * (p.2.1.length : Int) ∧ -4 < p.1 ∧ val 10000 p.2.1 + 10000 ^ p.2.1.length * valB (s.take p.1.toNat) = valB s) (fun p => (p.1 + 4).toNat)
      ((s.length : Int), [], .slice none 0 0, hA.set (h.length + 1) (.arr 46 [B false, .slice none 0 0])) rfl rfl
      ⟨by simp [hl1], x1.set (by omega) _, by rw [List.getElem?_set_ne (by omega)]; exact g0, set_get g1, .inl ⟨rfl, rfl⟩, fun _ hx => by simp at hx, by simp, by simp; omega, by simp [val]⟩ ?_
    rintro ⟨at5, os, v, hx⟩ ⟨hlen, hex, k0, k1, hown, hlim, hat, hat4, hval⟩ L hL
    simp only at hlen hex k0 k1 hown hlim hat hat4 hval hL ⊢
    rw [q102z21]
    have e4 : IntKind.wrap .i64 (at5 - 4) = at5 - 4 := wrap64 (by omega) (by omega)
    simp only [bin_gtr, OP_some, IfP_dec]
    refine ⟨fun hgt => ?_, fun hle => ?_⟩
    · simp only [bin_sub, OP_some, e4, max2']
      obtain ⟨lo, hlo⟩ : ∃ lo : Nat, max 0 (at5 - 4) = (lo : Int) := ⟨(max 0 (at5 - 4)).toNat, by omega⟩
      obtain ⟨a, ha⟩ : ∃ a : Nat, at5 = (a : Int) := ⟨at5.toNat, by omega⟩
      subst ha
      rw [hlo]
      have hal : a ≤ s.length := by omega
      have hloa : lo ≤ a := by omega
      have hlo2 : lo = a - 4 := by omega
      refine loopL (σ := Nat × Nat) (fun p => [I p.1, I p.2]) (fun _ => hx) (fun p => lo ≤ p.2 ∧ p.2 ≤ a ∧ p.1 = valB ((s.take p.2).drop lo)) (fun p => a - p.2)
        (0, lo) rfl rfl ⟨Nat.le_refl _, hloa, by rw [List.drop_of_length_le (by rw [List.length_take]; omega)]; rfl⟩ ?_
      rintro ⟨d, i⟩ ⟨hi1, hi2, hdv⟩ L2 hL2
      simp only at hi1 hi2 hdv hL2 ⊢
      have hlt := valB_lt (s := (s.take i).drop lo) fun c hc => hd c (List.mem_of_mem_take (List.mem_of_mem_drop hc))
      have hlen2 : ((s.take i).drop lo).length = i - lo := by rw [List.length_drop, List.length_take]; omega
      rw [hlen2] at hlt
      have hp : (10 : Nat) ^ (i - lo) ≤ 10 ^ 4 := Nat.pow_le_pow_right (by decide) (by omega)
      have hdb : d < 10000 := by rw [hdv]; omega
      rw [q102z30]
      simp only [bin_lss, OP_some, IfP_dec]
      refine ⟨fun hia => ?_, fun hia => ?_⟩
      · have his : i < s.length := by omega
        have hcd := hd s[i] (List.getElem_mem his)
        have ix := idxS_S (a := s) (i := i) his .i64
        have lt1 : iBin .lss (cv s[i]) (.int .u8 48) = some (B (decide ((s[i].toNat : Int) < 48))) := rfl
        have gt1 : iBin .gtr (cv s[i]) (.int .u8 57) = some (B (decide ((s[i].toNat : Int) > 57))) := rfl
        have sb1 : iBin .sub (cv s[i]) (.int .u8 48) = some (.int .u8 (IntKind.wrap .u8 ((s[i].toNat : Int) - 48))) := rfl
        have w8 : IntKind.wrap .u8 ((s[i].toNat : Int) - 48) = ((s[i].toNat - 48 : Nat) : Int) := by
          have e : IntKind.wrap .u8 ((s[i].toNat : Int) - 48) = ((s[i].toNat : Int) - 48) % 256 := by simp [IntKind.wrap, IntKind.bits, IntKind.signed]
          rw [e]; omega
        have w64 : IntKind.wrap .i64 ((s[i].toNat - 48 : Nat) : Int) = ((s[i].toNat - 48 : Nat) : Int) := wrap64 (by omega) (by omega)
        have w10 : IntKind.wrap .i64 ((10 : Int) * (d : Int)) = ((10 * d : Nat) : Int) := by rw [wrap64 (by omega) (by omega)]; omega
        have wad : IntKind.wrap .i64 (((10 * d : Nat) : Int) + ((s[i].toNat - 48 : Nat) : Int)) = ((10 * d + (s[i].toNat - 48) : Nat) : Int) := by rw [wrap64 (by omega) (by omega)]; omega
        simp only [ix, OP_some, lt1, decide_eq_false (show ¬ (s[i].toNat : Int) < 48 by omega), q102z38, GdP_ff, gt1, decide_eq_false (show ¬ (s[i].toNat : Int) > 57 by omega), q102z40, iPick_f, IfP_false, bin_mul, w10, sb1, w8, conv_int, w64, bin_add, wad, inc i (by omega), true_and]
        refine hL2 (10 * d + (s[i].toNat - 48), i + 1) ⟨by show lo ≤ i + 1; omega, by show i + 1 ≤ a; omega, ?_⟩ (by show a - (i + 1) < a - i; omega)
        show 10 * d + (s[i].toNat - 48) = valB ((s.take (i + 1)).drop lo)
        rw [List.take_succ_eq_append_getElem his, List.drop_append_of_le_length (by rw [List.length_take]; omega), valB_append, valB_one, ← hdv]
        simp
        omega
      · have hia' : i = a := by omega
        subst hia'
        rw [q102z42]
        have ld : iLoad false 1 hx (pt (h.length + 1) 1) = some v := by simp [iLoad, objCells, k1, iPart]
        simp only [fadr_pt, Nat.zero_add, OP_some, ld]
        refine appD' hlen hown (by omega) ?_
        intro v' hx' hs hl' hown'
        have k1' : hx'[h.length + 1]? = some (.arr 46 [B false, v]) := by rw [hs _ (by omega)]; exact k1
        rw [store_at k1' (by simp) hown'.ds.one.1 hown'.ds.one.2]
        have e5 : IntKind.wrap .i64 ((i : Int) - 4) = (i : Int) - 4 := wrap64 (by omega) (by omega)
        simp only [OH_some, List.set_cons_succ, List.set_cons_zero, q102z43, bin_sub, OP_some, e5, true_and]
        have el : (os ++ [d]).length = os.length + 1 := by simp
        refine hL ((i : Int) - 4, os ++ [d], v', hx'.set (h.length + 1) (.arr 46 [B false, v'])) ⟨?_, ?_, ?_, set_get k1', hown'.set (by omega) _, hlim.append (fun y hy => by simp at hy; omega), by rw [el]; show (i : Int) - 4 = _; omega, by show -4 < (i : Int) - 4; omega, ?_⟩ (by show ((i : Int) - 4 + 4).toNat < ((i : Int) + 4).toNat; omega)
        · rw [List.length_set]; exact hl'
        · refine EX.set ⟨by have := hex.1; omega, fun j hj => ?_⟩ (by omega) _
          rw [hs j (by omega)]; exact hex.2 j hj
        · rw [List.getElem?_set_ne (by omega), hs _ (by omega)]; exact k0
        · show val 10000 (os ++ [d]) + 10000 ^ (os ++ [d]).length * valB (s.take ((i : Int) - 4).toNat) = valB s
          rw [el, val_append, ← hval, Nat.pow_succ]
          have et : (i : Int).toNat = i := by omega
          have et2 : ((i : Int) - 4).toNat = lo := by omega
          rw [et, et2]
          have hsp : s.take i = s.take lo ++ (s.take i).drop lo := by
            conv => lhs; rw [← List.take_append_drop lo (s.take i)]
            rw [List.take_take, Nat.min_eq_left hloa]
          rw [hsp, valB_append, hlen2, ← hdv]
          simp only [val, Nat.mul_zero, Nat.add_zero]
          have hlo3 : valB (s.take lo) * 10 ^ (i - lo) = 10000 * valB (s.take lo) := by
            by_cases h4 : 4 ≤ i
            · have : i - lo = 4 := by omega
              rw [this, Nat.mul_comm]
            · have : lo = 0 := by omega
              subst this
              simp [valB]
          rw [hlo3]
          generalize 10000 ^ os.length = P
          generalize valB (s.take lo) = w
          generalize val 10000 os = q
          clear hL hL2 hown hown'
          grind
    · rw [q102z44, load2 k1]
      simp only [OP_some]
      have h0' : at5.toNat = 0 := by omega
      rw [h0'] at hval
      have hval' : val 10000 os = valB s := by simpa [valB] using hval
      refine C98 hown.ds hlim (by omega) ?_
      intro r h5 x5 zr
      simp only [Bool.false_eq_true, if_false, hval'] at zr
      obtain ⟨q, rfl, hq⟩ := id zr
      have g' := x5.get k0
      refine fin2z (K := fun v h => K (.tuple #[v, B true]) h) g' (hk _ _ ((hex.trans x5).set (Nat.le_refl _) _) (zr.setB g' _))
  by_cases h48 : (s[0].toNat : Int) = 48
  · have hl1 := hc0 h48
    have e5 : iBin .eql (cv s[0]) (.int .u8 48) = some (B true) := by
      show some (B (decide ((s[0].toNat : Int) = 48))) = _
      rw [decide_eq_true h48]
    simp only [e5, OP_some, q102z11, GdP_tt, lenS_S, bin_gtr, decide_eq_false (show ¬ (s.length : Int) > 1 by omega), q102z13, GdP_ff, iPick_t]
    exact after _ rfl
  · have e5 : iBin .eql (cv s[0]) (.int .u8 48) = some (B false) := by
      show some (B (decide ((s[0].toNat : Int) = 48))) = _
      rw [decide_eq_false h48]
    simp only [e5, OP_some, q102z11, GdP_ft, q102z13, GdP_ff, iPick_f]
    exact after _ rfl

end Go.Proofs.Ytjdlcokhlphmhaa

/-
  The document's side reads the numbers that the program writes.
-/
namespace Go.Proofs.Ytjdlcokhlphmhaa
open Go.Sim

theorem valB_rev : ∀ {ds : List Nat}, Lim 10 ds → valB ((ds.map dch).reverse) = val 10 ds
  | [], _ => rfl
  | d :: ds, h => by
    have h1 := valB_rev (ds := ds) fun y hy => h y (by simp [hy])
    have h2 := h d (by simp)
    rw [List.map_cons, List.reverse_cons, valB_append, valB_one, h1, dch_toNat h2]
    simp only [val, List.length_singleton, Nat.pow_one]
    omega

theorem decS_facts {n : Nat} (hn : n < bigW) : digs (decS n) ∧ 0 < (decS n).length ∧ (decS n).length ≤ 1000 ∧ ((decS n).head? = some 48 → (decS n).length = 1) ∧ valB (decS n) = n := by
  obtain ⟨hc, hv⟩ := dig10_canon n
  by_cases h0 : n = 0
  · subst h0
    have : decS 0 = [48] := rfl
    rw [this]
    exact ⟨fun c hc => by simp at hc; subst hc; decide, by simp, by simp, by simp, rfl⟩
  · have e : decS n = ((dig10 n).map dch).reverse := by unfold decS; rw [if_neg h0]
    have hne : dig10 n ≠ [] := by
      intro h
      rw [h] at hv
      exact h0 hv.symm
    rw [e]
    refine ⟨?_, ?_, ?_, ?_, ?_⟩
    · intro c hc'
      simp only [List.mem_reverse, List.mem_map] at hc'
      obtain ⟨d, hd, rfl⟩ := hc'
      rw [dch_toNat (hc.1 d hd)]
      have := hc.1 d hd
      omega
    · simp only [List.length_reverse, List.length_map]
      exact List.length_pos_iff.2 hne
    · simp only [List.length_reverse, List.length_map]
      show _ ≤ k1000
      refine hc.len (by decide) ?_
      rw [hv]
      exact Nat.lt_of_lt_of_le hn bigW_10
    · intro h48
      exfalso
      rw [List.head?_reverse, List.getLast?_map] at h48
      cases hl : (dig10 n).getLast? with
      | none => rw [hl] at h48; simp at h48
      | some d =>
        rw [hl] at h48
        have hd : d < 10 := hc.1 d (List.mem_of_getLast? hl)
        have h3 : dch d = 48 := by simpa using h48
        have h4 := congrArg UInt8.toNat h3
        rw [dch_toNat hd] at h4
        have h5 : (48 : UInt8).toNat = 48 := rfl
        rw [h5] at h4
        have : d = 0 := by omega
        subst this
        exact hc.2 hl
    · rw [valB_rev hc.1, hv]

/-- An integer's text. -/
def numS (z : Int) : List UInt8 := if z < 0 then 45 :: decS z.natAbs else decS z.natAbs

/-- Behind the sign. -/
theorem C75_12 {s : List UInt8} {m : Bool} {h : Heap} {j : Nat} {K : Value → Heap → Prop} {n : Nat} {h0 : Heap} (hn : n < bigW) (hs : s = decS n) (hm : m = true → 0 < n) (x0 : EX h0 h) (hj : h0.length ≤ j) (hg : h[j]? = some (.arr 50 z4))
    (hk : ∀ r h', EX h0 h' → QZ h' r (if m then -(n : Int) else n) 1 → K (.tuple #[r, B true]) h') : p75z12 Try.prog K (pt j 0) (S s) (B m) h := by
  obtain ⟨d1, d2, d3, d4, d5⟩ := decS_facts hn
  rw [← hs] at d1 d2 d3 d4 d5
  rw [q75z12]
  have e1 : IntKind.wrap .i64 ((s.length : Int) - 1) = (s.length : Int) - 1 := wrap64 (by omega) (by omega)
  simp only [lenS_S, OP_some, bin_sub, e1]
  refine loopL (σ := Nat) (fun p => [I s.length, I ((p : Int) - 1)]) (fun _ => h) (fun p => p ≤ s.length) (fun p => p)
    s.length rfl rfl (Nat.le_refl _) ?_
  intro i hi L hL
  rw [q75z17]
  simp only [bin_geq, OP_some, IfP_dec]
  refine ⟨fun hge => ?_, fun hlt => ?_⟩
  · have his : i - 1 < s.length := by omega
    have ei : (i : Int) - 1 = ((i - 1 : Nat) : Int) := by omega
    have hcd := d1 s[i - 1] (List.getElem_mem his)
    have ix := idxS_S (a := s) (i := i - 1) his .i64
    have e5 : iBin .eql (cv s[i - 1]) (.int .u8 47) = some (B false) := by
      show some (B (decide ((s[i - 1].toNat : Int) = 47))) = _
      rw [decide_eq_false (by omega)]
    rw [ei]
    have e2 : IntKind.wrap .i64 (((i - 1 : Nat) : Int) - 1) = ((i - 1 : Nat) : Int) - 1 := wrap64 (by omega) (by omega)
    simp only [ix, OP_some, e5, IfP_false, q75z23, bin_sub, e2, true_and]
    exact hL (i - 1) (by omega) (by omega)
  · rw [q75z24]
    have sl1 := slS_hi (a := s) (n := s.length) (Nat.le_refl _) .i64
    rw [List.take_length] at sl1
    simp only [sl1, OP_some]
    refine C102 d1 d2 (by omega) d4 ?_
    intro r h1 x1 z1
    rw [d5] at z1
    obtain ⟨v, rfl, hv⟩ := id z1
    have e6 : iExt 0 (.tuple #[.agg #[B (decide ((n : Int) < 0)), v], B true]) = some (.agg #[B (decide ((n : Int) < 0)), v]) := rfl
    have e7 : iExt 1 (.tuple #[.agg #[B (decide ((n : Int) < 0)), v], B true]) = some (B true) := rfl
    have e2 : ∀ g : Heap, iAlloc 46 [(.bool false), (.slice none 0 0)] g = some (pt g.length 0, g ++ [.arr 46 [(.bool false), (.slice none 0 0)]]) := fun _ => rfl
    simp only [e6, e7, OP_some, e2, OH_some]
    have x2 : EX h1 (h1 ++ [.arr 46 [(.bool false), (.slice none 0 0)]]) := EX.append _ _
    rw [store2 get_last]
    simp only [OH_some]
    have x3 : EX h1 ((h1 ++ [IObj.arr 46 [(.bool false), (.slice none 0 0)]]).set h1.length (.arr 46 [B (decide ((n : Int) < 0)), v])) := x2.set (Nat.le_refl _) _
    have g3 : ((h1 ++ [IObj.arr 46 [(.bool false), (.slice none 0 0)]]).set h1.length (.arr 46 [B (decide ((n : Int) < 0)), v]))[h1.length]? = some (.arr 46 [B (decide ((n : Int) < 0)), v]) := set_get get_last
    generalize (h1 ++ [IObj.arr 46 [(.bool false), (.slice none 0 0)]]).set h1.length (.arr 46 [B (decide ((n : Int) < 0)), v]) = h3 at x3 g3 ⊢
    have hjl := (List.getElem?_eq_some_iff.1 hg).1
    have hj1 : j < h1.length := by have := x1.1; omega
    refine C29 (z := 1) (by decide) ?_
    intro r4 h4 x4 z4'
    obtain ⟨w, rfl, hw⟩ := id z4'
    rw [store2 get_last]
    simp only [OH_some]
    have x5 : EX h4 ((h4 ++ [IObj.arr 46 [(.bool false), (.slice none 0 0)]]).set h4.length (.arr 46 [B (decide ((1 : Int) < 0)), w])) := EX.set (EX.append _ _) (Nat.le_refl _) _
    have g5 : ((h4 ++ [IObj.arr 46 [(.bool false), (.slice none 0 0)]]).set h4.length (.arr 46 [B (decide ((1 : Int) < 0)), w]))[h4.length]? = some (.arr 46 [B (decide ((1 : Int) < 0)), w]) := set_get get_last
    generalize (h4 ++ [IObj.arr 46 [(.bool false), (.slice none 0 0)]]).set h4.length (.arr 46 [B (decide ((1 : Int) < 0)), w]) = h5 at x5 g5 ⊢
    have hh1 : h1.length < h4.length := by
      have := x4.1
      have := (List.getElem?_eq_some_iff.1 g3).1
      omega
    have g3' := (x4.trans x5).get g3
    have hgj : h5[j]? = some (.arr 50 z4) := (((x1.trans x3).trans x4).trans x5).get hg
    have xA : EX h0 h5 := (((x0.trans x1).trans x3).trans x4).trans x5
    have zn : ZV h5 (.agg #[B (decide ((n : Int) < 0)), v]) n := z1.mono ((x3.trans x4).trans x5)
    have zd : ZV h5 (.agg #[B (decide ((1 : Int) < 0)), w]) 1 := z4'.mono x5
    have n1 : iUn .not (B true) = some (B false) := rfl
    simp only [lenS_S, OP_some, bin_lss, decide_eq_false (show ¬ (s.length : Int) < (s.length : Int) by omega), IfP_false, q75z33, n1, q75z37, GdP_ff]
    have last : ∀ (vn : Value) (q : Int) (h6 : Heap), ZV h6 vn q → EX h5 h6 ∨ h6 = h6 → EX h0 h6 → h6[h1.length]? = some (.arr 46 (match vn with | .agg #[a, b] => [a, b] | _ => [])) → (∃ a b, vn = .agg #[a, b]) → h6[h4.length]? = some (.arr 46 [B (decide ((1 : Int) < 0)), w]) → MagZ h6 w 1 → h6[j]? = some (.arr 50 z4) → q = (if m then -(n : Int) else n) → p75z47 Try.prog K (pt j 0) (pt h1.length 0) (pt h4.length 0) h6 := by
      rintro vn q h6 zq - x6 k1 ⟨a, b, rfl⟩ k4 hw6 kj hq
      rw [q75z47, load2 k1, OP_some, load2 k4, OP_some]
      refine endQ (K := fun v h => K (.tuple #[v, B true]) h) zq (⟨w, rfl, hw6⟩ : ZV h6 _ 1) x6 hj kj ?_
      rw [hq]
      exact hk
    have fin : p75z43 Try.prog K (pt j 0) (B m) (pt h1.length 0) (pt h4.length 0) (B false) (B false) h5 := by
      rw [q75z43]
      simp only [iPick_f, OP_some, IfP_false]
      cases m with
      | false =>
        simp only [IfP_false]
        exact last _ _ _ zn (.inr rfl) xA g3' ⟨_, _, rfl⟩ g5 (by obtain ⟨w', h1', h2'⟩ := zd; injection h1' with h1'; injection h1' with h1'; simp at h1'; subst h1'; exact h2') hgj rfl
      | true =>
        simp only [IfP_true, load2 g3', OP_some]
        refine C104 zn ?_
        intro r7 h7 x7 z7
        obtain ⟨v7, rfl, hv7⟩ := id z7
        have g7 := x7.get g3'
        rw [store2 g7]
        simp only [OH_some]
        refine last (.agg #[B (decide (-(n : Int) < 0)), v7]) (-(n : Int)) _ (z7.setB g7 _) (.inr rfl) ((xA.trans x7).set (by have := x0.1; omega) _) (set_get g7) ⟨_, _, rfl⟩ ?_ ?_ ?_ rfl
        · rw [List.getElem?_set_ne (by omega)]; exact x7.get g5
        · exact MagZ.setB (by obtain ⟨w', h1', h2'⟩ := zd.mono x7; injection h1' with h1'; injection h1' with h1'; simp at h1'; subst h1'; exact h2') g7 _
        · rw [List.getElem?_set_ne (by omega)]; exact x7.get hgj
    rw [q75z39]
    cases m with
    | false =>
      simp only [GdP_ft, q75z41, GdP_ff, iPick_f, OP_some]
      exact fin
    | true =>
      obtain ⟨l, p1, p2⟩ := hv.len0
      have p1' := p1
      have ld : iLoad false 1 h5 (pt h1.length 1) = some v := by simp [iLoad, objCells, g3', iPart]
      have hn0 := hm rfl
      have hl0 : ¬ ((l : Int) = 0) := by
        have : 0 < ((n : Int)).natAbs := by omega
        have := p2.2 this
        omega
      simp only [GdP_tt, fadr_pt, Nat.zero_add, OP_some, ld, p1, bin_eql, decide_eq_false hl0, q75z41, GdP_ff, iPick_t]
      exact fin

theorem C75 {z : Int} {h : Heap} {K : Value → Heap → Prop} (hz : z.natAbs < bigW) (hk : ∀ r h', EX h h' → QZ h' r z 1 → K (.tuple #[r, B true]) h') : CallP Try.prog 75 [S (numS z)] h K := by
  refine f75 ?_
  have e1 : iAlloc 50 [(.bool false), (.slice none 0 0), (.bool false), (.slice none 0 0)] h = some (pt h.length 0, h ++ [.arr 50 z4]) := rfl
  obtain ⟨d1, d2, d3, d4, d5⟩ := decS_facts hz
  have hlen : (numS z).length ≤ 1001 ∧ 0 < (numS z).length := by
    unfold numS; split
    · simp; omega
    · omega
  simp only [T75, e1, OH_some, lenS_S, OP_some, bin_gtr, decide_eq_false (show ¬ ((numS z).length : Int) > 8002 by omega), IfP_false, decide_eq_true (show ((numS z).length : Int) > 0 by omega), q75z9, GdP_tt]
  have ix := idxS_S (a := numS z) (i := 0) hlen.2 .i64
  simp only [Int.natCast_zero, Int.ofNat_zero] at ix
  have x1 : EX h (h ++ [.arr 50 z4]) := EX.append _ _
  by_cases hneg : z < 0
  · have e : numS z = 45 :: decS z.natAbs := by unfold numS; rw [if_pos hneg]
    simp only [e] at ix ⊢
    have e5 : iBin .eql (cv ((45 : UInt8) :: decS z.natAbs)[0]) (.int .u8 45) = some (B true) := rfl
    have sl1 := slS_lo (a := (45 : UInt8) :: decS z.natAbs) (n := 1) (by simp) .i64
    simp only [ix, OP_some, e5, q75z11, iPick_t, IfP_true]
    have sl2 : iSlS (S ((45 : UInt8) :: decS z.natAbs)) (some (.int .i64 1)) none = some (S (decS z.natAbs)) := sl1
    simp only [sl2, OP_some]
    refine C75_12 hz rfl (fun _ => by omega) x1 (Nat.le_refl _) get_last ?_
    intro r h' x q
    refine hk r h' x ?_
    have : (if true = true then -(z.natAbs : Int) else (z.natAbs : Int)) = z := by simp; omega
    rw [this] at q
    exact q
  · have e : numS z = decS z.natAbs := by unfold numS; rw [if_neg hneg]
    simp only [e] at ix ⊢
    have hd0 := d1 _ (List.getElem_mem d2)
    have e5 : iBin .eql (cv (decS z.natAbs)[0]) (.int .u8 45) = some (B false) := by
      show some (B (decide (((decS z.natAbs)[0].toNat : Int) = 45))) = _
      rw [decide_eq_false (by omega)]
    simp only [ix, OP_some, e5, q75z11, iPick_t, IfP_false]
    refine C75_12 hz rfl (fun h => by cases h) x1 (Nat.le_refl _) get_last ?_
    intro r h' x q
    refine hk r h' x ?_
    have : (if false = true then -(z.natAbs : Int) else (z.natAbs : Int)) = z := by simp; omega
    rw [this] at q
    exact q

theorem C39 {z : Int} {h : Heap} {K : Value → Heap → Prop} (hz : z.natAbs < bigW) (hk : ∀ r h', EX h h' → QZ h' r z 1 → K r h') : CallP Try.prog 39 [S (numS z)] h K := by
  refine f39 ?_
  have e1 : ∀ g : Heap, iAlloc 50 [(.bool false), (.slice none 0 0), (.bool false), (.slice none 0 0)] g = some (pt g.length 0, g ++ [.arr 50 z4]) := fun _ => rfl
  simp only [T39, e1, OH_some]
  refine C75 hz ?_
  intro r h1 x1 q1
  obtain ⟨u, w, rfl, hu, hw⟩ := id q1
  have g1 := x1.get (get_last (h := h) (o := .arr 50 z4))
  simp only [ext_tuple, pair0, pair1, OP_some, OH_some]
  rw [store4 get_last]
  simp only [OH_some]
  rw [load4 (set_get get_last)]
  simp only [OP_some]
  have x2 : EX h1 ((h1 ++ [IObj.arr 50 z4]).set h1.length (.arr 50 [B (decide (z < 0)), u, B (decide ((1 : Int) < 0)), w])) := EX.set (EX.append _ _) (Nat.le_refl _) _
  have g2 := x2.get g1
  have xA := ((EX.append h [.arr 50 z4]).trans x1).trans x2
  refine fin4 g2 (hk _ _ (xA.set (Nat.le_refl _) _) ?_)
  exact (q1.mono x2).setB g2 _

theorem C36 {z : Int} {h : Heap} {K : Value → Heap → Prop} (hz : z.natAbs < bigW) (hk : ∀ h', EX h h' → K (B true) h') : CallP Try.prog 36 [S (numS z)] h K := by
  refine f36 ?_
  have e1 : ∀ g : Heap, iAlloc 50 [(.bool false), (.slice none 0 0), (.bool false), (.slice none 0 0)] g = some (pt g.length 0, g ++ [.arr 50 z4]) := fun _ => rfl
  simp only [T36]
  refine C75 hz ?_
  intro r h1 x1 q1
  obtain ⟨u, w, rfl, hu, hw⟩ := id q1
  simp only [ext_tuple, pair0, pair1, OP_some, e1, OH_some]
  rw [store4 get_last]
  simp only [OH_some, GdP_tt, fadr_pt, Nat.zero_add, OP_some]
  have x2 : EX h1 ((h1 ++ [IObj.arr 50 z4]).set h1.length (.arr 50 [B (decide (z < 0)), u, B (decide ((1 : Int) < 0)), w])) := EX.set (EX.append _ _) (Nat.le_refl _) _
  have g2 : ((h1 ++ [IObj.arr 50 z4]).set h1.length (.arr 50 [B (decide (z < 0)), u, B (decide ((1 : Int) < 0)), w]))[h1.length]? = some (.arr 50 [B (decide (z < 0)), u, B (decide ((1 : Int) < 0)), w]) := set_get get_last
  generalize (h1 ++ [IObj.arr 50 z4]).set h1.length (.arr 50 [B (decide (z < 0)), u, B (decide ((1 : Int) < 0)), w]) = h2 at x2 g2 ⊢
  rw [load4b g2]
  simp only [OP_some, true_and]
  have z1 : ZV h2 (.agg #[B (decide ((1 : Int) < 0)), w]) 1 := ⟨w, rfl, hw.mono x2⟩
  refine C29 (z := 1) (by decide) ?_
  intro r3 h3 x3 z3
  have hb1 : (1 : Int).natAbs < bigW := lt_bigW (by decide +kernel)
  refine ⟨⟨EX.load x3 (load4b g2), trivial⟩, ?_⟩
  refine C76 (z1.mono x3) z3 hb1 hb1 ?_
  intro h4 x4
  have : isgn (1 - 1) = 0 := rfl
  simp only [this, bin_eql, OP_some, true_and, iPick_t, decide_true]
  exact hk _ (((x1.trans x2).trans x3).trans x4)

end Go.Proofs.Ytjdlcokhlphmhaa

/-
  The program's numbers as texts.
-/
namespace Go.Proofs.Ytjdlcokhlphmhaa
open Go.Sim

/-- A fraction of the program. -/
def RatV (h : Heap) (val : Value) (a b : Int) : Prop := ∃ u w, val = .agg #[B (decide (a < 0)), u, B (decide (b < 0)), w] ∧ MagV h u a.natAbs ∧ MagV h w b.natAbs

theorem C67 {va : Value} {a : Int} {h : Heap} {K : Value → Heap → Prop} (ha : IntV h va a) (hk : ∀ r h', EX h h' → RatV h' r a 1 → K r h') : CallP Try.prog 67 [va] h K := by
  obtain ⟨v, rfl, hv⟩ := ha
  refine f67 ?_
  have e1 : iBox 104 h (.agg #[B (decide (a < 0)), v]) = some (pt h.length 0, h ++ [.arr 104 [B (decide (a < 0)), v]]) := rfl
  have e2 : ∀ g : Heap, iAlloc 110 [(.bool false), (.slice none 0 0), (.bool false), (.slice none 0 0)] g = some (pt g.length 0, g ++ [.arr 110 z4]) := fun _ => rfl
  simp only [T67, e1, e2, OH_some, List.length_append, List.length_cons, List.length_nil]
  have g0 : (h ++ [IObj.arr 104 [B (decide (a < 0)), v]] ++ [IObj.arr 110 z4])[h.length]? = some (.arr 104 [B (decide (a < 0)), v]) := by simp
  have g1 : (h ++ [IObj.arr 104 [B (decide (a < 0)), v]] ++ [IObj.arr 110 z4])[h.length + 1]? = some (.arr 110 z4) := by simp
  have x1 : EX h (h ++ [IObj.arr 104 [B (decide (a < 0)), v]] ++ [IObj.arr 110 z4]) := (EX.append _ _).push _
  generalize h ++ [IObj.arr 104 [B (decide (a < 0)), v]] ++ [IObj.arr 110 z4] = h1 at g0 g1 x1 ⊢
  rw [load2 g0]
  simp only [OP_some, true_and]
  refine C62 (by decide) (by decide) ?_
  intro r2 h2 x2 i2
  obtain ⟨w, rfl, hw⟩ := id i2
  refine ⟨⟨EX.load x2 (load2 g0), trivial⟩, ?_⟩
  have hv2 := (hv.mono x1).mono x2
  obtain ⟨xs, dx, cx⟩ := id hv2
  obtain ⟨ys, dy, cy⟩ := id hw
  rw [build4 dx dy]
  simp only [OP_some, true_and, Nat.zero_add]
  have g2 := x2.get g1
  exact fin4 g2 (hk _ _ ((x1.trans x2).set (by omega) _) ⟨v, w, rfl, hv2.setB g2 _, hw.setB g2 _⟩)

theorem C94 {u w : Value} {s : Bool} {h : Heap} {K : Value → Heap → Prop} (hw : MagV h w 1) (hk : ∀ h', EX h h' → K (B true) h') : CallP Try.prog 94 [.agg #[B s, u, B false, w]] h K := by
  refine f94 ?_
  have e1 : iBox 110 h (.agg #[B s, u, B false, w]) = some (pt h.length 0, h ++ [.arr 110 [B s, u, B false, w]]) := rfl
  simp only [T94, e1, OH_some]
  have x1 : EX h (h ++ [IObj.arr 110 [B s, u, B false, w]]) := EX.append _ _
  have l3 : iLoad false 1 (h ++ [IObj.arr 110 [B s, u, B false, w]]) (pt h.length 3) = some w := load_last rfl
  obtain ⟨xs, dx, cx, vx⟩ := hw.mono x1
  have hx1 : xs = [1] := Canon.unique (by decide) cx ⟨fun y hy => by simp at hy; subst hy; decide, by simp⟩ (by rw [vx]; rfl)
  subst hx1
  obtain ⟨i, g1, g2⟩ := dx.get (j := 0) (by simp)
  have g1' : iAdrSl 1 w (I 0) = some (pt i 0) := g1
  simp only [fadr_pt, Nat.zero_add, Nat.add_zero, OP_some, l3, dx.len, List.length_singleton, bin_eql, q94z4]
  rw [decide_eq_true (show ((1 : Nat) : Int) = 1 by rfl)]
  simp only [GdP_tt, l3, OP_some, g1', g2, bin_eql, q94z6, iPick_t]
  exact hk _ x1

theorem C68 {va : Value} {a : Int} {h : Heap} {K : Value → Heap → Prop} (ha : RatV h va a 1) (la : a.natAbs < bigW) (hk : ∀ h', EX h h' → K (.tuple #[S (numS a), I 0]) h') : CallP Try.prog 68 [va] h K := by
  obtain ⟨u, w, rfl, hu, hw⟩ := ha
  refine f68 ?_
  have e1 : iBox 110 h (.agg #[B (decide (a < 0)), u, B (decide ((1 : Int) < 0)), w]) = some (pt h.length 0, h ++ [.arr 110 [B (decide (a < 0)), u, B (decide ((1 : Int) < 0)), w]]) := rfl
  simp only [T68, e1, OH_some]
  have x1 : EX h (h ++ [IObj.arr 110 [B (decide (a < 0)), u, B (decide ((1 : Int) < 0)), w]]) := EX.append _ _
  have l1 : iLoad false 1 (h ++ [IObj.arr 110 [B (decide (a < 0)), u, B (decide ((1 : Int) < 0)), w]]) (pt h.length 1) = some u := load_last rfl
  have l0 : iLoad false 1 (h ++ [IObj.arr 110 [B (decide (a < 0)), u, B (decide ((1 : Int) < 0)), w]]) (pt h.length 0) = some (B (decide (a < 0))) := load_last rfl
  have g0 : (h ++ [IObj.arr 110 [B (decide (a < 0)), u, B (decide ((1 : Int) < 0)), w]])[h.length]? = some (.arr 110 [B (decide (a < 0)), u, B (decide ((1 : Int) < 0)), w]) := get_last
  generalize h ++ [IObj.arr 110 [B (decide (a < 0)), u, B (decide ((1 : Int) < 0)), w]] = h1 at x1 l1 l0 g0 ⊢
  obtain ⟨d1, d2, d3, d4, d5⟩ := decS_facts la
  simp only [fadr_pt, Nat.zero_add, Nat.add_zero, OP_some, l1]
  refine C93 (hu.mono x1) la ?_
  intro h2 x2
  simp only [lenS_S, OP_some, bin_gtr, decide_eq_false (show ¬ ((decS a.natAbs).length : Int) > 4000 by omega), IfP_false, EX.load x2 l0]
  have last : p68z8 Try.prog K (pt h.length 0) (S (numS a)) h2 := by
    rw [q68z8, load4 (x2.get g0)]
    simp only [OP_some]
    refine C94 ((hw.mono x1).mono x2) ?_
    intro h3 x3
    simp only [IfP_true]
    exact hk _ ((x1.trans x2).trans x3)
  by_cases hneg : a < 0
  · rw [decide_eq_true hneg]
    have : numS a = 45 :: decS a.natAbs := by unfold numS; rw [if_pos hneg]
    have ad : iBin .add (.string ⟨#[45]⟩) (S (decS a.natAbs)) = some (S (numS a)) := by
      rw [this]
      exact bin_addS (a := [45]) (b := decS a.natAbs) (by simp [maxLen]; omega)
    simp only [IfP_true, ad, OP_some]
    exact last
  · rw [decide_eq_false hneg]
    have : numS a = decS a.natAbs := by unfold numS; rw [if_neg hneg]
    rw [this] at last
    simp only [IfP_false]
    exact last

end Go.Proofs.Ytjdlcokhlphmhaa

/-
  Sets of letters that commute, as the program counts them.
-/
namespace Go.Proofs.Ytjdlcokhlphmhaa
open Go.Sim

theorem shrI {s a : Nat} (ha : a < 64) : iBin .shr (I s) (I a) = some (I ((s / 2 ^ a : Nat) : Int)) := by
  simp only [iBin, iShift]
  rw [if_neg (by omega)]
  have : min ((a : Int).toNat) IntKind.i64.bits = a := by
    have : IntKind.i64.bits = 64 := rfl
    rw [this]; omega
  rw [this, Int.fdiv_eq_ediv_of_nonneg _ (by exact Int.pow_nonneg (by decide))]
  congr 2

theorem andI {z : Nat} (hz : z < 64) : iBin .and (I z) (I 1) = some (I ((z % 2 : Nat) : Int)) := by
  have h : ∀ w : Fin 64, IntKind.wrap .i64 (BitVec.ofInt 64 (w.val : Int) &&& BitVec.ofInt 64 1).toNat = ((w.val % 2 : Nat) : Int) := by decide +kernel
  have h2 := h ⟨z, hz⟩
  show some (I (IntKind.wrap .i64 (BitVec.ofInt 64 (z : Int) &&& BitVec.ofInt 64 1).toNat)) = _
  rw [h2]

theorem shlI {n : Nat} (hn : n ≤ 6) : iBin .shl (I 1) (I n) = some (I ((2 ^ n : Nat) : Int)) := by
  rcases (by omega : n = 0 ∨ n = 1 ∨ n = 2 ∨ n = 3 ∨ n = 4 ∨ n = 5 ∨ n = 6) with rfl | rfl | rfl | rfl | rfl | rfl | rfl <;> rfl

theorem TH.at {h : Heap} {i : Nat} {k : Int} {cm : Nat → Nat → Bool} (hc : objCells h i = some (tcells k cm)) {a b : Nat} (ha : a < 6) (hb : b < 6) : iLoad false 1 h (pt i (1 + a * 6 + b)) = some (B (cm a b)) := by
  have hlt : a * 6 + b < 36 := by omega
  have hd : (a * 6 + b) / 6 = a := by omega
  have hm : (a * 6 + b) % 6 = b := by omega
  simp only [iLoad, hc, Option.bind_some, iPart]
  rw [show 1 + a * 6 + b = (a * 6 + b) + 1 by omega]
  simp [tcells, hlt, hd, hm]

theorem C63 {t : Value} {n : Nat} {cm : Nat → Nat → Bool} {h : Heap} {K : Value → Heap → Prop} (ht : TH h t n cm) (hn1 : 1 ≤ n) (hn : n ≤ 6) (hk : ∀ v h', EX h h' → DS 3 .i64 h' v (cqL cm n) → K v h') : CallP Try.prog 63 [t] h K := by
  have ht0 := ht
  obtain ⟨i, rfl, hc⟩ := ht
  refine f63 ?_
  have ldk : ∀ {h' : Heap}, EX h h' → iLoad false 1 h' (pt i 0) = some (I n) := by
    intro h' x
    simp [iLoad, x.cells hc, iPart, tcells]
  simp only [T63, nilck_pt, OP_some, fadr_pt, Nat.zero_add, ldk (EX.refl h), bin_add, inc n (by omega), make_hz (show n + 1 ≤ 1000 by omega), OH_some, ldk (hz_EX h _), shlI hn]
  have h2n : 2 ^ n ≤ 64 := Nat.le_trans (Nat.pow_le_pow_right (by decide) hn) (by decide)
  have hz0 : hz h (List.replicate (n + 1) 0) = hz h ((List.range (n + 1)).map (cqU cm n 0)) := by
    congr 1
    apply List.ext_getElem (by simp)
    intro j h1 h2
    simp [cqU]
  refine loopL (σ := Nat) (fun m => [I m]) (fun m => hz h ((List.range (n + 1)).map (cqU cm n m))) (fun m => m ≤ 2 ^ n) (fun m => 2 ^ n - m)
    0 rfl hz0.symm (by simp) ?_
  intro s hs L hL
  have hxl : ((List.range (n + 1)).map (cqU cm n s)).length = n + 1 := by simp
  have hget : ∀ j (hj : j < ((List.range (n + 1)).map (cqU cm n s)).length), ((List.range (n + 1)).map (cqU cm n s))[j] = cqU cm n s j := by intro j hj; simp
  rw [q63z6]
  simp only [bin_lss, OP_some, IfP_dec, nilck_pt, fadr_pt, Nat.zero_add, ldk (hz_EX h _)]
  refine ⟨fun hlt => ?_, fun hge => ?_⟩
  · have hs64 : s < 64 := by omega
    refine loopL (σ := Nat) (fun a => [I (szS s a), B (okS cm s a), I a]) (fun _ => hz h ((List.range (n + 1)).map (cqU cm n s))) (fun a => a ≤ n) (fun a => n - a)
      0 rfl rfl (by simp) ?_
    intro a ha L2 hL2
    rw [q63z16]
    have hsa : s / 2 ^ a < 64 := Nat.lt_of_le_of_lt (Nat.div_le_self _ _) hs64
    have hsz := szS_le s a
    simp only [bin_lss, OP_some, IfP_dec]
    refine ⟨fun hlt2 => ?_, fun hge2 => ?_⟩
    · have ha6 : a < 6 := by omega
      have hbit : decide (((s / 2 ^ a % 2 : Nat) : Int) = 0) = !bitB s a := by
        unfold bitB
        rcases Nat.mod_two_eq_zero_or_one (s / 2 ^ a) with h0 | h0 <;> rw [h0] <;> rfl
      simp only [shrI (show a < 64 by omega), OP_some, andI hsa, bin_eql, hbit]
      refine IfP_of (fun hb => ?_) fun hb => ?_
      · have hb' : bitB s a = false := by simpa using hb
        rw [q63z41]
        simp only [bin_add, OP_some, inc a (by omega), true_and]
        have := hL2 (a + 1) (by show a + 1 ≤ n; omega) (by show n - (a + 1) < n - a; omega)
        simpa [szS, okS, hb'] using this
      · have hb' : bitB s a = true := by simpa using hb
        simp only [bin_add, OP_some, inc (szS s a) (by omega)]
        refine loopL (σ := Nat) (fun b => [B (okS cm s a && okA cm s a b), I b]) (fun _ => hz h ((List.range (n + 1)).map (cqU cm n s))) (fun b => b ≤ a) (fun b => a - b)
          0 (by simp [okA]) rfl (by simp) ?_
        intro b hba L3 hL3
        rw [q63z27]
        simp only [bin_lss, OP_some, IfP_dec]
        refine ⟨fun hlt3 => ?_, fun hge3 => ?_⟩
        · have hb6 : b < 6 := by omega
          have hsb : s / 2 ^ b < 64 := Nat.lt_of_le_of_lt (Nat.div_le_self _ _) hs64
          have hbit2 : decide (((s / 2 ^ b % 2 : Nat) : Int) = 0) = !bitB s b := by
            unfold bitB
            rcases Nat.mod_two_eq_zero_or_one (s / 2 ^ b) with h0 | h0 <;> rw [h0] <;> rfl
          have next := hL3 (b + 1) (by show b + 1 ≤ a; omega) (by show a - (b + 1) < a - b; omega)
          simp only [okA] at next
          have e1 : iAdrArr 6 6 (pt i 1) (I a) = some (pt i (1 + a * 6)) := by simp [iAdrArr]; omega
          have e2 : iAdrArr 6 1 (pt i (1 + a * 6)) (I b) = some (pt i (1 + a * 6 + b)) := by simp [iAdrArr]; omega
          rw [q63z34]
          generalize hq : (okS cm s a && okA cm s a b) = q at next ⊢
          rw [← Bool.and_assoc, hq] at next
          cases q with
          | false =>
            simp only [GdP_ft, q63z36, q63z38, q63z40, iPick_f, bin_add, OP_some, inc b (by omega), true_and]
            simpa using next
          | true =>
            simp only [GdP_tt, shrI (show b < 64 by omega), OP_some, andI hsb, bin_eql, hbit2, q63z36, nilck_pt, fadr_pt, Nat.zero_add, e1, e2, TH.at ((hz_EX h _).cells hc) ha6 hb6, q63z38, q63z40, iPick_t]
            cases hbb : bitB s b with
            | false =>
              rw [hbb] at next
              simp only [Bool.not_false, GdP_tf, GdP_tt, q63z38, iPick_t, OP_some, q63z40, bin_add, inc b (by omega), true_and]
              simpa using next
            | true =>
              rw [hbb] at next
              simp only [Bool.not_true, GdP_ff, GdP_tt, q63z38, iPick_f, iPick_t, OP_some, q63z40, bin_add, inc b (by omega), true_and]
              simpa using next
        · have hbe : b = a := by omega
          subst hbe
          rw [q63z41]
          simp only [bin_add, OP_some, inc b (by omega), true_and]
          have := hL2 (b + 1) (by show b + 1 ≤ n; omega) (by show n - (b + 1) < n - b; omega)
          simpa [szS, okS, hb'] using this
    · have : a = n := by omega
      subst this
      rw [q63z42]
      have next : ∀ os, os = (List.range (a + 1)).map (cqU cm a (s + 1)) → p63z44 Try.prog K (pt i 0) (sl 3 h.length 0 (a + 1)) (I ((2 ^ a : Nat) : Int)) (I s) L (hz h os) := by
        rintro _ rfl
        rw [q63z44]
        simp only [bin_add, OP_some, inc s (by omega), true_and]
        exact hL (s + 1) (by show s + 1 ≤ 2 ^ a; omega) (by show 2 ^ a - (s + 1) < 2 ^ a - s; omega)
      refine IfP_of (fun hok => ?_) fun hok => ?_
      · have hlt5 : szS s a < ((List.range (a + 1)).map (cqU cm a s)).length := by rw [hxl]; omega
        have hc64 := cqU_le cm a s (szS s a)
        rw [adr_sl (show szS s a < a + 1 by omega)]
        simp only [OP_some, hz_load hlt5, hget _ hlt5, bin_add, inc (cqU cm a s (szS s a)) (by omega), hz_store _ hlt5, OH_some]
        refine next _ ?_
        apply List.ext_getElem (by simp)
        intro j h1 h2
        simp only [List.length_map, List.length_range] at h2
        by_cases hj : szS s a = j
        · subst hj
          rw [List.getElem_set_self]
          simp [cqU, hok]
        · rw [List.getElem_set_ne hj]
          simp [cqU, hj]
      · refine next _ ?_
        apply List.ext_getElem (by simp)
        intro j h1 h2
        simp [cqU, hok]
  · have : s = 2 ^ n := by omega
    subst this
    rw [q63z45]
    -- the first one is not 0
    have h00 : ∀ m, 1 ≤ m → 1 ≤ cqU cm n m 0 := by
      intro m hm
      induction m with
      | zero => omega
      | succ m ih =>
        simp only [cqU]
        by_cases h0 : m = 0
        · subst h0
          have hb0 : ∀ a, bitB 0 a = false := by intro a; simp [bitB]
          have ho : ∀ a, okS cm 0 a = true := by
            intro a
            induction a with
            | zero => rfl
            | succ a ih => simp [okS, ih, hb0]
          have hz0 : ∀ a, szS 0 a = 0 := by
            intro a
            induction a with
            | zero => rfl
            | succ a ih => simp [szS, ih, hb0]
          simp [ho, hz0]
        · have := ih (by omega)
          omega
    have hfirst := h00 (2 ^ n) (Nat.pow_pos (by decide))
    have hxd : DS 3 .i64 (hz h ((List.range (n + 1)).map (cqU cm n (2 ^ n)))) (sl 3 h.length 0 (n + 1)) ((List.range (n + 1)).map (cqU cm n (2 ^ n))) := by
      have := hz_DS h ((List.range (n + 1)).map (cqU cm n (2 ^ n)))
      rwa [hxl] at this
    refine loopL (σ := Value × List Nat) (fun p => [p.1]) (fun _ => hz h ((List.range (n + 1)).map (cqU cm n (2 ^ n))))
      (fun p => DS 3 .i64 (hz h ((List.range (n + 1)).map (cqU cm n (2 ^ n)))) p.1 p.2 ∧ p.2.length ≤ n + 1 ∧ 0 < p.2.length ∧ (∃ y ys, p.2 = y :: ys ∧ 1 ≤ y) ∧ dropT p.2 = cqL cm n) (fun p => p.2.length)
      (sl 3 h.length 0 (n + 1), (List.range (n + 1)).map (cqU cm n (2 ^ n))) rfl rfl ⟨hxd, by simp, by simp, ⟨_, _, by rw [List.range_succ_eq_map]; rfl, hfirst⟩, rfl⟩ ?_
    rintro ⟨v, ys⟩ ⟨hd, hl1, hl2, ⟨y0, yr, hy, hy1⟩, hdr⟩ L2 hL2
    simp only at hd hl1 hl2 hy hdr hL2 ⊢
    rw [q63z48]
    have e1 : IntKind.wrap .i64 ((ys.length : Int) - 1) = ((ys.length - 1 : Nat) : Int) := by rw [wrap64 (by omega) (by omega)]; omega
    obtain ⟨j, g1, g2⟩ := hd.get (j := ys.length - 1) (by omega)
    simp only [hd.len, OP_some, bin_sub, e1, g1, g2, bin_eql, IfP_dec]
    refine ⟨fun hz' => ?_, fun hnz => ?_⟩
    · obtain ⟨v', p1, p2⟩ := hd.pop (n := ys.length - 1) (by omega)
      simp only [p1, OP_some, true_and]
      have hsplit : ys = ys.take (ys.length - 1) ++ [0] := by
        have := List.take_succ_eq_append_getElem (l := ys) (i := ys.length - 1) (by omega)
        rw [show ys.length - 1 + 1 = ys.length by omega, List.take_length] at this
        have hz'' : ys[ys.length - 1] = 0 := by omega
        rw [hz''] at this
        exact this
      have hl2' : 2 ≤ ys.length := by
        apply Classical.byContradiction
        intro hc2
        have : ys.length = 1 := by omega
        subst hy
        simp only [List.length_cons] at this
        have hyr : yr = [] := List.length_eq_zero_iff.1 (by omega)
        subst hyr
        simp at hz'
        omega
      refine hL2 (v', ys.take (ys.length - 1)) ⟨p2, by show (ys.take _).length ≤ _; rw [List.length_take]; omega, by show 0 < (ys.take _).length; rw [List.length_take]; omega, ⟨y0, yr.take (ys.length - 2), ?_, hy1⟩, ?_⟩ (by show (ys.take _).length < _; rw [List.length_take]; omega)
      · show ys.take (ys.length - 1) = _
        have : ys.length - 1 = (ys.length - 2) + 1 := by omega
        have h3 := congrArg (List.take (ys.length - 2 + 1)) hy
        rw [this, h3, List.take_succ_cons]
      · show dropT (ys.take (ys.length - 1)) = _
        rw [← hdr]
        conv => rhs; rw [hsplit]
        rw [dropT_zero]
    · rw [q63z52]
      have : dropT ys = ys := by
        refine dropT_id ?_
        intro hl
        rw [List.getLast?_eq_getElem?] at hl
        obtain ⟨h1, h2⟩ := List.getElem?_eq_some_iff.1 hl
        exact hnz (by omega)
      rw [this] at hdr
      subst hdr
      exact hk v _ (hz_EX h _) hd

end Go.Proofs.Ytjdlcokhlphmhaa

/-
  How many seams of a length there are, as the program counts them.
-/
namespace Go.Proofs.Ytjdlcokhlphmhaa
open Go.Sim

/-- Integers side by side in memory. -/
def CntS (b : Nat) (h : Heap) (v : Value) (zs : List Int) : Prop := ∃ i cells, b ≤ i ∧ v = sl 104 i 0 zs.length ∧ h[i]? = some (.arr 104 cells) ∧ cells.length = zs.length * 2 ∧ (∃ s r, cells = .bool s :: r) ∧
  ∀ j, j < zs.length → ∃ w, cells[j * 2]? = some (B (decide (zs.getD j 0 < 0))) ∧ cells[j * 2 + 1]? = some w ∧ MagV h w (zs.getD j 0).natAbs

theorem CntS.mono {b : Nat} {h h' : Heap} {v : Value} {zs : List Int} (x : EX h h') (p : CntS b h v zs) : CntS b h' v zs :=
  let ⟨i, cells, h1, h2, h3, h4, h5, h6⟩ := p
  ⟨i, cells, h1, h2, x.get h3, h4, h5, fun j hj => let ⟨w, a, b, c⟩ := h6 j hj; ⟨w, a, b, c.mono x⟩⟩

theorem CntS.get {b : Nat} {h : Heap} {v : Value} {zs : List Int} (p : CntS b h v zs) {j : Nat} (hj : j < zs.length) : ∃ a x, iAdrSl 2 v (I j) = some a ∧ iLoad true 2 h a = some x ∧ IntV h x (zs.getD j 0) := by
  obtain ⟨i, cells, h1, h2, h3, h4, h5, h6⟩ := p
  obtain ⟨w, a, c, d⟩ := h6 j hj
  refine ⟨pt i (j * 2), .agg #[B (decide (zs.getD j 0 < 0)), w], ?_, ?_, w, rfl, d⟩
  · subst h2
    have : (0 : Int) ≤ (j : Int) ∧ (j : Int) < (zs.length : Int) := by omega
    simp [iAdrSl, sl, this]
  · have hd : (cells.drop (j * 2)).take 2 = [B (decide (zs.getD j 0 < 0)), w] := by
      obtain ⟨l1, a'⟩ := List.getElem?_eq_some_iff.1 a
      obtain ⟨l2, c'⟩ := List.getElem?_eq_some_iff.1 c
      rw [List.drop_eq_getElem_cons l1, List.drop_eq_getElem_cons l2, a', c']
      rfl
    have hl : j * 2 + 2 ≤ cells.length := by omega
    simp [iLoad, objCells, h3, iPart, hl, hd]

theorem CntS.one {h : Heap} {w : Value} {z : Int} (hw : MagV h w z.natAbs) : iMkSl 104 1 [(.bool false), (.slice none 0 0)] h [(0, 2, .agg #[B (decide (z < 0)), w])] = some (sl 104 h.length 0 1, h ++ [.arr 104 [B (decide (z < 0)), w]]) ∧ CntS h.length (h ++ [.arr 104 [B (decide (z < 0)), w]]) (sl 104 h.length 0 1) [z] := by
  refine ⟨by simp [iMkSl, fillL, zrep, noTuple, vcells, Value.cells, setAt], h.length, [B (decide (z < 0)), w], Nat.le_refl _, rfl, get_last, rfl, ⟨_, _, rfl⟩, ?_⟩
  intro j hj
  have : j = 0 := by simpa using hj
  subst this
  exact ⟨w, rfl, rfl, hw.mono (EX.append _ _)⟩

/-- One more. -/
theorem appZ {h0 hx : Heap} {v x : Value} {zs : List Int} {z : Int} {K : Value → Heap → Prop} (p : CntS h0.length hx v zs) (hx0 : EX h0 hx) (hz : IntV hx x z) (hl : zs.length ≤ 1000)
    (hk : ∀ v' hx', EX h0 hx' → CntS h0.length hx' v' (zs ++ [z]) → K v' hx') : OH (iMkSl 104 1 [(.bool false), (.slice none 0 0)] hx [(0, 2, x)]) fun a h1 => OH (iApp 104 2 32 h1 v a) K := by
  obtain ⟨w, rfl, hw⟩ := hz
  obtain ⟨i, cells, h1, rfl, h3, h4, ⟨s, r, h5⟩, h6⟩ := p
  have e1 : iMkSl 104 1 [(.bool false), (.slice none 0 0)] hx [(0, 2, .agg #[B (decide (z < 0)), w])] = some (sl 104 hx.length 0 1, hx ++ [.arr 104 [B (decide (z < 0)), w]]) := by
    simp [iMkSl, fillL, zrep, noTuple, vcells, Value.cells, setAt]
  rw [e1]
  simp only [OH_some]
  have hi := (List.getElem?_eq_some_iff.1 h3).1
  have hg : (hx ++ [IObj.arr 104 [B (decide (z < 0)), w]])[i]? = some (.arr 104 cells) := by rw [List.getElem?_append_left hi]; exact h3
  have e2 : sliceCells (hx ++ [IObj.arr 104 [B (decide (z < 0)), w]]) 2 (sl 104 hx.length 0 1) = some [B (decide (z < 0)), w] := by simp [sliceCells, sl, objCells]
  have e3 : lenOfSl (sl 104 hx.length 0 1) = some 1 := rfl
  have e4 : iApp 104 2 32 (hx ++ [IObj.arr 104 [B (decide (z < 0)), w]]) (sl 104 i 0 zs.length) (sl 104 hx.length 0 1) = some (sl 104 (hx.length + 1) 0 (zs.length + 1), (hx ++ [IObj.arr 104 [B (decide (z < 0)), w]]).set i IObj.dead ++ [IObj.arr 104 (cells ++ [B (decide (z < 0)), w])]) := by
    simp only [iApp, e2, e3]
    simp only [sl, hg]
    rw [if_pos ⟨trivial, trivial, h4, by omega, by unfold maxLen; omega⟩, if_neg (by omega)]
    simp
  rw [e4]
  simp only [OH_some]
  have hmag : ∀ {u : Value} {n : Nat}, MagV hx u n → MagV ((hx ++ [IObj.arr 104 [B (decide (z < 0)), w]]).set i IObj.dead ++ [IObj.arr 104 (cells ++ [B (decide (z < 0)), w])]) u n := by
    intro u n hm
    have := hm.mono (EX.append hx [IObj.arr 104 [B (decide (z < 0)), w]])
    exact (this.setB (by rw [h5] at hg; exact hg) .dead).mono (EX.append _ _)
  refine hk _ _ (((hx0.push _).set h1 _).push _) ⟨hx.length + 1, cells ++ [B (decide (z < 0)), w], by have := hx0.1; omega, by simp, ?_, by simp [h4]; omega, ⟨s, r ++ [B (decide (z < 0)), w], by rw [h5]; rfl⟩, ?_⟩
  · rw [List.getElem?_append_right (by simp)]
    simp
  · intro j hj
    simp only [List.length_append, List.length_singleton] at hj
    by_cases hjz : j < zs.length
    · obtain ⟨u, a, c, d⟩ := h6 j hjz
      have hgd : (zs ++ [z]).getD j 0 = zs.getD j 0 := by
        simp only [List.getD_eq_getElem?_getD]
        rw [List.getElem?_append_left hjz]
      rw [hgd]
      refine ⟨u, ?_, ?_, hmag d⟩
      · rw [List.getElem?_append_left (by omega)]; exact a
      · rw [List.getElem?_append_left (by omega)]; exact c
    · have hje : j = zs.length := by omega
      subst hje
      have hgd : (zs ++ [z]).getD zs.length 0 = z := by simp
      rw [hgd]
      refine ⟨w, ?_, ?_, hmag hw⟩
      · rw [List.getElem?_append_right (by omega), h4]; simp
      · rw [List.getElem?_append_right (by omega), h4]; simp

theorem cqL_small (cm : Nat → Nat → Bool) {n : Nat} (hn : n ≤ 6) : (cqL cm n).length ≤ 7 ∧ ∀ i, (cqL cm n).getD i 0 ≤ 64 := by
  constructor
  · refine Nat.le_trans (dropT_len _) ?_
    simp; omega
  · intro i
    rw [cqL, dropT_getD]
    have h2n : 2 ^ n ≤ 64 := Nat.le_trans (Nat.pow_le_pow_right (by decide) hn) (by decide)
    simp only [List.getD_eq_getElem?_getD, List.getElem?_map]
    cases (List.range (n + 1))[i]? with
    | none => simp
    | some j => have := cqU_le cm n (2 ^ n) j; simp; omega

theorem pow512 {m : Nat} (h : m ≤ 200) : 512 ^ m < bigW := by
  refine Nat.lt_of_le_of_lt (Nat.pow_le_pow_right (by decide) h) ?_
  show 512 ^ 200 < bigW
  unfold bigW
  decide +kernel

theorem C22 {ps : List (Int × Int)} {pv : Value} {k z : Int} {h : Heap} {K : Value → Heap → Prop} (hp : PS h pv ps) (hl : ps.length ≤ 100)
    (hno : (threadsOk k ps = false ∨ z < 0 ∨ 60 < z) → ∀ h', EX h h' → K (.tuple #[.string ⟨#[]⟩, I 1]) h')
    (hyes : ∀ n m : Nat, k = n → z = m → threadsOk n ps = true → m ≤ 60 → 1 ≤ n → n ≤ 6 → ∀ h', EX h h' → K (.tuple #[S (numS (cntF (cqL (cmOf ps) n) m)), I 0]) h') : CallP Try.prog 22 [I k, pv, I z] h K := by
  refine f22 (C61 hp hl (fun ht => ?_) (fun ht => ?_))
  · have := hno (.inl ht) h (EX.refl h)
    simp only [ext_tuple, pair0, pair1, OP_some, un_not, Bool.not_false, q22z6, GdP_tf, q22z8, iPick_t, q22z10, q22z12, IfP_true]
    exact this
  · obtain ⟨n, rfl, hn1, hn6⟩ := threadsOk_k ht
    have x1 : EX h (h ++ [IObj.arr 138 (tcells n (cmOf ps))]) := EX.append _ _
    have hth : TH (h ++ [IObj.arr 138 (tcells n (cmOf ps))]) (pt h.length 0) n (cmOf ps) := ⟨h.length, rfl, by simp [objCells]⟩
    simp only [ext_tuple, pair0, pair1, OP_some, un_not, Bool.not_true]
    generalize h ++ [IObj.arr 138 (tcells n (cmOf ps))] = hA at x1 hth ⊢
    simp only [q22z6, GdP_ff, bin_lss, OP_some, q22z8, iPick_f, q22z10]
    have no : ∀ b : Bool, z < 0 ∨ 60 < z → p22z12 Try.prog K (I z) (pt h.length 0) (B true) (B b) hA := by
      intro b hz
      rw [q22z12]
      simp only [iPick_t, OP_some, IfP_true]
      exact hno (.inr hz) _ x1
    by_cases hz0 : z < 0
    · rw [decide_eq_true hz0]
      simp only [GdP_tf, q22z12, iPick_t, OP_some, IfP_true]
      exact hno (.inr (.inl hz0)) _ x1
    · rw [decide_eq_false hz0]
      by_cases hz60 : 60 < z
      · simp only [GdP_ff, bin_gtr, decide_eq_true hz60, OP_some, q22z12, iPick_f, IfP_true]
        exact hno (.inr (.inr hz60)) _ x1
      · obtain ⟨m, rfl⟩ : ∃ m : Nat, z = m := ⟨z.toNat, by omega⟩
        have hm60 : m ≤ 60 := by omega
        have hfin := hyes n m rfl rfl ht hm60 hn1 hn6
        clear hno hyes no
        simp only [GdP_ff, bin_gtr, decide_eq_false hz60, OP_some, q22z12, iPick_f, IfP_false]
        obtain ⟨hy7, hy64⟩ := cqL_small (cmOf ps) hn6
        generalize hys : cqL (cmOf ps) n = ys at hfin hy7 hy64
        have hcb := cntF_bound ys hy64 hy7
        refine C62 (by decide) (by decide) ?_
        intro r1 hB x2 i1
        obtain ⟨w1, rfl, hw1⟩ := i1
        obtain ⟨mk1, cs1⟩ := CntS.one (w := w1) (z := 1) hw1
        rw [mk1]
        simp only [OH_some]
        have xB : EX hA (hB ++ [IObj.arr 104 [B (decide ((1 : Int) < 0)), w1]]) := x2.push _
        have cs1' : CntS hA.length (hB ++ [IObj.arr 104 [B (decide ((1 : Int) < 0)), w1]]) (sl 104 hB.length 0 1) (cntL ys 0) := by
          obtain ⟨i, c, a, b⟩ := cs1
          exact ⟨i, c, by have := x2.1; omega, b⟩
        refine loopL (σ := Nat × Value × Heap) (fun p => [p.2.1, I ((p.1 + 1 : Nat) : Int)]) (fun p => p.2.2) (fun p => p.1 ≤ m ∧ EX hA p.2.2 ∧ CntS hA.length p.2.2 p.2.1 (cntL ys p.1)) (fun p => m - p.1)
          (0, sl 104 hB.length 0 1, hB ++ [IObj.arr 104 [B (decide ((1 : Int) < 0)), w1]]) rfl rfl ⟨Nat.zero_le _, xB, cs1'⟩ ?_
        rintro ⟨q, cv, g⟩ ⟨hq, xg, hcs⟩ L hL
        simp only at hq xg hcs hL ⊢
        have hlen := cntL_len ys q
        rw [q22z18]
        simp only [bin_leq, OP_some, IfP_dec]
        refine ⟨fun hlt => ?_, fun hge => ?_⟩
        · refine C62 (by decide) (by decide) ?_
          intro r2 g1 y1 i2
          obtain ⟨w2, rfl, hw2⟩ := i2
          have e2 : iAlloc 104 [(.bool false), (.slice none 0 0)] g1 = some (pt g1.length 0, g1 ++ [.arr 104 [(.bool false), (.slice none 0 0)]]) := rfl
          simp only [e2, OH_some]
          rw [store2 get_last]
          simp only [OH_some]
          have y2 : EX g1 ((g1 ++ [IObj.arr 104 [(.bool false), (.slice none 0 0)]]).set g1.length (.arr 104 [B (decide ((0 : Int) < 0)), w2])) := EX.set (EX.append _ _) (Nat.le_refl _) _
          have k2 : ((g1 ++ [IObj.arr 104 [(.bool false), (.slice none 0 0)]]).set g1.length (.arr 104 [B (decide ((0 : Int) < 0)), w2]))[g1.length]? = some (.arr 104 [B (decide ((0 : Int) < 0)), w2]) := set_get get_last
          generalize (g1 ++ [IObj.arr 104 [(.bool false), (.slice none 0 0)]]).set g1.length (.arr 104 [B (decide ((0 : Int) < 0)), w2]) = g2 at y2 k2 ⊢
          refine C63 (hth.mono ((xg.trans y1).trans y2)) hn1 hn6 ?_
          intro cl g3 y3 hd
          rw [hys] at hd
          have lenx := hd.len
          simp only [lenx, OP_some]
          refine loopL (σ := Nat × Int × Value × Heap) (fun p => [I p.1]) (fun p => p.2.2.2) (fun p => p.1 ≤ ys.length ∧ p.2.1 = psum ys (cntL ys q) (q + 1) p.1 ∧ EX g p.2.2.2 ∧ p.2.2.2[g1.length]? = some (.arr 104 [B (decide (p.2.1 < 0)), p.2.2.1]) ∧ MagV p.2.2.2 p.2.2.1 p.2.1.natAbs ∧ DS 3 .i64 p.2.2.2 cl ys) (fun p => ys.length - p.1)
            (0, 0, w2, g3) rfl rfl ⟨Nat.zero_le _, rfl, (y1.trans y2).trans y3, y3.get k2, (hw2.mono y2).mono y3, hd⟩ ?_
          rintro ⟨i, sm, w, gx⟩ ⟨hi, hsm, xgx, hk, hmag, hds⟩ L2 hL2
          simp only at hi hsm xgx hk hmag hds hL2 ⊢
          have hcsx := hcs.mono xgx
          rw [q22z27]
          simp only [bin_lss, OP_some, IfP_dec]
          refine ⟨fun hlt2 => ?_, fun hge2 => ?_⟩
          · have hiy : i < ys.length := by omega
            obtain ⟨ia, a1, a2⟩ := hds.get hiy
            have hyi : ys[i] = ys.getD i 0 := by simp [List.getD_eq_getElem?_getD, hiy]
            have hy64i := hy64 i
            simp only [a1, OP_some, a2, bin_eql]
            -- nothing added
            have skip : (i = 0 ∨ q + 1 < i) → p22z40 Try.prog K (I m) (pt h.length 0) cv (I ((q + 1 : Nat) : Int)) (pt g1.length 0) cl (I ys.length) (I i) L L2 gx := by
              intro hsk
              rw [q22z40]
              simp only [bin_add, OP_some, inc i (by omega), true_and]
              refine hL2 (i + 1, sm, w, gx) ⟨by show i + 1 ≤ ys.length; omega, ?_, xgx, hk, hmag, hds⟩ (by show ys.length - (i + 1) < ys.length - i; omega)
              show sm = psum ys (cntL ys q) (q + 1) (i + 1)
              simp only [psum]
              rw [← hsm]
              unfold cterm
              rw [if_pos hsk]
              omega
            by_cases hi0 : i = 0
            · rw [decide_eq_true (show (i : Int) = 0 by omega)]
              simp only [q22z36, GdP_tf, q22z38, iPick_t, OP_some, IfP_true]
              exact skip (.inl hi0)
            · rw [decide_eq_false (show ¬ (i : Int) = 0 by omega)]
              simp only [q22z36, GdP_ff, bin_gtr, OP_some, q22z38, iPick_f, IfP_dec]
              refine ⟨fun hgt => skip (.inr (by omega)), fun hngt => ?_⟩
              have hnsk : ¬ (i = 0 ∨ q + 1 < i) := by omega
              have hqi : q + 1 - i < (cntL ys q).length := by omega
              obtain ⟨ad, xv, b1, b2, b3⟩ := hcsx.get hqi
              have esub : IntKind.wrap .i64 (((q + 1 : Nat) : Int) - (i : Int)) = ((q + 1 - i : Nat) : Int) := by rw [wrap64 (by omega) (by omega)]; omega
              have hldS := load2 hk
              have hct : (cntL ys q).getD (q + 1 - i) 0 = cntF ys (q + 1 - i) := cntL_getD ys q _ (by omega)
              rw [hct] at b3
              have hcb1 := hcb (q + 1 - i)
              have hcw : (cntF ys (q + 1 - i)).natAbs < bigW := Nat.lt_of_le_of_lt hcb1 (pow512 (by omega))
              have hprod : (cntF ys (q + 1 - i) * (ys.getD i 0 : Int)).natAbs < bigW := by
                rw [Int.natAbs_mul, Int.natAbs_natCast]
                refine Nat.lt_of_le_of_lt (Nat.mul_le_mul hcb1 (show ys.getD i 0 ≤ 512 ^ 1 by omega)) ?_
                rw [← Nat.pow_add]
                exact pow512 (by omega)
              have hpb : sm.natAbs < bigW := by
                have hb := psum_bound ys (cntL ys q) (q + 1) (512 ^ q) hy64 (fun j hj => by
                  rw [cntL_getD ys q j (by omega)]
                  exact Nat.le_trans (hcb j) (Nat.pow_le_pow_right (by decide) (by omega))) i
                rw [← hsm] at hb
                have h2 : i * (64 * 512 ^ q) ≤ 7 * (64 * 512 ^ q) := Nat.mul_le_mul_right _ (by omega)
                have h3 : 512 ^ (q + 1) < bigW := pow512 (by omega)
                rw [Nat.pow_succ] at h3
                omega
              have hyw : ((ys[i] : Nat) : Int).natAbs < bigW := by
                rw [Int.natAbs_natCast]
                exact Nat.lt_of_le_of_lt (show ys[i] ≤ 512 ^ 1 by omega) (pow512 (by omega))
              have zsm : IntV gx (.agg #[B (decide (sm < 0)), w]) sm := ⟨w, rfl, hmag⟩
              -- the sum is put away
              have fin : ∀ (r : Value) (gy : Heap) (s' : Int), EX gx gy → IntV gy r s' → s' = psum ys (cntL ys q) (q + 1) (i + 1) → OH (oStore 2 gy (pt g1.length 0) r) fun _ h_4 => p22z40 Try.prog K (I m) (pt h.length 0) cv (I ((q + 1 : Nat) : Int)) (pt g1.length 0) cl (I ys.length) (I i) L L2 h_4 := by
                intro r gy s' xy ir hs'
                obtain ⟨w', rfl, hw'⟩ := ir
                have hk' := xy.get hk
                rw [store2 hk']
                simp only [OH_some, q22z40, bin_add, OP_some, inc i (by omega), true_and]
                refine hL2 (i + 1, s', w', gy.set g1.length (.arr 104 [B (decide (s' < 0)), w'])) ⟨by show i + 1 ≤ ys.length; omega, hs', (xgx.trans xy).set (by have := y1.1; omega) _, set_get hk', hw'.setB hk' _, (hds.mono xy).setB hk' _⟩ (by show ys.length - (i + 1) < ys.length - i; omega)
              simp only [bin_sub, esub, b1, b2, hldS, OP_some, true_and]
              rw [show (.int .i64 2 : Value) = .int .i64 ((2 : Nat) : Int) from rfl, rem_nat _ _ _ (by decide)]
              simp only [OP_some, bin_eql, IfP_dec]
              refine ⟨fun hodd => ?_, fun heven => ?_⟩
              · refine C62 (by omega) (by omega) ?_
                intro r4 g4 x4 i4
                refine ⟨⟨EX.load x4 hldS, EX.load x4 b2, trivial⟩, ?_⟩
                refine C65 (b3.mono x4) i4 hcw hyw ?_
                intro r5 g5 x5 i5
                refine ⟨⟨EX.load (x4.trans x5) hldS, trivial⟩, ?_⟩
                rw [hyi] at i5
                refine C64 (zsm.mono (x4.trans x5)) i5 hpb hprod ?_
                intro r6 g6 x6 i6
                refine fin r6 g6 _ ((x4.trans x5).trans x6) i6 ?_
                simp only [psum]
                rw [← hsm]
                unfold cterm
                rw [if_neg hnsk, if_pos (by omega), hct]
              · refine C62 (by omega) (by omega) ?_
                intro r4 g4 x4 i4
                refine ⟨⟨EX.load x4 hldS, EX.load x4 b2, trivial⟩, ?_⟩
                refine C65 (b3.mono x4) i4 hcw hyw ?_
                intro r5 g5 x5 i5
                refine ⟨⟨EX.load (x4.trans x5) hldS, trivial⟩, ?_⟩
                rw [hyi] at i5
                refine C66 (zsm.mono (x4.trans x5)) i5 hpb hprod ?_
                intro r6 g6 x6 i6
                refine fin r6 g6 _ ((x4.trans x5).trans x6) i6 ?_
                simp only [psum]
                rw [← hsm]
                unfold cterm
                rw [if_neg hnsk, if_neg (by omega), hct, Int.sub_eq_add_neg]
          · have hie : i = ys.length := by omega
            subst hie
            rw [q22z41, load2 hk]
            simp only [OP_some]
            refine appZ hcsx (xg.trans xgx) (⟨w, rfl, hmag⟩ : IntV gx _ sm) (by omega) ?_
            intro v' gy xy hcs'
            simp only [q22z42, bin_add, OP_some, inc (q + 1) (by omega), true_and]
            rw [hsm] at hcs'
            exact hL (q + 1, v', gy) ⟨by show q + 1 ≤ m; omega, xy, hcs'⟩ (by show m - (q + 1) < m - q; omega)
        · have hqe : q = m := by omega
          subst hqe
          rw [q22z43]
          obtain ⟨ad, xv, b1, b2, b3⟩ := hcs.get (j := q) (by omega)
          simp only [b1, b2, OP_some]
          refine C67 b3 ?_
          intro r5 g5 x5 i5
          refine C68 i5 (Nat.lt_of_le_of_lt (hcb q) (pow512 (by omega))) ?_
          intro g6 x6
          simp only [ext_tuple, pair0, pair1, OP_some]
          exact hfin _ (((x1.trans xg).trans x5).trans x6)

theorem C23 {ps : List (Int × Int)} {pv : Value} {k : Int} {h : Heap} {K : Value → Heap → Prop} (hp : PS h pv ps) (hl : ps.length ≤ 100)
    (hno : threadsOk k ps = false → ∀ h', EX h h' → K (.tuple #[.slice none 0 0, I 1]) h')
    (hyes : ∀ n : Nat, k = n → threadsOk n ps = true → 1 ≤ n → n ≤ 6 → ∀ v h', EX h h' → DS 3 .i64 h' v (cqL (cmOf ps) n) → K (.tuple #[v, I 0]) h') : CallP Try.prog 23 [I k, pv] h K := by
  refine f23 (C61 hp hl (fun ht => ?_) (fun ht => ?_))
  · have := hno ht h (EX.refl h)
    simp only [ext_tuple, pair0, pair1, OP_some, un_not, Bool.not_false, IfP_true]
    exact this
  · obtain ⟨n, rfl, hn1, hn6⟩ := threadsOk_k ht
    have x1 : EX h (h ++ [IObj.arr 138 (tcells n (cmOf ps))]) := EX.append _ _
    have hth : TH (h ++ [IObj.arr 138 (tcells n (cmOf ps))]) (pt h.length 0) n (cmOf ps) := ⟨h.length, rfl, by simp [objCells]⟩
    simp only [ext_tuple, pair0, pair1, OP_some, un_not, Bool.not_true, IfP_false]
    refine C63 hth hn1 hn6 ?_
    intro v h' x d
    exact hyes n rfl ht hn1 hn6 v h' (x1.trans x) d

end Go.Proofs.Ytjdlcokhlphmhaa
