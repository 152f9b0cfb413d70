/-
  Part 6 of the texts behind a statement of this seat: HCt34, HCt35, HCt36, HCt37, HCt38, HCt39, HCt40, HCt41, HNB, Rd2, Rd4, Rd5, Rd6, Rs1.
-/
import Derived.Test.YthplaillblmgfaaGreatDoorProg
import Derived.KernelRfl
import Derived.Test.YthplaillblmgfaaGreatDoorReads5
namespace Go.Proofs.YthplaillblmgfaaGreatDoor
open Go.Sim

theorem bigW_Z : bigW ≤ 10000 ^ 250 := by decide +kernel
theorem canZ_len {xs : List Nat} (h : Canon 10000 xs) (hv : val 10000 xs < bigW) : xs.length ≤ 250 := h.len (by decide) (Nat.lt_of_lt_of_le hv bigW_Z)

/-- Digits that were appended one by one. -/
def OwnD (b : Nat) (hx : Heap) (v : Value) (os : List Nat) : Prop := OwnS b hx 3 v (os.map fun d : Nat => I d)

theorem OwnD.ds {b : Nat} {hx : Heap} {v : Value} {os : List Nat} (o : OwnD b hx v os) : DS 3 .i64 hx v os := by
  rcases o with ⟨h1, h2⟩ | ⟨i, _, h2, h3⟩
  · exact .inl ⟨h1, by simpa using h2⟩
  · refine .inr ⟨i, by rw [h2, List.length_map], .inr ⟨[], ?_⟩⟩
    simp [objCells, h3]

theorem DS.cells {e : TypeId} {k : IntKind} {h : Heap} {v : Value} {xs : List Nat} (p : DS e k h v xs) : sliceCells h 1 v = some (xs.map fun d : Nat => Value.int k (d : Int)) ∧ lenOfSl v = some xs.length := by
  rcases p with ⟨rfl, rfl⟩ | ⟨i, rfl, hc⟩
  · exact ⟨rfl, rfl⟩
  · refine ⟨?_, rfl⟩
    unfold sliceCells sl
    simp only
    by_cases hz : xs.length = 0
    · rw [if_pos hz]
      have : xs = [] := List.length_eq_zero_iff.1 hz
      subst this
      rfl
    · obtain ⟨r, hc⟩ := hc.resolve_left (by rintro rfl; simp at hz)
      rw [if_neg hz, hc]
      simp only [Option.bind_some]
      rw [if_pos (by simp)]
      have : ((xs.map (fun d : Nat => Value.int k (d : Int)) ++ r).drop 0).take (xs.length * 1) = xs.map fun d : Nat => Value.int k (d : Int) := by
        rw [List.drop_zero, Nat.mul_one, List.take_append_of_le_length (by simp), List.take_of_length_le (by simp)]
      rw [this]

def MagZ (h : Heap) (v : Value) (n : Nat) : Prop := ∃ xs, DS 3 .i64 h v xs ∧ Canon 10000 xs ∧ val 10000 xs = n
theorem MagZ.mono {h h' : Heap} {v : Value} {n : Nat} (x : EX h h') (p : MagZ h v n) : MagZ h' v n := let ⟨xs, a, b, c⟩ := p; ⟨xs, a.mono x, b, c⟩

theorem DS.setB {e e' : TypeId} {k : IntKind} {h : Heap} {v : Value} {xs : List Nat} {j : Nat} {b : Bool} {r : List Value} (d : DS e k h v xs) (hj : h[j]? = some (.arr e' (.bool b :: r))) (o : IObj) : DS e k (h.set j o) v xs := by
  rcases d with d | ⟨i, h1, h2⟩
  · exact .inl d
  · refine .inr ⟨i, h1, ?_⟩
    rcases h2 with h2 | ⟨rest, h2⟩
    · exact .inl h2
    · cases xs with
      | nil => exact .inl rfl
      | cons x xs =>
        right
        refine ⟨rest, ?_⟩
        have hne : j ≠ i := by
          rintro rfl
          unfold objCells at h2
          rw [hj] at h2
          simp at h2
        unfold objCells at h2 ⊢
        rw [List.getElem?_set_ne hne]
        exact h2

theorem MagZ.setB {h : Heap} {v : Value} {n j : Nat} {e : TypeId} {b : Bool} {r : List Value} (p : MagZ h v n) (hj : h[j]? = some (.arr e (.bool b :: r))) (o : IObj) : MagZ (h.set j o) v n :=
  let ⟨xs, d, c, hv⟩ := p; ⟨xs, d.setB hj o, c, hv⟩

def ZV (h : Heap) (val : Value) (z : Int) : Prop := ∃ v, val = .agg #[B (decide (z < 0)), v] ∧ MagZ h v z.natAbs
theorem ZV.mono {h h' : Heap} {v : Value} {z : Int} (x : EX h h') (p : ZV h v z) : ZV h' v z := let ⟨w, a, b⟩ := p; ⟨w, a, b.mono x⟩
theorem ZV.setB {h : Heap} {v : Value} {z : Int} {j : Nat} {e : TypeId} {b : Bool} {r : List Value} (p : ZV h v z) (hj : h[j]? = some (.arr e (.bool b :: r))) (o : IObj) : ZV (h.set j o) v z :=
  let ⟨w, a, q⟩ := p; ⟨w, a, q.setB hj o⟩

/-- A digit more. -/
theorem appD {h0 hx : Heap} {v : Value} {os : List Nat} {d : Nat} {K : Value → Heap → Prop} (o : OwnD h0.length hx v os) (hex : EX h0 hx) (hl : os.length ≤ 10000)
    (hk : ∀ v' hx', EX h0 hx' → OwnD h0.length hx' v' (os ++ [d]) → K v' hx') : OH (iMkSl 3 1 [.int .i64 0] hx [(0, 1, I d)]) fun a h2 => OH (iApp 3 1 8 h2 v a) K := by
  refine app1 o hex (by simp; omega) (by simp [maxLen]; omega) rfl rfl ?_
  intro v' hx' h1 h2
  exact hk v' hx' h1 (by unfold OwnD; simpa using h2)

theorem C95f {s : Bool} {v : Value} {xs : List Nat} {h : Heap} {K : Value → Heap → Prop} (hd : DS 3 .i64 h v xs) (hl : Lim 10000 xs) (hs : xs.length ≤ 1000)
    (hk : ∀ r h', EX h h' → ZV h' r (if s then -(val 10000 xs : Int) else val 10000 xs) → (∃ b i n, r = .agg #[B b, sl 3 i 0 n] ∧ h.length ≤ i) → K r h') : CallP Tryz.prog 95 [.agg #[B s, v]] h K := by
  refine f95 ?_
  have e1 : iBox 36 h (.agg #[B s, v]) = some (pt h.length 0, h ++ [.arr 36 [B s, v]]) := rfl
  have e2 : ∀ g : Heap, iAlloc 36 [(.bool false), (.slice none 0 0)] g = some (pt g.length 0, g ++ [.arr 36 [(.bool false), (.slice none 0 0)]]) := fun _ => rfl
  simp only [T95, e1, OH_some, e2, List.length_append, List.length_cons, List.length_nil]
  have g0 : (h ++ [IObj.arr 36 [B s, v]] ++ [IObj.arr 36 [(.bool false), (.slice none 0 0)]])[h.length]? = some (.arr 36 [B s, v]) := by simp
  have g1 : (h ++ [IObj.arr 36 [B s, v]] ++ [IObj.arr 36 [(.bool false), (.slice none 0 0)]])[h.length + 1]? = some (.arr 36 [(.bool false), (.slice none 0 0)]) := by simp
  have x1 : EX h (h ++ [IObj.arr 36 [B s, v]] ++ [IObj.arr 36 [(.bool false), (.slice none 0 0)]]) := (EX.append _ _).push _
  have hlen : (h ++ [IObj.arr 36 [B s, v]] ++ [IObj.arr 36 [(.bool false), (.slice none 0 0)]]).length = h.length + 2 := by simp
  generalize h ++ [IObj.arr 36 [B s, v]] ++ [IObj.arr 36 [(.bool false), (.slice none 0 0)]] = h1 at g0 g1 x1 hlen ⊢
  have ld1 : iLoad false 1 h1 (pt h.length 1) = some v := by simp [iLoad, objCells, g0, iPart]
  have hd1 := hd.mono x1
  simp only [fadr_pt, Nat.zero_add, OP_some, ld1, hd1.len]
  refine loopL (σ := Nat) (fun n => [I n]) (fun _ => h1) (fun n => n ≤ xs.length ∧ val 10000 (xs.take n) = val 10000 xs) (fun n => n) xs.length rfl rfl ⟨Nat.le_refl _, by rw [List.take_length]⟩ ?_
  rintro n ⟨hn, hval⟩ L hL
  rw [q95z5]
  -- the end
  have fin : Canon 10000 (xs.take n) → p95z13 Tryz.prog K (pt h.length 0) (pt (h.length + 1) 0) (I n) h1 := by
    intro hc
    rw [q95z13]
    have mk : iMkSl 3 0 [.int .i64 0] h1 [] = some (sl 3 h1.length 0 0, h1 ++ [.arr 3 []]) := rfl
    have x2 : EX h1 (h1 ++ [.arr 3 []]) := EX.append _ _
    obtain ⟨v', p1, p2⟩ := (hd1.mono x2).pop hn
    obtain ⟨c1, c2⟩ := p2.cells
    have hnl : (xs.take n).length = n := by rw [List.length_take]; omega
    simp only [mk, OH_some, fadr_pt, Nat.zero_add, OP_some, EX.load x2 ld1, p1]
    -- copied
    have app : ∃ w h3, iApp 3 1 8 (h1 ++ [.arr 3 []]) (sl 3 h1.length 0 0) v' = some (w, h3) ∧ EX h1 h3 ∧ DS 3 .i64 h3 w (xs.take n) ∧ ∃ i n, w = sl 3 i 0 n ∧ h.length ≤ i := by
      by_cases hn0 : n = 0
      · subst hn0
        refine ⟨sl 3 h1.length 0 0, h1 ++ [.arr 3 []], ?_, x2, .inr ⟨h1.length, by simp, .inl (by simp)⟩, h1.length, 0, rfl, by omega⟩
        simp [iApp, c1, c2, sl]
      · refine ⟨sl 3 (h1.length + 1) 0 n, (h1 ++ [IObj.arr 3 []]).set h1.length .dead ++ [.arr 3 ((xs.take n).map fun d : Nat => I d)], ?_, (x2.set (Nat.le_refl _) _).push _, .inr ⟨h1.length + 1, by rw [hnl], .inr ⟨[], ?_⟩⟩, h1.length + 1, n, rfl, by omega⟩
        · have hg : (h1 ++ [IObj.arr 3 []])[h1.length]? = some (.arr 3 []) := get_last
          simp only [iApp, c1, c2, hnl]
          simp only [sl, hg]
          rw [if_pos ⟨trivial, trivial, by simp, by omega, by unfold maxLen; omega⟩, if_neg hn0]
          simp
        · unfold objCells
          rw [List.getElem?_append_right (by simp)]
          simp
    obtain ⟨w, h3, a1, a2, a3, wi, wn, hwi, hwl⟩ := app
    simp only [a1, OH_some]
    have g0' := a2.get g0
    have g1' := a2.get g1
    rw [store_at g0' (by simp) a3.one.1 a3.one.2]
    simp only [OH_some, List.set_cons_succ, List.set_cons_zero]
    have k0 : (h3.set h.length (.arr 36 [B s, w]))[h.length]? = some (.arr 36 [B s, w]) := set_get g0'
    have k1 : (h3.set h.length (.arr 36 [B s, w]))[h.length + 1]? = some (.arr 36 [(.bool false), (.slice none 0 0)]) := by rw [List.getElem?_set_ne (by omega)]; exact g1'
    have d1 := a3.setB g0' (.arr 36 [B s, w])
    have x3 : EX h (h3.set h.length (.arr 36 [B s, w])) := (x1.trans a2).set (Nat.le_refl _) _
    generalize h3.set h.length (.arr 36 [B s, w]) = h4 at k0 k1 d1 x3 ⊢
    have ld0 : iLoad false 1 h4 (pt h.length 0) = some (B s) := by simp [iLoad, objCells, k0, iPart]
    simp only [Nat.add_zero, ld0, OP_some]
    have last : ∀ c : Bool, c = (s && decide (0 < n)) → OH (oStore 1 h4 (pt h.length 0) (B c)) fun _ h_1 => OP (iLoad true 2 h_1 (pt h.length 0)) fun x34 => OH (oStore 2 h_1 (pt (h.length + 1) 0) x34) fun _ h_2 => OP (iLoad true 2 h_2 (pt (h.length + 1) 0)) fun r0 => K r0 h_2 := by
      rintro c rfl
      rw [store_at k0 (by simp) rfl rfl]
      simp only [OH_some, List.set_cons_zero]
      rw [load2 (set_get k0)]
      simp only [OP_some]
      have m1 : (h4.set h.length (.arr 36 [B (s && decide (0 < n)), w]))[h.length + 1]? = some (.arr 36 [(.bool false), (.slice none 0 0)]) := by rw [List.getElem?_set_ne (by omega)]; exact k1
      rw [store2 m1]
      simp only [OH_some]
      rw [load2 (set_get m1)]
      simp only [OP_some]
      refine hk _ _ ((x3.set (Nat.le_refl _) _).set (by omega) _) ⟨w, ?_, (xs.take n), (d1.setB k0 _).setB m1 _, hc, ?_⟩ ⟨_, wi, wn, by rw [hwi], hwl⟩
      · have h0n : (0 < n ↔ 0 < val 10000 xs) := by
          rw [← hval]
          constructor
          · intro h0
            have := Canon.low (by decide) hc (by intro h; rw [h] at hnl; simp at hnl; omega)
            have : 0 < 10000 ^ ((xs.take n).length - 1) := Nat.pow_pos (by decide)
            omega
          · intro h0
            by_cases hn0 : n = 0
            · subst hn0; simp [val] at h0
            · omega
        have : (s && decide (0 < n)) = decide ((if s = true then -(val 10000 xs : Int) else (val 10000 xs : Int)) < 0) := by
          cases s with
          | true =>
            by_cases h0 : 0 < n
            · have := h0n.1 h0
              rw [decide_eq_true h0, decide_eq_true (by simp; omega)]; rfl
            · have : ¬ 0 < val 10000 xs := fun h => h0 (h0n.2 h)
              rw [decide_eq_false h0, decide_eq_false (by simp; omega)]; rfl
          | false => simp
        rw [this]
      · rw [hval]; cases s <;> simp
    cases s with
    | true =>
      simp only [q95z17, GdP_tt, bin_gtr, OP_some, q95z19, iPick_t, fadr_pt, Nat.add_zero]
      refine last _ ?_
      rw [Bool.true_and]
      by_cases h0 : 0 < n
      · simp [h0]
      · simp [h0]
    | false =>
      simp only [q95z17, GdP_ft, q95z19, iPick_f, OP_some, fadr_pt, Nat.add_zero]
      exact last _ rfl
  simp only [bin_gtr, OP_some]
  by_cases hn0 : n = 0
  · subst hn0
    rw [decide_eq_false (show ¬ (0 : Int) < ((0 : Nat) : Int) by omega)]
    simp only [q95z9, GdP_ft, q95z11, iPick_f, OP_some, IfP_false]
    exact fin (by simpa using Canon.nil 10000)
  · rw [decide_eq_true (show (0 : Int) < (n : Int) by omega)]
    have e3 : IntKind.wrap .i64 ((n : Int) - 1) = ((n - 1 : Nat) : Int) := by rw [wrap64 (by omega) (by omega)]; omega
    obtain ⟨i, p1, p2⟩ := hd1.get (j := n - 1) (by omega)
    simp only [q95z9, GdP_tt, fadr_pt, Nat.zero_add, OP_some, ld1, bin_sub, e3, p1, p2, bin_eql, q95z11, iPick_t, IfP_dec]
    refine ⟨fun hz => ?_, fun hz => ?_⟩
    · simp only [true_and]
      refine hL (n - 1) ⟨by omega, ?_⟩ (by omega)
      have := val_take_succ 10000 xs (i := n - 1) (by omega)
      rw [show n - 1 + 1 = n by omega] at this
      have hz' : xs[n - 1]'(by omega) = 0 := by omega
      rw [hz', Nat.mul_zero] at this
      omega
    · refine fin (can_of_last (hl.mono fun y hy => List.mem_of_mem_take hy) ?_)
      intro h1 h2
      rw [List.getElem_take] at h2
      simp only [List.length_take] at h2
      apply hz
      have hm : min n xs.length - 1 = n - 1 := by omega
      simp only [hm] at h2
      omega

theorem C95 {s : Bool} {v : Value} {xs : List Nat} {h : Heap} {K : Value → Heap → Prop} (hd : DS 3 .i64 h v xs) (hl : Lim 10000 xs) (hs : xs.length ≤ 1000)
    (hk : ∀ r h', EX h h' → ZV h' r (if s then -(val 10000 xs : Int) else val 10000 xs) → K r h') : CallP Tryz.prog 95 [.agg #[B s, v]] h K :=
  C95f hd hl hs fun r h' x z _ => hk r h' x z

end Go.Proofs.YthplaillblmgfaaGreatDoor


namespace Go.Proofs.YthplaillblmgfaaGreatDoor
open Go.Sim

theorem quoI {a b : Nat} (hb : b ≠ 0) (ha : a < 9223372036854775808) : iBin .quo (.int .i64 (a : Int)) (.int .i64 (b : Int)) = some (I ((a / b : Nat) : Int)) := by
  have h : ¬ ((b : Int) = 0) := by omega
  have h2 : a / b ≤ a := Nat.div_le_self _ _
  simp only [iBin, iInt, if_true, if_neg h]
  have e : (a : Int).tdiv (b : Int) = ((a / b : Nat) : Int) := rfl
  rw [e]
  generalize a / b = q at *
  rw [wrap64 (by omega) (by omega)]

theorem mkD0 (h : Heap) : iMkSl 3 0 [.int .i64 0] h [] = some (sl 3 h.length 0 0, h ++ [.arr 3 []]) := rfl

theorem ownD0 (h : Heap) : OwnD h.length (h ++ [.arr 3 []]) (sl 3 h.length 0 0) [] := .inr ⟨h.length, Nat.le_refl _, rfl, by simp⟩

theorem C97 {va vb : Value} {xs ys : List Nat} {h : Heap} {K : Value → Heap → Prop} (hx : DS 3 .i64 h va xs) (hy : DS 3 .i64 h vb ys) (lx : Lim 10000 xs) (ly : Lim 10000 ys) (sx : xs.length ≤ 400) (sy : ys.length ≤ 400)
    (hk : ∀ v h' os, EX h h' → DS 3 .i64 h' v os → Lim 10000 os → os.length ≤ 500 → val 10000 os = val 10000 xs + val 10000 ys → K v h') : CallP Tryz.prog 97 [va, vb] h K := by
  refine f97 ?_
  simp only [T97, mkD0, OH_some]
  refine loopL (σ := Value × Nat × List Nat × Heap) (fun p => [p.1, I p.2.1, I p.2.2.1.length]) (fun p => p.2.2.2)
    (fun p => EX h p.2.2.2 ∧ OwnD h.length p.2.2.2 p.1 p.2.2.1 ∧ p.2.1 ≤ 1 ∧ Lim 10000 p.2.2.1 ∧ p.2.2.1.length ≤ max xs.length ys.length + 1 ∧ (p.2.2.1.length = max xs.length ys.length + 1 → p.2.1 = 0) ∧ val 10000 p.2.2.1 + 10000 ^ p.2.2.1.length * p.2.1 = val 10000 (xs.take p.2.2.1.length) + val 10000 (ys.take p.2.2.1.length)) (fun p => max xs.length ys.length + 1 - p.2.2.1.length)
    (sl 3 h.length 0 0, 0, [], h ++ [.arr 3 []]) rfl rfl ⟨EX.append _ _, ownD0 h, by simp, fun x hx => by simp at hx, by simp, by simp, by simp [val]⟩ ?_
  rintro ⟨v, c, os, hx'⟩ ⟨hex, hown, hc, hlim, hlen, hend, hval⟩ L hL
  simp only at hex hown hc hlim hlen hend hval hL ⊢
  rw [q97z6]
  have dx := hx.mono hex
  have dy := hy.mono hex
  -- one digit
  have dig : ∀ (x y : Nat), x < 10000 → y < 10000 → (os.length < max xs.length ys.length ∨ 0 < c) → val 10000 (xs.take (os.length + 1)) = val 10000 (xs.take os.length) + 10000 ^ os.length * x → val 10000 (ys.take (os.length + 1)) = val 10000 (ys.take os.length) + 10000 ^ os.length * y →
      (x = 0 ∧ y = 0 ∨ os.length < max xs.length ys.length) → p97z25 Tryz.prog K va vb v (I os.length) (I ((c + x + y : Nat) : Int)) L hx' := by
    intro x y hxl hyl hor e1 e2 hlast
    rw [q97z25]
    rw [show (.int .i64 10000 : Value) = .int .i64 ((10000 : Nat) : Int) from rfl, rem_nat _ _ _ (by decide)]
    simp only [OP_some]
    refine appD hown hex (by omega) ?_
    intro v' h2 x2 o2
    rw [quoI (by decide) (by omega)]
    simp only [OP_some, q97z26, bin_add, inc os.length (by omega), true_and]
    have hlen' : os.length < max xs.length ys.length + 1 := by
      rcases hor with h | h
      · omega
      · apply Classical.byContradiction
        intro hc2
        have := hend (by omega)
        omega
    have hm : (c + x + y) % 10000 < 10000 := Nat.mod_lt _ (by decide)
    have hdm := Nat.mod_add_div (c + x + y) 10000
    have el : (os ++ [(c + x + y) % 10000]).length = os.length + 1 := by simp
    have := hL (v', (c + x + y) / 10000, os ++ [(c + x + y) % 10000], h2) ⟨x2, o2, by show (c + x + y) / 10000 ≤ 1; omega, hlim.append (fun z hz => by simp at hz; omega), by rw [el]; omega, ?_, ?_⟩ (by rw [el]; omega)
    · rw [el] at this
      exact this
    · intro h9
      rw [el] at h9
      show (c + x + y) / 10000 = 0
      rcases hlast with ⟨rfl, rfl⟩ | h
      · omega
      · omega
    · rw [el]
      show val 10000 (os ++ [(c + x + y) % 10000]) + 10000 ^ (os.length + 1) * ((c + x + y) / 10000) = _
      rw [val_append, e1, e2, Nat.pow_succ]
      simp only [val, Nat.mul_zero, Nat.add_zero]
      generalize (c + x + y) / 10000 = q at *
      generalize (c + x + y) % 10000 = m at *
      generalize 10000 ^ os.length = P at *
      generalize val 10000 os = V at *
      clear hL dx dy hx hy hown
      grind
  have next : (os.length < max xs.length ys.length ∨ 0 < c) → OP (iLenSl va) fun x29 => OP (iBin .lss (I os.length) x29) fun x30 => IfP x30
      (OP (iAdrSl 1 va (I os.length)) fun x34 => OP (iLoad false 1 hx' x34) fun x35 => OP (iBin .add (I c) x35) fun x36 => p97z22 Tryz.prog K va vb v (I os.length) x36 L hx')
      (p97z22 Tryz.prog K va vb v (I os.length) (I c) L hx') := by
    intro hor
    have second : ∀ x : Nat, x < 10000 → val 10000 (xs.take (os.length + 1)) = val 10000 (xs.take os.length) + 10000 ^ os.length * x → (x = 0 ∨ os.length < xs.length) → p97z22 Tryz.prog K va vb v (I os.length) (I ((c + x : Nat) : Int)) L hx' := by
      intro x hxl e1 hx0
      rw [q97z22]
      simp only [dy.len, OP_some, bin_lss, IfP_dec]
      refine ⟨fun hlt => ?_, fun hge => ?_⟩
      · obtain ⟨i, g1, g2⟩ := dy.get (j := os.length) (by omega)
        have hyl := ly _ (List.getElem_mem (show os.length < ys.length by omega))
        have e2 := val_take_succ 10000 ys (i := os.length) (by omega)
        generalize ys[os.length]'(by omega) = y at g2 hyl e2
        have ea : IntKind.wrap .i64 (((c + x : Nat) : Int) + (y : Int)) = ((c + x + y : Nat) : Int) := by rw [wrap64 (by omega) (by omega)]; omega
        simp only [g1, OP_some, g2, bin_add, ea]
        exact dig x y hxl hyl hor e1 e2 (.inr (by omega))
      · have := dig x 0 hxl (by decide) hor e1 (by rw [List.take_of_length_le (by omega), List.take_of_length_le (by omega)]; simp) (by rcases hx0 with h | h; exact .inl ⟨h, rfl⟩; exact .inr (by omega))
        simpa using this
    simp only [dx.len, OP_some, bin_lss, IfP_dec]
    refine ⟨fun hlt => ?_, fun hge => ?_⟩
    · obtain ⟨i, g1, g2⟩ := dx.get (j := os.length) (by omega)
      have hxl := lx _ (List.getElem_mem (show os.length < xs.length by omega))
      have e1 := val_take_succ 10000 xs (i := os.length) (by omega)
      generalize xs[os.length]'(by omega) = x at g2 hxl e1
      have ea : IntKind.wrap .i64 ((c : Int) + (x : Int)) = ((c + x : Nat) : Int) := by rw [wrap64 (by omega) (by omega)]; omega
      simp only [g1, OP_some, g2, bin_add, ea]
      exact second x hxl e1 (.inr (by omega))
    · have := second 0 (by decide) (by rw [List.take_of_length_le (by omega), List.take_of_length_le (by omega)]; simp) (.inl rfl)
      simpa using this
  have done : ¬ (os.length < max xs.length ys.length ∨ 0 < c) → p97z27 Tryz.prog K v hx' := by
    intro hno
    rw [q97z27]
    refine hk v hx' os hex hown.ds hlim (by omega) ?_
    have hc0 : c = 0 := by omega
    rw [hc0, Nat.mul_zero, Nat.add_zero, List.take_of_length_le (by omega), List.take_of_length_le (by omega)] at hval
    exact hval
  simp only [dx.len, OP_some, bin_lss]
  by_cases h1 : os.length < xs.length
  · rw [decide_eq_true (show (os.length : Int) < (xs.length : Int) by omega)]
    simp only [q97z10, GdP_tf, q97z12, iPick_t, OP_some, q97z14, q97z16, IfP_true]
    exact next (.inl (by omega))
  · rw [decide_eq_false (show ¬ (os.length : Int) < (xs.length : Int) by omega)]
    simp only [q97z10, GdP_ff, dy.len, OP_some, bin_lss]
    by_cases h2 : os.length < ys.length
    · rw [decide_eq_true (show (os.length : Int) < (ys.length : Int) by omega)]
      simp only [q97z12, iPick_f, OP_some, q97z14, GdP_tf, q97z16, iPick_t, IfP_true]
      exact next (.inl (by omega))
    · rw [decide_eq_false (show ¬ (os.length : Int) < (ys.length : Int) by omega)]
      simp only [q97z12, iPick_f, OP_some, q97z14, GdP_ff, bin_gtr]
      by_cases h3 : 0 < c
      · rw [decide_eq_true (show (0 : Int) < (c : Int) by omega)]
        simp only [q97z16, iPick_f, OP_some, IfP_true]
        exact next (.inr h3)
      · rw [decide_eq_false (show ¬ (0 : Int) < (c : Int) by omega)]
        simp only [q97z16, iPick_f, OP_some, IfP_false]
        exact done (by omega)

theorem C99 {va vb : Value} {xs ys : List Nat} {h : Heap} {K : Value → Heap → Prop} (hx : DS 3 .i64 h va xs) (hy : DS 3 .i64 h vb ys) (lx : Lim 10000 xs) (ly : Lim 10000 ys) (sx : xs.length ≤ 400) (hyx : ys.length ≤ xs.length) (hle : val 10000 ys ≤ val 10000 xs)
    (hk : ∀ v h' os, EX h h' → DS 3 .i64 h' v os → Lim 10000 os → os.length ≤ 500 → val 10000 os = val 10000 xs - val 10000 ys → K v h') : CallP Tryz.prog 99 [va, vb] h K := by
  refine f99 ?_
  simp only [T99, mkD0, OH_some]
  refine loopL (σ := Value × Nat × List Nat × Heap) (fun p => [p.1, I p.2.1, I p.2.2.1.length]) (fun p => p.2.2.2)
    (fun p => EX h p.2.2.2 ∧ OwnD h.length p.2.2.2 p.1 p.2.2.1 ∧ p.2.1 ≤ 1 ∧ Lim 10000 p.2.2.1 ∧ p.2.2.1.length ≤ xs.length ∧ val 10000 p.2.2.1 + val 10000 (ys.take p.2.2.1.length) = val 10000 (xs.take p.2.2.1.length) + 10000 ^ p.2.2.1.length * p.2.1) (fun p => xs.length - p.2.2.1.length)
    (sl 3 h.length 0 0, 0, [], h ++ [.arr 3 []]) rfl rfl ⟨EX.append _ _, ownD0 h, by simp, fun x hx => by simp at hx, by simp, by simp [val]⟩ ?_
  rintro ⟨v, c, os, hx'⟩ ⟨hex, hown, hc, hlim, hlen, hval⟩ L hL
  simp only at hex hown hc hlim hlen hval hL ⊢
  rw [q99z6]
  have dx := hx.mono hex
  have dy := hy.mono hex
  simp only [dx.len, OP_some, bin_lss, IfP_dec]
  refine ⟨fun hlt => ?_, fun hge => ?_⟩
  · have hil : os.length < xs.length := by omega
    obtain ⟨i, g1, g2⟩ := dx.get hil
    have hxl := lx _ (List.getElem_mem hil)
    have e1 := val_take_succ 10000 xs hil
    generalize xs[os.length] = x at g2 hxl e1
    have dig : ∀ y : Nat, y < 10000 → val 10000 (ys.take (os.length + 1)) = val 10000 (ys.take os.length) + 10000 ^ os.length * y → p99z14 Tryz.prog K va vb v (I os.length) (I ((x : Int) - c - y)) L hx' := by
      intro y hyl e2
      rw [q99z14]
      have go : ∀ d b : Nat, d < 10000 → b ≤ 1 → d + y + c = x + 10000 * b → p99z18 Tryz.prog K va vb v (I b) (I os.length) (I d) L hx' := by
        intro d b hd hb he
        rw [q99z18]
        refine appD hown hex (by omega) ?_
        intro v' h2 x2 o2
        simp only [q99z19, bin_add, OP_some, inc os.length (by omega), true_and]
        have el : (os ++ [d]).length = os.length + 1 := by simp
        have := hL (v', b, os ++ [d], h2) ⟨x2, o2, hb, hlim.append (fun z hz => by simp at hz; omega), by rw [el]; omega, ?_⟩ (by rw [el]; omega)
        · rw [el] at this
          exact this
        · rw [el]
          show val 10000 (os ++ [d]) + _ = _
          rw [val_append, e1, e2, Nat.pow_succ]
          simp only [val, Nat.mul_zero, Nat.add_zero]
          generalize 10000 ^ os.length = P at *
          generalize val 10000 os = V at *
          clear hL dx dy hx hy hown
          grind
      simp only [bin_lss, OP_some, IfP_dec]
      refine ⟨fun hneg => ?_, fun hpos => ?_⟩
      · obtain ⟨d, hd⟩ : ∃ d : Nat, (x : Int) - c - y + 10000 = d := ⟨((x : Int) - c - y + 10000).toNat, by omega⟩
        simp only [bin_add, OP_some, hd]
        rw [wrap64 (by omega) (by omega)]
        exact go d 1 (by omega) (by omega) (by omega)
      · obtain ⟨d, hd⟩ : ∃ d : Nat, (x : Int) - c - y = d := ⟨((x : Int) - c - y).toNat, by omega⟩
        rw [hd]
        exact go d 0 (by omega) (by omega) (by omega)
    simp only [g1, OP_some, g2, bin_sub, dy.len, bin_lss, IfP_dec]
    rw [wrap64 (n := (x : Int) - c) (by omega) (by omega)]
    refine ⟨fun hly => ?_, fun hgy => ?_⟩
    · obtain ⟨i', k1, k2⟩ := dy.get (j := os.length) (by omega)
      have hyl := ly _ (List.getElem_mem (show os.length < ys.length by omega))
      have e2 := val_take_succ 10000 ys (i := os.length) (by omega)
      generalize ys[os.length]'(by omega) = y at k2 hyl e2
      simp only [k1, OP_some, k2, bin_sub]
      rw [wrap64 (by omega) (by omega)]
      exact dig y hyl e2
    · have := dig 0 (by decide) (by rw [List.take_of_length_le (by omega), List.take_of_length_le (by omega)]; simp)
      simpa using this
  · have hl : os.length = xs.length := by omega
    rw [q99z20]
    rw [hl, List.take_length, List.take_of_length_le hyx] at hval
    have hlt := val_lt hlim
    rw [hl] at hlt
    have hc0 : c = 0 := by
      apply Classical.byContradiction
      intro hne
      have : c = 1 := by omega
      subst this
      omega
    subst hc0
    exact hk v hx' os hex hown.ds hlim (by omega) (by omega)

theorem C98 {va vb : Value} {a b : Nat} {h : Heap} {K : Value → Heap → Prop} (ha : MagZ h va a) (hb : MagZ h vb b) (la : a < bigW) (lb : b < bigW) (hk : K (I (sgn a b)) h) : CallP Tryz.prog 98 [va, vb] h K := by
  obtain ⟨xs, hx, cx, rfl⟩ := ha
  obtain ⟨ys, hy, cy, rfl⟩ := hb
  have l1 := canZ_len cx la
  have l2 := canZ_len cy lb
  have less : val 10000 xs < val 10000 ys → K (.int .i64 (-1)) h := fun h1 => by unfold sgn at hk; rw [if_pos h1] at hk; exact hk
  have more : val 10000 ys < val 10000 xs → K (.int .i64 1) h := fun h1 => by unfold sgn at hk; rw [if_neg (by omega), if_pos h1] at hk; exact hk
  have same : val 10000 xs = val 10000 ys → K (.int .i64 0) h := fun h1 => by unfold sgn at hk; rw [if_neg (by omega), if_neg (by omega)] at hk; exact hk
  refine f98 ?_
  simp only [T98, hx.len, hy.len, OP_some, bin_neq, IfP_ndec, bin_lss, IfP_dec]
  refine ⟨fun hne => ⟨fun hlt => less (Canon.lt_of_len (by decide) cx cy (by omega)), fun hge => more (Canon.lt_of_len (by decide) cy cx (by omega))⟩, fun he => ?_⟩
  have he' : xs.length = ys.length := by omega
  simp only [bin_sub, OP_some]
  have e1 : IntKind.wrap .i64 ((xs.length : Int) - 1) = (xs.length : Int) - 1 := by rw [wrap64 (by omega) (by omega)]
  rw [e1]
  refine loopL (σ := Nat) (fun i => [I ((i : Int) - 1)]) (fun _ => h) (fun i => i ≤ xs.length ∧ xs.drop i = ys.drop i) (fun i => i) xs.length rfl rfl ⟨Nat.le_refl _, by rw [List.drop_length, he', List.drop_length]⟩ ?_
  rintro i ⟨hi, hdr⟩ L hL
  rw [q98z11]
  simp only [bin_geq, OP_some, IfP_dec]
  refine ⟨fun hge => ?_, fun hlt => ?_⟩
  · obtain ⟨j, rfl⟩ : ∃ j, i = j + 1 := ⟨i - 1, by omega⟩
    have ej : (((j + 1 : Nat) : Int) - 1) = (j : Int) := by omega
    rw [ej]
    obtain ⟨ia, a1, a2⟩ := hx.get (j := j) (by omega)
    obtain ⟨ib, b1, b2⟩ := hy.get (j := j) (by omega)
    simp only [a1, a2, b1, b2, OP_some, true_and, bin_lss, IfP_dec]
    refine ⟨fun hlt => less (val_lt_of_top cx.1 cy.1 he' (i := j) (by omega) hdr (by omega)), fun hge => ?_⟩
    simp only [bin_gtr, OP_some, IfP_dec]
    refine ⟨fun hgt => more (val_lt_of_top cy.1 cx.1 he'.symm (i := j) (by omega) hdr.symm (by omega)), fun hle => ?_⟩
    simp only [bin_sub, OP_some]
    rw [wrap64 (by omega) (by omega)]
    refine hL j ⟨by omega, ?_⟩ (by omega)
    rw [List.drop_eq_getElem_cons (by omega), List.drop_eq_getElem_cons (show j < ys.length by omega), hdr]
    congr 1
    omega
  · have : i = 0 := by omega
    subst this
    rw [List.drop_zero, List.drop_zero] at hdr
    exact same (by rw [hdr])

end Go.Proofs.YthplaillblmgfaaGreatDoor


namespace Go.Proofs.YthplaillblmgfaaGreatDoor
open Go.Sim

theorem fin2z {h' : Heap} {j : Nat} {b0 v0 b v : Value} {K : Value → Heap → Prop} (hg : h'[j]? = some (.arr 36 [b0, v0])) (hk : K (.agg #[b, v]) (h'.set j (.arr 36 [b, v]))) :
    OH (oStore 2 h' (pt j 0) (.agg #[b, v])) fun _ h6 => OP (iLoad true 2 h6 (pt j 0)) fun r0 => K r0 h6 := by
  rw [store2 hg]
  simp only [OH_some]
  rw [load2 (set_get hg)]
  exact OP_some.2 hk

structure Box2z (h : Heap) (va vb : Value) (sa sb : Bool) (h3 : Heap) : Prop where
  ex : EX h h3
  a0 : iLoad false 1 h3 (pt h.length 0) = some (B sa)
  a1 : iLoad false 1 h3 (pt h.length 1) = some va
  b0 : iLoad false 1 h3 (pt (h.length + 1) 0) = some (B sb)
  b1 : iLoad false 1 h3 (pt (h.length + 1) 1) = some vb
  a2 : iLoad true 2 h3 (pt h.length 0) = some (.agg #[B sa, va])
  b2 : iLoad true 2 h3 (pt (h.length + 1) 0) = some (.agg #[B sb, vb])
  out : h3[h.length + 2]? = some (.arr 36 [.bool false, .slice none 0 0])

theorem box2z {h : Heap} {va vb : Value} {sa sb : Bool} {K : Value → Value → Value → Heap → Prop} (hk : ∀ h3, Box2z h va vb sa sb h3 → K (pt h.length 0) (pt (h.length + 1) 0) (pt (h.length + 2) 0) h3) :
    OH (iBox 36 h (.agg #[B sa, va])) fun a2 h_1 => OH (iBox 36 h_1 (.agg #[B sb, vb])) fun b3 h_2 => OH (iAlloc 36 [(.bool false), (.slice none 0 0)] h_2) fun x4 h_3 => K a2 b3 x4 h_3 := by
  have e1 : ∀ (g : Heap) (s : Bool) (v : Value), iBox 36 g (.agg #[B s, v]) = some (pt g.length 0, g ++ [.arr 36 [B s, v]]) := fun _ _ _ => rfl
  have e2 : ∀ (g : Heap), iAlloc 36 [(.bool false), (.slice none 0 0)] g = some (pt g.length 0, g ++ [.arr 36 [(.bool false), (.slice none 0 0)]]) := fun _ => rfl
  simp only [e1, e2, OH_some, List.length_append, List.length_cons, List.length_nil]
  have g0 : (h ++ [IObj.arr 36 [B sa, va]] ++ [IObj.arr 36 [B sb, vb]] ++ [IObj.arr 36 [(.bool false), (.slice none 0 0)]])[h.length]? = some (.arr 36 [B sa, va]) := by simp
  have g1 : (h ++ [IObj.arr 36 [B sa, va]] ++ [IObj.arr 36 [B sb, vb]] ++ [IObj.arr 36 [(.bool false), (.slice none 0 0)]])[h.length + 1]? = some (.arr 36 [B sb, vb]) := by simp
  have g2 : (h ++ [IObj.arr 36 [B sa, va]] ++ [IObj.arr 36 [B sb, vb]] ++ [IObj.arr 36 [(.bool false), (.slice none 0 0)]])[h.length + 2]? = some (.arr 36 [(.bool false), (.slice none 0 0)]) := by simp
  refine hk _ ⟨((EX.append _ _).push _).push _, ?_, ?_, ?_, ?_, load2 g0, load2 g1, g2⟩
  · simp [iLoad, objCells, iPart]
  · simp [iLoad, objCells, iPart]
  · simp [iLoad, objCells, iPart]
  · simp [iLoad, objCells, iPart]

theorem build2 {b : Bool} {e : TypeId} {k : IntKind} {h : Heap} {v : Value} {xs : List Nat} (d : DS e k h v xs) : iBuild [(.bool false), (.slice none 0 0)] [(0, 1, B b), (1, 1, v)] = some (.agg #[B b, v]) := by
  rcases d with ⟨rfl, _⟩ | ⟨i, rfl, _⟩ <;> rfl

theorem C62 {va vb : Value} {a b : Int} {h : Heap} {K : Value → Heap → Prop} (ha : ZV h va a) (hb : ZV h vb b) (la : a.natAbs < bigW) (lb : b.natAbs < bigW) (hk : ∀ r h', EX h h' → ZV h' r (a + b) → K r h') : CallP Tryz.prog 62 [va, vb] h K := by
  obtain ⟨v, rfl, hv⟩ := ha
  obtain ⟨w, rfl, hw⟩ := hb
  refine f62 ?_
  unfold T62
  refine box2z ?_
  intro h3 x
  have hv3 := hv.mono x.ex
  have hw3 := hw.mono x.ex
  obtain ⟨xs, dx, cx, ex⟩ := id hv3
  obtain ⟨ys, dy, cy, ey⟩ := id hw3
  have l1 := canZ_len cx (by rw [ex]; exact la)
  have l2 := canZ_len cy (by rw [ey]; exact lb)
  simp only [fadr_pt, Nat.add_zero, Nat.zero_add, OP_some, x.a0, x.a1, x.b0, x.b1, eqb_bool, Bool.false_eq_true, if_false]
  -- the result, put in its place
  have put : ∀ (s : Bool) (u : Value) (os : List Nat) (h4 : Heap) (z : Int), EX h3 h4 → DS 3 .i64 h4 u os → Lim 10000 os → os.length ≤ 500 → (if s then -(val 10000 os : Int) else (val 10000 os : Int)) = z → z = a + b →
      OP (iBuild [(.bool false), (.slice none 0 0)] [(0, 1, B s), (1, 1, u)]) fun x17 => CallP Tryz.prog 95 [x17] h4 fun x18 h_5 => OH (oStore 2 h_5 (pt (h.length + 2) 0) x18) fun _ h_6 => OP (iLoad true 2 h_6 (pt (h.length + 2) 0)) fun r0 => K r0 h_6 := by
    intro s u os h4 z x4 d4 l4 s4 hz hz2
    simp only [build2 d4, OP_some]
    refine C95 d4 l4 (by omega) ?_
    intro r h5 x5 zr
    rw [hz, hz2] at zr
    obtain ⟨q, rfl, hq⟩ := id zr
    have g' := (x4.trans x5).get x.out
    exact fin2z g' (hk _ _ (((x.ex.trans x4).trans x5).set (by omega) _) (zr.setB g' _))
  refine IfP_of (fun he => ?_) fun hne => ?_
  · have hs : decide (a < 0) = decide (b < 0) := by simpa using he
    have hs' : (a < 0 ↔ b < 0) := by simpa using hs
    simp only [true_and]
    refine C97 dx dy cx.1 cy.1 (by omega) (by omega) ?_
    intro u h4 os x4 d4 l4 s4 v4
    refine ⟨⟨EX.load x4 x.a0, trivial⟩, ?_⟩
    have := put (decide (a < 0)) u os h4 _ x4 d4 l4 s4 rfl (by
      rw [v4, ex, ey]
      by_cases h0 : a < 0
      · rw [decide_eq_true h0]; simp; omega
      · rw [decide_eq_false h0]; simp; omega)
    simpa using this
  · have hs : decide (a < 0) ≠ decide (b < 0) := by simpa using hne
    have hs' : ¬ (a < 0 ↔ b < 0) := fun h => hs (decide_eq_decide.2 h)
    refine C98 hv3 hw3 la lb ?_
    simp only [bin_geq, OP_some, IfP_dec]
    have ll : ∀ {p q : List Nat}, Canon 10000 p → Canon 10000 q → val 10000 q ≤ val 10000 p → q.length ≤ p.length := by
      intro p q cp cq hpq
      apply Classical.byContradiction
      intro hc
      have := Canon.lt_of_len (by decide) cp cq (by omega)
      omega
    refine ⟨fun hge => ?_, fun hlt => ?_⟩
    · have hle : b.natAbs ≤ a.natAbs := by
        apply Classical.byContradiction
        intro hc
        unfold sgn at hge
        rw [if_pos (by omega)] at hge
        omega
      simp only [x.a0, x.a1, x.b1, OP_some, true_and]
      refine C99 dx dy cx.1 cy.1 (by omega) (ll cx cy (by omega)) (by omega) ?_
      intro u h4 os x4 d4 l4 s4 v4
      refine ⟨⟨EX.load x4 x.a0, trivial⟩, ?_⟩
      have := put (decide (a < 0)) u os h4 _ x4 d4 l4 s4 rfl (by
        rw [v4, ex, ey]
        by_cases h0 : a < 0
        · rw [decide_eq_true h0]; simp; omega
        · rw [decide_eq_false h0]; simp; omega)
      simpa using this
    · have hle : a.natAbs ≤ b.natAbs := by
        apply Classical.byContradiction
        intro hc
        unfold sgn at hlt
        rw [if_neg (by omega), if_pos (by omega)] at hlt
        omega
      simp only [x.b0, x.a1, x.b1, OP_some, true_and]
      refine C99 dy dx cy.1 cx.1 (by omega) (ll cy cx (by omega)) (by omega) ?_
      intro u h4 os x4 d4 l4 s4 v4
      refine ⟨⟨EX.load x4 x.b0, trivial⟩, ?_⟩
      have := put (decide (b < 0)) u os h4 _ x4 d4 l4 s4 rfl (by
        rw [v4, ex, ey]
        by_cases h0 : b < 0
        · rw [decide_eq_true h0]; simp; omega
        · rw [decide_eq_false h0]; simp; omega)
      simpa using this

theorem MagZ.len0 {h : Heap} {v : Value} {n : Nat} (p : MagZ h v n) : ∃ l : Nat, iLenSl v = some (I l) ∧ (0 < l ↔ 0 < n) := by
  obtain ⟨xs, d, c, rfl⟩ := p
  refine ⟨xs.length, d.len, ?_⟩
  constructor
  · intro h0
    have := Canon.low (by decide) c (by rintro rfl; simp at h0)
    have : 0 < 10000 ^ (xs.length - 1) := Nat.pow_pos (by decide)
    omega
  · intro h0
    cases xs with
    | nil => simp [val] at h0
    | cons x xs => simp

theorem C92 {va : Value} {a : Int} {h : Heap} {K : Value → Heap → Prop} (ha : ZV h va a) (hk : ∀ r h', EX h h' → ZV h' r (-a) → K r h') : CallP Tryz.prog 92 [va] h K := by
  obtain ⟨v, rfl, hv⟩ := ha
  refine f92 ?_
  have e1 : iBox 36 h (.agg #[B (decide (a < 0)), v]) = some (pt h.length 0, h ++ [.arr 36 [B (decide (a < 0)), v]]) := rfl
  have e2 : ∀ (g : Heap), iAlloc 36 [(.bool false), (.slice none 0 0)] g = some (pt g.length 0, g ++ [.arr 36 [(.bool false), (.slice none 0 0)]]) := fun _ => rfl
  simp only [T92, e1, e2, OH_some, List.length_append, List.length_cons, List.length_nil]
  have g0 : (h ++ [IObj.arr 36 [B (decide (a < 0)), v]] ++ [IObj.arr 36 [(.bool false), (.slice none 0 0)]])[h.length]? = some (.arr 36 [B (decide (a < 0)), v]) := by simp
  have g1 : (h ++ [IObj.arr 36 [B (decide (a < 0)), v]] ++ [IObj.arr 36 [(.bool false), (.slice none 0 0)]])[h.length + 1]? = some (.arr 36 [(.bool false), (.slice none 0 0)]) := by simp
  have x1 : EX h (h ++ [IObj.arr 36 [B (decide (a < 0)), v]] ++ [IObj.arr 36 [(.bool false), (.slice none 0 0)]]) := (EX.append _ _).push _
  generalize h ++ [IObj.arr 36 [B (decide (a < 0)), v]] ++ [IObj.arr 36 [(.bool false), (.slice none 0 0)]] = h1 at g0 g1 x1 ⊢
  have l0 : iLoad false 1 h1 (pt h.length 0) = some (B (decide (a < 0))) := by simp [iLoad, objCells, g0, iPart]
  have l1 : iLoad false 1 h1 (pt h.length 1) = some v := by simp [iLoad, objCells, g0, iPart]
  have hv1 := hv.mono x1
  obtain ⟨l, n1, n2⟩ := hv1.len0
  have last : ∀ c : Bool, c = decide (-a < 0) → OH (oStore 1 h1 (pt h.length 0) (B c)) fun _ h_1 => OP (iLoad true 2 h_1 (pt h.length 0)) fun x13 => OH (oStore 2 h_1 (pt (h.length + 1) 0) x13) fun _ h_2 => OP (iLoad true 2 h_2 (pt (h.length + 1) 0)) fun r0 => K r0 h_2 := by
    rintro c rfl
    rw [store_at g0 (by simp) rfl rfl]
    simp only [OH_some, List.set_cons_zero]
    rw [load2 (set_get g0)]
    simp only [OP_some]
    have m1 : (h1.set h.length (.arr 36 [B (decide (-a < 0)), v]))[h.length + 1]? = some (.arr 36 [(.bool false), (.slice none 0 0)]) := by rw [List.getElem?_set_ne (by omega)]; exact g1
    refine fin2z m1 (hk _ _ ((x1.set (Nat.le_refl _) _).set (by omega) _) ⟨v, rfl, ?_⟩)
    have : (-a).natAbs = a.natAbs := by omega
    rw [this]
    exact (hv1.setB g0 _).setB m1 _
  simp only [fadr_pt, Nat.add_zero, OP_some, l0, un_not]
  by_cases h0 : a < 0
  · rw [decide_eq_true h0]
    simp only [Bool.not_true, q92z4, GdP_ft, q92z6, iPick_f, OP_some, fadr_pt, Nat.add_zero]
    rw [decide_eq_true h0] at *
    exact last _ (by simp; omega)
  · rw [decide_eq_false h0]
    simp only [Bool.not_false, q92z4, GdP_tt, fadr_pt, Nat.zero_add, OP_some, l1, n1, bin_gtr, q92z6, iPick_t, Nat.add_zero]
    refine last _ ?_
    rw [decide_eq_decide]
    omega

theorem C94 {va vb : Value} {a b : Int} {h : Heap} {K : Value → Heap → Prop} (ha : ZV h va a) (hb : ZV h vb b) (la : a.natAbs < bigW) (lb : b.natAbs < bigW) (hk : ∀ r h', EX h h' → ZV h' r (a - b) → K r h') : CallP Tryz.prog 94 [va, vb] h K := by
  have ha0 := ha
  have hb0 := hb
  obtain ⟨v, rfl, hv⟩ := ha
  obtain ⟨w, rfl, hw⟩ := hb
  refine f94 ?_
  unfold T94
  refine box2z ?_
  intro h3 x
  simp only [OP_some, x.a2, x.b2, true_and]
  refine C92 (hb0.mono x.ex) ?_
  intro r1 h4 x4 i1
  refine ⟨⟨EX.load x4 x.a2, trivial⟩, ?_⟩
  refine C62 (ha0.mono (x.ex.trans x4)) i1 la (by rw [Int.natAbs_neg]; exact lb) ?_
  intro r2 h5 x5 i2
  have g' := (x4.trans x5).get x.out
  obtain ⟨u, rfl, hu⟩ := id i2
  refine fin2z g' (hk _ _ (((x.ex.trans x4).trans x5).set (by omega) _) ?_)
  rw [Int.sub_eq_add_neg]
  exact i2.setB g' _

end Go.Proofs.YthplaillblmgfaaGreatDoor


namespace Go.Proofs.YthplaillblmgfaaGreatDoor
open Go.Sim

theorem appD' {b : Nat} {hx : Heap} {v : Value} {os : List Nat} {d : Nat} {K : Value → Heap → Prop} (hb : b ≤ hx.length) (o : OwnD b hx v os) (hl : os.length ≤ 10000)
    (hk : ∀ v' hx', (∀ d, d < b → hx'[d]? = hx[d]?) → b ≤ hx'.length → OwnD b hx' v' (os ++ [d]) → K v' hx') : OH (iMkSl 3 1 [.int .i64 0] hx [(0, 1, I d)]) fun a h2 => OH (iApp 3 1 8 h2 v a) K := by
  have hlen : (hx.take b).length = b := by rw [List.length_take]; omega
  have hex : EX (hx.take b) hx := by
    refine ⟨by omega, fun i hi => ?_⟩
    rw [List.getElem?_take_of_lt (by omega)]
  refine appD (h0 := hx.take b) (by rw [hlen]; exact o) hex hl ?_
  intro v' hx' x o'
  rw [hlen] at o'
  refine hk v' hx' (fun d hd => ?_) (by have := x.1; omega) o'
  rw [x.2 d (by omega), List.getElem?_take_of_lt hd]

theorem OwnD.set {b j : Nat} {hx : Heap} {v : Value} {os : List Nat} (o : OwnD b hx v os) (hj : j < b) (x : IObj) : OwnD b (hx.set j x) v os :=
  OwnS.keep o fun d _ _ hd => by rw [List.getElem?_set_ne (by omega)]

theorem remI {a : Int} {b : Nat} (hb : b ≠ 0) : iBin .rem (.int .i64 a) (.int .i64 (b : Int)) = some (I (a.tmod b)) := by
  have h : ¬ ((b : Int) = 0) := by omega
  simp only [iBin, iInt, if_true, if_neg h]
theorem quoII {a : Int} {b : Nat} (hb : b ≠ 0) (h1 : -9223372036854775808 < a) (h2 : a < 9223372036854775808) : iBin .quo (.int .i64 a) (.int .i64 (b : Int)) = some (I (a.tdiv b)) := by
  have h : ¬ ((b : Int) = 0) := by omega
  have h3 : (a.tdiv b).natAbs ≤ a.natAbs := by
    rw [Int.natAbs_tdiv, Int.natAbs_natCast]; exact Nat.div_le_self _ _
  simp only [iBin, iInt, if_true, if_neg h]
  rw [wrap64 (by omega) (by omega)]

theorem C22 {z : Int} {h : Heap} {K : Value → Heap → Prop} (hz : z.natAbs < 1000000000000000000) (hk : ∀ r h', EX h h' → ZV h' r z → K r h') : CallP Tryz.prog 22 [I z] h K := by
  refine f22 ?_
  have e2 : ∀ g : Heap, iAlloc 36 [(.bool false), (.slice none 0 0)] g = some (pt g.length 0, g ++ [.arr 36 [(.bool false), (.slice none 0 0)]]) := fun _ => rfl
  have e3 : ∀ b : Bool, iBuild [(.bool false), (.slice none 0 0)] [(0, 1, B b)] = some (.agg #[B b, .slice none 0 0]) := fun _ => rfl
  simp only [T22, e2, OH_some, bin_lss, OP_some, e3, List.length_append, List.length_cons, List.length_nil]
  have g1 : (h ++ [IObj.arr 36 [(.bool false), (.slice none 0 0)]] ++ [IObj.arr 36 [(.bool false), (.slice none 0 0)]])[h.length + 1]? = some (.arr 36 [(.bool false), (.slice none 0 0)]) := by simp
  have g0 : (h ++ [IObj.arr 36 [(.bool false), (.slice none 0 0)]] ++ [IObj.arr 36 [(.bool false), (.slice none 0 0)]])[h.length]? = some (.arr 36 [(.bool false), (.slice none 0 0)]) := by simp
  have x1 : EX h (h ++ [IObj.arr 36 [(.bool false), (.slice none 0 0)]] ++ [IObj.arr 36 [(.bool false), (.slice none 0 0)]]) := (EX.append _ _).push _
  have hl1 : (h ++ [IObj.arr 36 [(.bool false), (.slice none 0 0)]] ++ [IObj.arr 36 [(.bool false), (.slice none 0 0)]]).length = h.length + 2 := by simp
  generalize h ++ [IObj.arr 36 [(.bool false), (.slice none 0 0)]] ++ [IObj.arr 36 [(.bool false), (.slice none 0 0)]] = h1 at *
  simp only [Nat.zero_add]
  rw [store2 g1]
  simp only [OH_some]
  refine loopL (σ := Int × List Nat × Value × Heap) (fun p => [I p.1]) (fun p => p.2.2.2)
    (fun p => h.length + 2 ≤ p.2.2.2.length ∧ EX h p.2.2.2 ∧ p.2.2.2[h.length]? = some (.arr 36 [.bool false, .slice none 0 0]) ∧ p.2.2.2[h.length + 1]? = some (.arr 36 [B (decide (z < 0)), p.2.2.1]) ∧ OwnD (h.length + 2) p.2.2.2 p.2.2.1 p.2.1 ∧ Lim 10000 p.2.1 ∧ p.2.1.length ≤ 5 ∧ p.1.natAbs < 10000 ^ (5 - p.2.1.length) ∧ val 10000 p.2.1 + 10000 ^ p.2.1.length * p.1.natAbs = z.natAbs ∧ (p.1 = 0 → Canon 10000 p.2.1)) (fun p => p.1.natAbs)
    (z, [], .slice none 0 0, h1.set (h.length + 1) (.arr 36 [B (decide (z < 0)), .slice none 0 0])) rfl rfl
    ⟨by simp [hl1], x1.set (by omega) _, by rw [List.getElem?_set_ne (by omega)]; exact g0, set_get g1, .inl ⟨rfl, rfl⟩, fun _ hx => by simp at hx, by simp, by simp; omega, by simp [val], fun _ => Canon.nil _⟩ ?_
  rintro ⟨a, os, v, hx⟩ ⟨hlen, hex, k0, k1, hown, hlim, hol, hab, hval, hcan⟩ L hL
  simp only at hlen hex k0 k1 hown hlim hol hab hval hcan hL ⊢
  rw [q22z5]
  simp only [bin_neq, OP_some, IfP_ndec]
  refine ⟨fun hne => ?_, fun heq => ?_⟩
  · have ha0 : a ≠ 0 := hne
    have hzle : a.natAbs ≤ z.natAbs := by
      have : 1 * a.natAbs ≤ 10000 ^ os.length * a.natAbs := Nat.mul_le_mul_right _ (Nat.pow_pos (by decide))
      omega
    have hol' : os.length < 5 := by
      apply Classical.byContradiction
      intro hc
      have : 5 - os.length = 0 := by omega
      rw [this] at hab
      omega
    have hmod : (a.tmod 10000).natAbs = a.natAbs % 10000 := Int.natAbs_tmod _ _
    have hdiv : (a.tdiv 10000).natAbs = a.natAbs / 10000 := Int.natAbs_tdiv _ _
    have step : p22z12 Tryz.prog K (I a) (pt h.length 0) (pt (h.length + 1) 0) (I ((a.natAbs % 10000 : Nat) : Int)) L hx := by
      rw [q22z12]
      have ld : iLoad false 1 hx (pt (h.length + 1) 1) = some v := by simp [iLoad, objCells, k1, iPart]
      simp only [fadr_pt, Nat.zero_add, OP_some, ld]
      refine appD' hlen hown (by omega) ?_
      intro v' hx' hs hl' hown'
      have k1' : hx'[h.length + 1]? = some (.arr 36 [B (decide (z < 0)), v]) := by rw [hs _ (by omega)]; exact k1
      rw [store_at k1' (by simp) hown'.ds.one.1 hown'.ds.one.2]
      simp only [OH_some, List.set_cons_succ, List.set_cons_zero]
      rw [show (.int .i64 10000 : Value) = .int .i64 ((10000 : Nat) : Int) from rfl, quoII (by decide) (by omega) (by omega)]
      simp only [OP_some, true_and]
      have hdm := Nat.mod_add_div a.natAbs 10000
      have el : (os ++ [a.natAbs % 10000]).length = os.length + 1 := by simp
      have hm : a.natAbs % 10000 < 10000 := Nat.mod_lt _ (by decide)
      have hdiv' : (a.tdiv ((10000 : Nat) : Int)).natAbs = a.natAbs / 10000 := hdiv
      refine hL (a.tdiv ((10000 : Nat) : Int), os ++ [a.natAbs % 10000], v', hx'.set (h.length + 1) (.arr 36 [B (decide (z < 0)), v'])) ⟨?_, ?_, ?_, set_get k1', hown'.set (by omega) _, hlim.append (fun y hy => by simp at hy; omega), by rw [el]; omega, ?_, ?_, ?_⟩ ?_
      · rw [List.length_set]; exact hl'
      · refine EX.set ⟨by have := hex.1; omega, fun i hi => ?_⟩ (by omega) _
        rw [hs i (by omega)]; exact hex.2 i hi
      · rw [List.getElem?_set_ne (by omega), hs _ (by omega)]; exact k0
      · show (a.tdiv ((10000 : Nat) : Int)).natAbs < _
        rw [el, hdiv']
        have : 5 - os.length = (5 - (os.length + 1)) + 1 := by omega
        rw [this, Nat.pow_succ] at hab
        exact Nat.div_lt_of_lt_mul (by rw [Nat.mul_comm]; exact hab)
      · show val 10000 (os ++ [a.natAbs % 10000]) + 10000 ^ (os ++ [a.natAbs % 10000]).length * (a.tdiv ((10000 : Nat) : Int)).natAbs = _
        rw [el, val_append, hdiv', ← hval, Nat.pow_succ]
        simp only [val, Nat.mul_zero, Nat.add_zero]
        have := congrArg (10000 ^ os.length * ·) hdm
        rw [Nat.mul_add] at this
        rw [← this, Nat.mul_assoc, Nat.add_assoc]
      · intro h0
        have h0' : a.natAbs / 10000 = 0 := by
          have h0b : a.tdiv ((10000 : Nat) : Int) = 0 := h0
          rw [← hdiv', h0b]; rfl
        refine can_of_last (hlim.append (fun y hy => by simp at hy; omega)) ?_
        intro h1 h2
        simp only [el, Nat.add_sub_cancel] at h2
        rw [List.getElem_append_right (Nat.le_refl _)] at h2
        simp at h2
        omega
      · show (a.tdiv ((10000 : Nat) : Int)).natAbs < a.natAbs
        rw [hdiv']
        exact Nat.div_lt_self (by omega) (by decide)
    rw [show (.int .i64 10000 : Value) = .int .i64 ((10000 : Nat) : Int) from rfl, remI (by decide)]
    simp only [OP_some, bin_lss, IfP_dec]
    have hmod' : (a.tmod ((10000 : Nat) : Int)).natAbs = a.natAbs % 10000 := hmod
    refine ⟨fun hn => ?_, fun hn => ?_⟩
    · have e4 : iUn .neg (I (a.tmod ((10000 : Nat) : Int))) = some (I (-(a.tmod ((10000 : Nat) : Int)))) := by
        simp only [iUn]
        rw [wrap64 (by omega) (by omega), Int.zero_sub]
      rw [e4]
      simp only [OP_some]
      rw [show -(a.tmod ((10000 : Nat) : Int)) = ((a.natAbs % 10000 : Nat) : Int) by omega]
      exact step
    · rw [show a.tmod ((10000 : Nat) : Int) = ((a.natAbs % 10000 : Nat) : Int) by omega]
      exact step
  · have ha : a = 0 := heq
    subst ha
    rw [q22z14]
    rw [load2 k1]
    simp only [OP_some]
    rw [store2 k0]
    simp only [OH_some]
    rw [load2 (set_get k0)]
    refine OP_some.2 (hk _ _ (hex.set (Nat.le_refl _) _) ⟨v, rfl, os, hown.ds.setB k0 _, hcan rfl, ?_⟩)
    simpa using hval

/-! ### The product -/

abbrev hz (h : Heap) (os : List Nat) : Heap := h ++ [.arr 3 (os.map fun d : Nat => I d)]

theorem make_hz {h : Heap} {n : Nat} (hn : n ≤ 1000) : iMake 3 8 [.int .i64 0] h (I n) (I n) = some (sl 3 h.length 0 n, hz h (List.replicate n 0)) := by
  have hzr : ∀ m, zrep [Value.int .i64 0] m = (List.replicate m 0).map fun d : Nat => I d := by
    intro m
    induction m with
    | zero => rfl
    | succ m ih =>
      have : zrep [Value.int .i64 0] (m + 1) = Value.int .i64 0 :: zrep [Value.int .i64 0] m := by simp [zrep, List.replicate_succ]
      rw [this, ih, List.replicate_succ]; rfl
  simp only [iMake]
  rw [if_pos ⟨by omega, by omega, by omega, by omega⟩, Int.toNat_natCast, hzr]

theorem hz_get (h : Heap) (os : List Nat) : (hz h os)[h.length]? = some (.arr 3 (os.map fun d : Nat => I d)) := by simp [hz]

theorem hz_store {h : Heap} {os : List Nat} {j : Nat} (d : Nat) (hj : j < os.length) : oStore 1 (hz h os) (pt h.length j) (I d) = some (undef, hz h (os.set j d)) := by
  rw [store_at (hz_get h os) (by simpa using hj) rfl rfl]
  simp [hz, List.map_set]

theorem hz_load {h : Heap} {os : List Nat} {j : Nat} (hj : j < os.length) : iLoad false 1 (hz h os) (pt h.length j) = some (I os[j]) := by
  simp [iLoad, objCells, hz_get, iPart, hj]

theorem hz_DS (h : Heap) (os : List Nat) : DS 3 .i64 (hz h os) (sl 3 h.length 0 os.length) os := .inr ⟨h.length, rfl, .inr ⟨[], by simp [objCells, hz]⟩⟩
theorem hz_EX (h : Heap) (os : List Nat) : EX h (hz h os) := EX.append _ _

theorem mul_lt4 {x y : Nat} (hx : x < 10000) (hy : y < 10000) : x * y ≤ 99980001 := by
  have := Nat.mul_le_mul (show x ≤ 9999 by omega) (show y ≤ 9999 by omega)
  omega

theorem sgn_mul (a b : Int) : (if (!(decide (a < 0) == decide (b < 0))) = true then -((a.natAbs * b.natAbs : Nat) : Int) else ((a.natAbs * b.natAbs : Nat) : Int)) = a * b := by
  have ea : (a.natAbs : Int) = if a < 0 then -a else a := by split <;> omega
  have eb : (b.natAbs : Int) = if b < 0 then -b else b := by split <;> omega
  rw [Int.natCast_mul, ea, eb]
  by_cases h1 : a < 0 <;> by_cases h2 : b < 0 <;> simp [h1, h2, Int.neg_mul, Int.mul_neg]

theorem C53 {va vb : Value} {a b : Int} {h : Heap} {K : Value → Heap → Prop} (ha : ZV h va a) (hb : ZV h vb b) (la : a.natAbs < bigW) (lb : b.natAbs < bigW) (hk : ∀ r h', EX h h' → ZV h' r (a * b) → K r h') : CallP Tryz.prog 53 [va, vb] h K := by
  obtain ⟨v, rfl, hv⟩ := ha
  obtain ⟨w, rfl, hw⟩ := hb
  refine f53 ?_
  unfold T53
  refine box2z ?_
  intro h3 x
  obtain ⟨xs, dx, cx, ex⟩ := hv.mono x.ex
  obtain ⟨ys, dy, cy, ey⟩ := hw.mono x.ex
  have l1 := canZ_len cx (by rw [ex]; exact la)
  have l2 := canZ_len cy (by rw [ey]; exact lb)
  have hB : (0 : Nat) < 10000 := by decide
  have e0 : IntKind.wrap .i64 ((xs.length : Int) + (ys.length : Int)) = ((xs.length + ys.length : Nat) : Int) := by rw [wrap64 (by omega) (by omega)]; omega
  simp only [fadr_pt, Nat.add_zero, Nat.zero_add, OP_some, x.a1, x.b1, dx.len, dy.len, bin_add, e0, inc (xs.length + ys.length) (by omega), make_hz (show xs.length + ys.length + 1 ≤ 1000 by omega), OH_some]
  refine loopL (σ := Nat × List Nat) (fun p => [I p.1]) (fun p => hz h3 p.2)
    (fun p => p.1 ≤ xs.length ∧ p.2.length = xs.length + ys.length + 1 ∧ Lim 10000 p.2 ∧ (∀ j (hj : j < p.2.length), p.1 + ys.length ≤ j → p.2[j] = 0) ∧ val 10000 p.2 = val 10000 (xs.take p.1) * val 10000 ys) (fun p => xs.length - p.1)
    (0, List.replicate (xs.length + ys.length + 1) 0) rfl rfl ⟨by simp, by simp, Lim.zeros hB _, by simp, by simp [val_zeros, val]⟩ ?_
  rintro ⟨i, os⟩ ⟨hi, hol, hlim, hzr, hval⟩ L hL
  simp only at hi hol hlim hzr hval hL ⊢
  have ldA : ∀ ps, iLoad false 1 (hz h3 ps) (pt h.length 1) = some v := fun ps => EX.load (hz_EX h3 ps) x.a1
  have ldB : ∀ ps, iLoad false 1 (hz h3 ps) (pt (h.length + 1) 1) = some w := fun ps => EX.load (hz_EX h3 ps) x.b1
  rw [q53z6]
  simp only [fadr_pt, Nat.add_zero, Nat.zero_add, ldA, dx.len, bin_lss, OP_some, IfP_dec]
  refine ⟨fun hlt => ?_, fun hge => ?_⟩
  · have hil : i < xs.length := by omega
    have hxl : xs[i] < 10000 := cx.1 _ (List.getElem_mem hil)
    have hvt := val_take_succ 10000 xs hil
    refine loopL (σ := Nat × Nat × List Nat) (fun p => [I p.1, I p.2.1]) (fun p => hz h3 p.2.2)
      (fun p => p.2.1 ≤ ys.length + 1 ∧ (p.2.1 = ys.length + 1 → p.1 = 0) ∧ p.1 < 10000 ∧ p.2.2.length = xs.length + ys.length + 1 ∧ Lim 10000 p.2.2 ∧ (∀ j (hj : j < p.2.2.length), i + ys.length + 1 ≤ j → p.2.2[j] = 0) ∧ (p.2.1 ≤ ys.length → ∀ j (hj : j < p.2.2.length), i + ys.length ≤ j → p.2.2[j] = 0) ∧ val 10000 p.2.2 + 10000 ^ (i + p.2.1) * p.1 = val 10000 os + 10000 ^ i * (xs[i] * val 10000 (ys.take p.2.1))) (fun p => ys.length + 1 - p.2.1)
      (0, 0, os) rfl rfl ⟨by simp, by simp, hB, hol, hlim, fun j hj h => hzr j hj (by omega), fun _ => hzr, by simp [val]⟩ ?_
    rintro ⟨c, k, ps⟩ ⟨hk0, hkc, hc, hpl, hplim, hpz, hpz2, hpval⟩ L2 hL2
    simp only at hk0 hkc hc hpl hplim hpz hpz2 hpval hL2 ⊢
    have dx' := dx.mono (hz_EX h3 ps)
    have dy' := dy.mono (hz_EX h3 ps)
    have hpk : i + k < ps.length := by omega
    have hol2 : ps[i + k] < 10000 := hplim _ (List.getElem_mem hpk)
    have ei : IntKind.wrap .i64 ((i : Int) + (k : Int)) = ((i + k : Nat) : Int) := by rw [wrap64 (by omega) (by omega)]; omega
    -- the next digit
    have step : ∀ p : Nat, p ≤ 99980001 → k < ys.length + 1 → (k = ys.length → p = 0) → xs[i] * val 10000 (ys.take (k + 1)) = xs[i] * val 10000 (ys.take k) + 10000 ^ k * p →
        p53z26 Tryz.prog K (pt h.length 0) (pt (h.length + 1) 0) (pt (h.length + 2) 0) (sl 3 h3.length 0 (xs.length + ys.length + 1)) (I i) (I k) (I ((ps[i + k] + c + p : Nat) : Int)) L L2 (hz h3 ps) := by
      intro p hp hkl hkp hpv
      rw [q53z26]
      have hset := val_set 10000 ps (i + k) ((ps[i + k] + c + p) % 10000) hpk
      have hmod : (ps[i + k] + c + p) % 10000 < 10000 := Nat.mod_lt _ hB
      have hdm := Nat.mod_add_div (ps[i + k] + c + p) 10000
      have hdiv : (ps[i + k] + c + p) / 10000 < 10000 := by omega
      have hend : k = ys.length → (ps[i + k] + c + p) / 10000 = 0 := by
        intro hke
        have := hpz2 (by omega) (i + k) hpk (by omega)
        rw [this, hkp hke]
        omega
      simp only [bin_add, ei, OP_some]
      rw [show (.int .i64 10000 : Value) = .int .i64 ((10000 : Nat) : Int) from rfl, rem_nat _ _ _ (by decide), quoI (by decide) (by omega)]
      simp only [OP_some]
      rw [adr_sl (show i + k < xs.length + ys.length + 1 by omega)]
      simp only [OP_some]
      rw [hz_store _ hpk]
      simp only [OH_some, q53z27, bin_add, OP_some, inc k (by omega), true_and]
      refine hL2 ((ps[i + k] + c + p) / 10000, k + 1, ps.set (i + k) ((ps[i + k] + c + p) % 10000)) ⟨by show k + 1 ≤ ys.length + 1; omega, fun h => hend (by simp only at h; omega), hdiv, by show (ps.set _ _).length = _; rw [List.length_set]; exact hpl, hplim.set hmod _, ?_, ?_, ?_⟩ (by show ys.length + 1 - (k + 1) < ys.length + 1 - k; omega)
      · intro j hj hij
        show (ps.set (i + k) _)[j] = 0
        rw [List.getElem_set_ne (by omega)]
        exact hpz j (by simpa using hj) hij
      · intro hk1 j hj hij
        have hk2 : k + 1 ≤ ys.length := hk1
        show (ps.set (i + k) _)[j] = 0
        rw [List.getElem_set_ne (by omega)]
        exact hpz2 (by omega) j (by simpa using hj) hij
      · show val 10000 (ps.set (i + k) _) + 10000 ^ (i + (k + 1)) * _ = val 10000 os + 10000 ^ i * (xs[i] * val 10000 (ys.take (k + 1)))
        rw [hpv, ← Nat.add_assoc, Nat.pow_succ]
        rw [Nat.pow_add] at hset hpval ⊢
        generalize ps[i + k] = o at *
        generalize (o + c + p) % 10000 = m at *
        generalize (o + c + p) / 10000 = q at *
        generalize xs[i] * val 10000 (ys.take k) = v at *
        generalize val 10000 (ps.set (i + k) m) = s1 at *
        generalize val 10000 ps = s0 at *
        generalize val 10000 os = s2 at *
        generalize 10000 ^ i = P at *
        generalize 10000 ^ k = Q at *
        clear hL2 hL dx dy dx' dy' hv hw x ldA ldB
        have h1 : P * Q * (m + 10000 * q) = P * Q * (o + c + p) := by rw [hdm]
        grind
    have body : k < ys.length + 1 → OP (iBin .add (I i) (I k)) fun x40 => OP (iAdrSl 1 (sl 3 h3.length 0 (xs.length + ys.length + 1)) x40) fun x41 => OP (iLoad false 1 (hz h3 ps) x41) fun x42 => OP (iBin .add x42 (I c)) fun x44 =>
        OP (iLenSl w) fun x48 => OP (iBin .lss (I k) x48) fun x49 => IfP x49
          (OP (iAdrSl 1 v (I i)) fun x54 => OP (iLoad false 1 (hz h3 ps) x54) fun x55 => OP (iAdrSl 1 w (I k)) fun x59 => OP (iLoad false 1 (hz h3 ps) x59) fun x60 => OP (iBin .mul x55 x60) fun x61 => OP (iBin .add x44 x61) fun x62 =>
            p53z26 Tryz.prog K (pt h.length 0) (pt (h.length + 1) 0) (pt (h.length + 2) 0) (sl 3 h3.length 0 (xs.length + ys.length + 1)) (I i) (I k) x62 L L2 (hz h3 ps))
          (p53z26 Tryz.prog K (pt h.length 0) (pt (h.length + 1) 0) (pt (h.length + 2) 0) (sl 3 h3.length 0 (xs.length + ys.length + 1)) (I i) (I k) x44 L L2 (hz h3 ps)) := by
      intro hkl
      have e1 : IntKind.wrap .i64 ((ps[i + k] : Int) + (c : Int)) = ((ps[i + k] + c : Nat) : Int) := by rw [wrap64 (by omega) (by omega)]; omega
      simp only [bin_add, ei, OP_some]
      rw [adr_sl (show i + k < xs.length + ys.length + 1 by omega)]
      simp only [OP_some, hz_load hpk, bin_add, e1, dy.len, bin_lss, IfP_dec]
      refine ⟨fun hlt2 => ?_, fun hge2 => ?_⟩
      · have hkl2 : k < ys.length := by omega
        obtain ⟨ia, a1, a2⟩ := dx'.get hil
        obtain ⟨ib, b1, b2⟩ := dy'.get hkl2
        have hyl : ys[k] < 10000 := cy.1 _ (List.getElem_mem hkl2)
        have hxy := mul_lt4 hxl hyl
        have cst : ((xs[i] : Int) * (ys[k] : Int)) = ((xs[i] * ys[k] : Nat) : Int) := by simp
        have e2 : IntKind.wrap .i64 ((ps[i + k] + c : Nat) + (xs[i] * ys[k] : Nat) : Int) = ((ps[i + k] + c + xs[i] * ys[k] : Nat) : Int) := by rw [wrap64 (by omega) (by omega)]; omega
        simp only [a1, a2, b1, b2, OP_some, bin_mul, cst]
        rw [wrap64 (n := ((xs[i] * ys[k] : Nat) : Int)) (by omega) (by omega)]
        simp only [bin_add, OP_some, e2]
        refine step (xs[i] * ys[k]) hxy hkl (fun h => by omega) ?_
        rw [val_take_succ 10000 ys hkl2]
        grind
      · have hke : k = ys.length := by omega
        have := step 0 (by omega) hkl (fun _ => rfl) (by rw [hke, List.take_length, List.take_of_length_le (by omega)]; rfl)
        simpa using this
    rw [q53z14]
    simp only [fadr_pt, Nat.add_zero, Nat.zero_add, ldB, dy.len, bin_lss, OP_some]
    have other : ∀ t : Bool, (t = true → k < ys.length + 1) → (t = false → ys.length ≤ k ∧ c = 0) → IfP (B t) (OP (iBin .add (I i) (I k)) fun x40 => OP (iAdrSl 1 (sl 3 h3.length 0 (xs.length + ys.length + 1)) x40) fun x41 => OP (iLoad false 1 (hz h3 ps) x41) fun x42 => OP (iBin .add x42 (I c)) fun x44 =>
        OP (iLenSl w) fun x48 => OP (iBin .lss (I k) x48) fun x49 => IfP x49
          (OP (iAdrSl 1 v (I i)) fun x54 => OP (iLoad false 1 (hz h3 ps) x54) fun x55 => OP (iAdrSl 1 w (I k)) fun x59 => OP (iLoad false 1 (hz h3 ps) x59) fun x60 => OP (iBin .mul x55 x60) fun x61 => OP (iBin .add x44 x61) fun x62 =>
            p53z26 Tryz.prog K (pt h.length 0) (pt (h.length + 1) 0) (pt (h.length + 2) 0) (sl 3 h3.length 0 (xs.length + ys.length + 1)) (I i) (I k) x62 L L2 (hz h3 ps))
          (p53z26 Tryz.prog K (pt h.length 0) (pt (h.length + 1) 0) (pt (h.length + 2) 0) (sl 3 h3.length 0 (xs.length + ys.length + 1)) (I i) (I k) x44 L L2 (hz h3 ps)))
        (p53z28 Tryz.prog K (pt h.length 0) (pt (h.length + 1) 0) (pt (h.length + 2) 0) (sl 3 h3.length 0 (xs.length + ys.length + 1)) (I i) L (hz h3 ps)) := by
      intro t h1 h2
      refine IfP_of (fun he => body (h1 (by simpa using he))) fun hne => ?_
      obtain ⟨h3', rfl⟩ := h2 (by simpa using hne)
      rw [q53z28]
      simp only [bin_add, OP_some, inc i (by omega), true_and]
      have hfull : val 10000 (ys.take k) = val 10000 ys := by rw [List.take_of_length_le h3']
      refine hL (i + 1, ps) ⟨by show i + 1 ≤ xs.length; omega, hpl, hplim, fun j hj hij => hpz j hj (by have : i + 1 + ys.length ≤ j := hij; omega), ?_⟩ (by show xs.length - (i + 1) < xs.length - i; omega)
      show val 10000 ps = val 10000 (xs.take (i + 1)) * val 10000 ys
      rw [hvt, Nat.add_mul, ← hval, Nat.mul_assoc, ← hfull, ← hpval]
      omega
    by_cases hkl : k < ys.length
    · rw [decide_eq_true (show (k : Int) < (ys.length : Int) by omega)]
      simp only [q53z18, GdP_tf, q53z20, iPick_t, OP_some, fadr_pt, Nat.add_zero, Nat.zero_add, ldA, ldB, true_and]
      exact other true (fun _ => by omega) (fun h => by cases h)
    · rw [decide_eq_false (show ¬ (k : Int) < (ys.length : Int) by omega)]
      simp only [q53z18, GdP_ff, q53z20, bin_gtr, iPick_f, OP_some, fadr_pt, Nat.add_zero, Nat.zero_add, ldA, ldB, true_and]
      exact other _ (fun h => by
        have h0 : (0 : Int) < (c : Int) := by simpa using h
        apply Classical.byContradiction
        intro hc2
        have := hkc (by omega)
        omega) (fun h => by
        have h0 : ¬ (0 : Int) < (c : Int) := by simpa using h
        omega)
  · have : i = xs.length := by omega
    subst this
    rw [q53z29]
    rw [List.take_length] at hval
    have ld0 : iLoad false 1 (hz h3 os) (pt h.length 0) = some (B (decide (a < 0))) := EX.load (hz_EX h3 os) x.a0
    have ld1 : iLoad false 1 (hz h3 os) (pt (h.length + 1) 0) = some (B (decide (b < 0))) := EX.load (hz_EX h3 os) x.b0
    have e : sl 3 h3.length 0 (xs.length + ys.length + 1) = sl 3 h3.length 0 os.length := by rw [hol]
    simp only [fadr_pt, Nat.zero_add, OP_some, ld0, ld1, eqb_bool, if_true, e]
    simp only [build2 (hz_DS h3 os), OP_some]
    refine C95 (hz_DS h3 os) hlim (by omega) ?_
    intro r h5 x5 zr
    have hzv : (if (!(decide (a < 0) == decide (b < 0))) = true then -(val 10000 os : Int) else (val 10000 os : Int)) = a * b := by
      rw [hval, ex, ey]
      exact sgn_mul a b
    rw [hzv] at zr
    obtain ⟨q, rfl, hq⟩ := id zr
    have g' := ((hz_EX h3 os).trans x5).get x.out
    exact fin2z g' (hk _ _ (((x.ex.trans (hz_EX h3 os)).trans x5).set (by omega) _) (zr.setB g' _))

end Go.Proofs.YthplaillblmgfaaGreatDoor


namespace Go.Proofs.YthplaillblmgfaaGreatDoor
open Go.Sim

/-- A fraction in memory: two integers side by side. -/
def QZ (h : Heap) (val : Value) (a b : Int) : Prop := ∃ u w, val = .agg #[B (decide (a < 0)), u, B (decide (b < 0)), w] ∧ MagZ h u a.natAbs ∧ MagZ h w b.natAbs
theorem QZ.mono {h h' : Heap} {v : Value} {a b : Int} (x : EX h h') (p : QZ h v a b) : QZ h' v a b := let ⟨u, w, e, m, n⟩ := p; ⟨u, w, e, m.mono x, n.mono x⟩
theorem QZ.setB {h : Heap} {v : Value} {a b : Int} {j : Nat} {e : TypeId} {s : Bool} {r : List Value} (p : QZ h v a b) (hj : h[j]? = some (.arr e (.bool s :: r))) (o : IObj) : QZ (h.set j o) v a b :=
  let ⟨u, w, e, m, n⟩ := p; ⟨u, w, e, m.setB hj o, n.setB hj o⟩

theorem store4 {h : Heap} {i : Nat} {e : TypeId} {a b c d x y z w : Value} (hg : h[i]? = some (.arr e [a, b, c, d])) : oStore 4 h (pt i 0) (.agg #[x, y, z, w]) = some (undef, h.set i (.arr e [x, y, z, w])) := by
  simp [oStore, iStore, hg, noTuple, vcells, Value.cells, setAt]
theorem load4 {h : Heap} {i : Nat} {e : TypeId} {a b c d : Value} (hg : h[i]? = some (.arr e [a, b, c, d])) : iLoad true 4 h (pt i 0) = some (.agg #[a, b, c, d]) := by
  simp [iLoad, objCells, hg, iPart]
theorem load4a {h : Heap} {i : Nat} {e : TypeId} {a b c d : Value} (hg : h[i]? = some (.arr e [a, b, c, d])) : iLoad true 2 h (pt i 0) = some (.agg #[a, b]) := by
  simp [iLoad, objCells, hg, iPart]
theorem load4b {h : Heap} {i : Nat} {e : TypeId} {a b c d : Value} (hg : h[i]? = some (.arr e [a, b, c, d])) : iLoad true 2 h (pt i 2) = some (.agg #[c, d]) := by
  simp [iLoad, objCells, hg, iPart]

theorem fin4 {h' : Heap} {j : Nat} {e : TypeId} {b0 v0 c0 w0 a b c d : Value} {K : Value → Heap → Prop} (hg : h'[j]? = some (.arr e [b0, v0, c0, w0])) (hk : K (.agg #[a, b, c, d]) (h'.set j (.arr e [a, b, c, d]))) :
    OH (oStore 4 h' (pt j 0) (.agg #[a, b, c, d])) fun _ h6 => OP (iLoad true 4 h6 (pt j 0)) fun r0 => K r0 h6 := by
  rw [store4 hg]
  simp only [OH_some]
  rw [load4 (set_get hg)]
  exact OP_some.2 hk

theorem build4 {b c : Bool} {e e' : TypeId} {k k' : IntKind} {h h' : Heap} {v w : Value} {xs ys : List Nat} (d : DS e k h v xs) (d' : DS e' k' h' w ys) :
    iBuild [(.bool false), (.slice none 0 0), (.bool false), (.slice none 0 0)] [(0, 2, .agg #[B b, v]), (2, 2, .agg #[B c, w])] = some (.agg #[B b, v, B c, w]) := by
  rcases d with ⟨rfl, _⟩ | ⟨i, rfl, _⟩ <;> rcases d' with ⟨rfl, _⟩ | ⟨i', rfl, _⟩ <;> rfl

abbrev z4 : List Value := [(.bool false), (.slice none 0 0), (.bool false), (.slice none 0 0)]

/-- Two integers put together, and the place that they go to. -/
theorem endQ {h h' : Heap} {j : Nat} {va vb : Value} {a b : Int} {K : Value → Heap → Prop} (ha : ZV h' va a) (hb : ZV h' vb b) (x : EX h h') (hj : h.length ≤ j) (hg : h'[j]? = some (.arr 38 z4)) (hk : ∀ r h', EX h h' → QZ h' r a b → K r h') :
    OP (iBuild [(.bool false), (.slice none 0 0), (.bool false), (.slice none 0 0)] [(0, 2, va), (2, 2, vb)]) fun x15 => OH (oStore 4 h' (pt j 0) x15) fun _ h6 => OP (iLoad true 4 h6 (pt j 0)) fun r0 => K r0 h6 := by
  obtain ⟨u, rfl, hu⟩ := ha
  obtain ⟨w, rfl, hw⟩ := hb
  obtain ⟨xs, dx, cx⟩ := id hu
  obtain ⟨ys, dy, cy⟩ := id hw
  rw [build4 dx dy]
  exact OP_some.2 (fin4 hg (hk _ _ (x.set hj _) ⟨u, w, rfl, hu.setB hg _, hw.setB hg _⟩))

structure Box4 (h : Heap) (a b c d a' b' c' d' : Value) (h3 : Heap) : Prop where
  ex : EX h h3
  a0 : iLoad true 2 h3 (pt h.length 0) = some (.agg #[a, b])
  a2 : iLoad true 2 h3 (pt h.length 2) = some (.agg #[c, d])
  b0 : iLoad true 2 h3 (pt (h.length + 1) 0) = some (.agg #[a', b'])
  b2 : iLoad true 2 h3 (pt (h.length + 1) 2) = some (.agg #[c', d'])
  a4 : iLoad true 4 h3 (pt h.length 0) = some (.agg #[a, b, c, d])
  b4 : iLoad true 4 h3 (pt (h.length + 1) 0) = some (.agg #[a', b', c', d'])
  out : h3[h.length + 2]? = some (.arr 38 z4)

end Go.Proofs.YthplaillblmgfaaGreatDoor


namespace Go.Proofs.YthplaillblmgfaaGreatDoor
open Go.Sim

/-- What the digits of a text are together, the greatest first. -/
def valB (s : List UInt8) : Nat := s.foldl (fun d c => 10 * d + (c.toNat - 48)) 0

theorem valB_fold : ∀ (s : List UInt8) (a : Nat), s.foldl (fun d c => 10 * d + (c.toNat - 48)) a = a * 10 ^ s.length + valB s
  | [], a => by simp [valB]
  | c :: s, a => by
    have h1 := valB_fold s (10 * a + (c.toNat - 48))
    have h2 := valB_fold s (10 * 0 + (c.toNat - 48))
    have e : valB (c :: s) = s.foldl (fun d c => 10 * d + (c.toNat - 48)) (10 * 0 + (c.toNat - 48)) := rfl
    rw [e, h2, List.foldl_cons, h1, List.length_cons, Nat.pow_succ]
    generalize 10 ^ s.length = P
    generalize c.toNat - 48 = d
    generalize valB s = w
    grind

theorem valB_append (s t : List UInt8) : valB (s ++ t) = valB s * 10 ^ t.length + valB t := by
  show (s ++ t).foldl _ 0 = _
  rw [List.foldl_append, valB_fold]
  rfl

theorem valB_one (c : UInt8) : valB [c] = c.toNat - 48 := by simp [valB]

def digs (s : List UInt8) : Prop := ∀ c ∈ s, 48 ≤ c.toNat ∧ c.toNat ≤ 57

theorem valB_cons (c : UInt8) (s : List UInt8) : valB (c :: s) = (c.toNat - 48) * 10 ^ s.length + valB s := by
  have := valB_append [c] s
  rw [valB_one] at this
  exact this

end Go.Proofs.YthplaillblmgfaaGreatDoor


namespace Go.Proofs.YthplaillblmgfaaGreatDoor
open Go.Sim

theorem valB_rev : ∀ {ds : List Nat}, Lim 10 ds → valB ((ds.map dch).reverse) = val 10 ds
  | [], _ => rfl
  | d :: ds, h => by
    have h1 := valB_rev (ds := ds) fun y hy => h y (by simp [hy])
    have h2 := h d (by simp)
    rw [List.map_cons, List.reverse_cons, valB_append, valB_one, h1, dch_toNat h2]
    simp only [val, List.length_singleton, Nat.pow_one]
    omega

theorem decS_facts {n : Nat} (hn : n < bigW) : digs (decS n) ∧ 0 < (decS n).length ∧ (decS n).length ≤ 1000 ∧ ((decS n).head? = some 48 → (decS n).length = 1) ∧ valB (decS n) = n := by
  obtain ⟨hc, hv⟩ := dig10_canon n
  by_cases h0 : n = 0
  · subst h0
    have : decS 0 = [48] := rfl
    rw [this]
    exact ⟨fun c hc => by simp at hc; subst hc; decide, by simp, by simp, by simp, rfl⟩
  · have e : decS n = ((dig10 n).map dch).reverse := by unfold decS; rw [if_neg h0]
    have hne : dig10 n ≠ [] := by
      intro h
      rw [h] at hv
      exact h0 hv.symm
    rw [e]
    refine ⟨?_, ?_, ?_, ?_, ?_⟩
    · intro c hc'
      simp only [List.mem_reverse, List.mem_map] at hc'
      obtain ⟨d, hd, rfl⟩ := hc'
      rw [dch_toNat (hc.1 d hd)]
      have := hc.1 d hd
      omega
    · simp only [List.length_reverse, List.length_map]
      exact List.length_pos_iff.2 hne
    · simp only [List.length_reverse, List.length_map]
      show _ ≤ k1000
      refine hc.len (by decide) ?_
      rw [hv]
      exact Nat.lt_of_lt_of_le hn bigW_10
    · intro h48
      exfalso
      rw [List.head?_reverse, List.getLast?_map] at h48
      cases hl : (dig10 n).getLast? with
      | none => rw [hl] at h48; simp at h48
      | some d =>
        rw [hl] at h48
        have hd : d < 10 := hc.1 d (List.mem_of_getLast? hl)
        have h3 : dch d = 48 := by simpa using h48
        have h4 := congrArg UInt8.toNat h3
        rw [dch_toNat hd] at h4
        have h5 : (48 : UInt8).toNat = 48 := rfl
        rw [h5] at h4
        have : d = 0 := by omega
        subst this
        exact hc.2 hl
    · rw [valB_rev hc.1, hv]

/-- An integer's text. -/
def numS (z : Int) : List UInt8 := if z < 0 then 45 :: decS z.natAbs else decS z.natAbs

end Go.Proofs.YthplaillblmgfaaGreatDoor


namespace Go.Proofs.YthplaillblmgfaaGreatDoor
open Go.Sim

/-- A fraction of the program. -/
def RatV (h : Heap) (val : Value) (a b : Int) : Prop := ∃ u w, val = .agg #[B (decide (a < 0)), u, B (decide (b < 0)), w] ∧ MagV h u a.natAbs ∧ MagV h w b.natAbs

theorem C49 {va : Value} {a : Int} {h : Heap} {K : Value → Heap → Prop} (ha : IntV h va a) (hk : ∀ r h', EX h h' → RatV h' r a 1 → K r h') : CallP Tryz.prog 49 [va] h K := by
  obtain ⟨v, rfl, hv⟩ := ha
  refine f49 ?_
  have e1 : iBox 81 h (.agg #[B (decide (a < 0)), v]) = some (pt h.length 0, h ++ [.arr 81 [B (decide (a < 0)), v]]) := rfl
  have e2 : ∀ g : Heap, iAlloc 86 [(.bool false), (.slice none 0 0), (.bool false), (.slice none 0 0)] g = some (pt g.length 0, g ++ [.arr 86 z4]) := fun _ => rfl
  simp only [T49, e1, e2, OH_some, List.length_append, List.length_cons, List.length_nil]
  have g0 : (h ++ [IObj.arr 81 [B (decide (a < 0)), v]] ++ [IObj.arr 86 z4])[h.length]? = some (.arr 81 [B (decide (a < 0)), v]) := by simp
  have g1 : (h ++ [IObj.arr 81 [B (decide (a < 0)), v]] ++ [IObj.arr 86 z4])[h.length + 1]? = some (.arr 86 z4) := by simp
  have x1 : EX h (h ++ [IObj.arr 81 [B (decide (a < 0)), v]] ++ [IObj.arr 86 z4]) := (EX.append _ _).push _
  generalize h ++ [IObj.arr 81 [B (decide (a < 0)), v]] ++ [IObj.arr 86 z4] = h1 at g0 g1 x1 ⊢
  rw [load2 g0]
  simp only [OP_some, true_and]
  refine C46 (by decide) (by decide) ?_
  intro r2 h2 x2 i2
  obtain ⟨w, rfl, hw⟩ := id i2
  refine ⟨⟨EX.load x2 (load2 g0), trivial⟩, ?_⟩
  have hv2 := (hv.mono x1).mono x2
  obtain ⟨xs, dx, cx⟩ := id hv2
  obtain ⟨ys, dy, cy⟩ := id hw
  rw [build4 dx dy]
  simp only [OP_some, true_and, Nat.zero_add]
  have g2 := x2.get g1
  exact fin4 g2 (hk _ _ ((x1.trans x2).set (by omega) _) ⟨v, w, rfl, hv2.setB g2 _, hw.setB g2 _⟩)

theorem C89 {u w : Value} {s : Bool} {h : Heap} {K : Value → Heap → Prop} (hw : MagV h w 1) (hk : ∀ h', EX h h' → K (B true) h') : CallP Tryz.prog 89 [.agg #[B s, u, B false, w]] h K := by
  refine f89 ?_
  have e1 : iBox 86 h (.agg #[B s, u, B false, w]) = some (pt h.length 0, h ++ [.arr 86 [B s, u, B false, w]]) := rfl
  simp only [T89, e1, OH_some]
  have x1 : EX h (h ++ [IObj.arr 86 [B s, u, B false, w]]) := EX.append _ _
  have l3 : iLoad false 1 (h ++ [IObj.arr 86 [B s, u, B false, w]]) (pt h.length 3) = some w := load_last rfl
  obtain ⟨xs, dx, cx, vx⟩ := hw.mono x1
  have hx1 : xs = [1] := Canon.unique (by decide) cx ⟨fun y hy => by simp at hy; subst hy; decide, by simp⟩ (by rw [vx]; rfl)
  subst hx1
  obtain ⟨i, g1, g2⟩ := dx.get (j := 0) (by simp)
  have g1' : iAdrSl 1 w (I 0) = some (pt i 0) := g1
  simp only [fadr_pt, Nat.zero_add, Nat.add_zero, OP_some, l3, dx.len, List.length_singleton, bin_eql, q89z4]
  rw [decide_eq_true (show ((1 : Nat) : Int) = 1 by rfl)]
  simp only [GdP_tt, l3, OP_some, g1', g2, bin_eql, q89z6, iPick_t]
  exact hk _ x1

theorem C50 {va : Value} {a : Int} {h : Heap} {K : Value → Heap → Prop} (ha : RatV h va a 1) (la : a.natAbs < bigW) (hk : ∀ h', EX h h' → K (.tuple #[S (numS a), I 0]) h') : CallP Tryz.prog 50 [va] h K := by
  obtain ⟨u, w, rfl, hu, hw⟩ := ha
  refine f50 ?_
  have e1 : iBox 86 h (.agg #[B (decide (a < 0)), u, B (decide ((1 : Int) < 0)), w]) = some (pt h.length 0, h ++ [.arr 86 [B (decide (a < 0)), u, B (decide ((1 : Int) < 0)), w]]) := rfl
  simp only [T50, e1, OH_some]
  have x1 : EX h (h ++ [IObj.arr 86 [B (decide (a < 0)), u, B (decide ((1 : Int) < 0)), w]]) := EX.append _ _
  have l1 : iLoad false 1 (h ++ [IObj.arr 86 [B (decide (a < 0)), u, B (decide ((1 : Int) < 0)), w]]) (pt h.length 1) = some u := load_last rfl
  have l0 : iLoad false 1 (h ++ [IObj.arr 86 [B (decide (a < 0)), u, B (decide ((1 : Int) < 0)), w]]) (pt h.length 0) = some (B (decide (a < 0))) := load_last rfl
  have g0 : (h ++ [IObj.arr 86 [B (decide (a < 0)), u, B (decide ((1 : Int) < 0)), w]])[h.length]? = some (.arr 86 [B (decide (a < 0)), u, B (decide ((1 : Int) < 0)), w]) := get_last
  generalize h ++ [IObj.arr 86 [B (decide (a < 0)), u, B (decide ((1 : Int) < 0)), w]] = h1 at x1 l1 l0 g0 ⊢
  obtain ⟨d1, d2, d3, d4, d5⟩ := decS_facts la
  simp only [fadr_pt, Nat.zero_add, Nat.add_zero, OP_some, l1]
  refine C88 (hu.mono x1) la ?_
  intro h2 x2
  simp only [lenS_S, OP_some, bin_gtr, decide_eq_false (show ¬ ((decS a.natAbs).length : Int) > 4000 by omega), IfP_false, EX.load x2 l0]
  have last : p50z8 Tryz.prog K (pt h.length 0) (S (numS a)) h2 := by
    rw [q50z8, load4 (x2.get g0)]
    simp only [OP_some]
    refine C89 ((hw.mono x1).mono x2) ?_
    intro h3 x3
    simp only [IfP_true]
    exact hk _ ((x1.trans x2).trans x3)
  by_cases hneg : a < 0
  · rw [decide_eq_true hneg]
    have : numS a = 45 :: decS a.natAbs := by unfold numS; rw [if_pos hneg]
    have ad : iBin .add (.string ⟨#[45]⟩) (S (decS a.natAbs)) = some (S (numS a)) := by
      rw [this]
      exact bin_addS (a := [45]) (b := decS a.natAbs) (by simp [maxLen]; omega)
    simp only [IfP_true, ad, OP_some]
    exact last
  · rw [decide_eq_false hneg]
    have : numS a = decS a.natAbs := by unfold numS; rw [if_neg hneg]
    rw [this] at last
    simp only [IfP_false]
    exact last

end Go.Proofs.YthplaillblmgfaaGreatDoor


namespace Go.Proofs.YthplaillblmgfaaGreatDoor
open Go.Sim
variable (P : Program) (K : VK)
/-! F4: pommel/pommellaw08.MarkReads -/
noncomputable def c4z27 : ICode := .ops none [⟨some 61, .p (.pick (.tmp 59) (.tmp 60) (.const (.bool false)))⟩,gm 4 61]
noncomputable def c4z25 : ICode := .seq (.ops (some (59, true)) [⟨some 60, .call 15 []⟩])
 (.cut [59, 60] c4z27)
noncomputable def c4z23 : ICode := .seq (.ops none [⟨some 58, .p (.pick (.tmp 54) (.tmp 57) (.const (.bool false)))⟩,gm 59 58])
 (.cut [59] c4z25)
noncomputable def c4z21 : ICode := .seq (.ops (some (54, true)) [gm 55 10,gm 56 11,⟨some 57, .p (.bin .eql (.tmp 55) (.tmp 56))⟩])
 (.cut [54, 57] c4z23)
noncomputable def c4z19 : ICode := .seq (.ops none [⟨some 53, .p (.pick (.tmp 49) (.tmp 52) (.const (.bool false)))⟩,gm 54 53])
 (.cut [10, 11, 54] c4z21)
noncomputable def c4z17 : ICode := .seq (.ops (some (49, true)) [gm 50 9,⟨some 51, .p (.lenSl (.tmp 50))⟩,⟨some 52, .p (.bin .eql (.tmp 51) (ci (0)))⟩])
 (.cut [10, 11, 49, 52] c4z19)
noncomputable def c4z15 : ICode := .seq (.ops none [⟨some 48, .p (.pick (.tmp 44) (.tmp 47) (.const (.bool false)))⟩,gm 49 48])
 (.cut [9, 10, 11, 49] c4z17)
noncomputable def c4z13 : ICode := .seq (.ops (some (44, true)) [gm 45 8,gm 46 11,⟨some 47, .p (.bin .eql (.tmp 45) (.tmp 46))⟩])
 (.cut [9, 10, 11, 44, 47] c4z15)
noncomputable def c4z11 : ICode := .ret
noncomputable def c4z9 : ICode := .seq (.ops none [gm 62 5,gm 63 6,⟨some 64, .call 19 [(.tmp 62), (.tmp 63)]⟩,gm 12 64])
 (.seq (.ops none [gm 66 5,gm 67 6,⟨some 68, .call 20 [(.tmp 66), (.tmp 67)]⟩,gm 65 68,⟨some 69, .p (.ext (.tmp 65) 0)⟩,⟨some 70, .p (.ext (.tmp 65) 1)⟩,gm 13 69,gm 14 70])
 (.seq (.dops [(none, [gd 71 7 0,gd 72 12 0,gd 73 6 0,⟨some 74, .p (.lenS (.tmp 73)), 4⟩,⟨some 75, .p (.adrSl 2 (.tmp 72) (.tmp 74)), 14⟩,⟨some 76, .l (.load true 2 (.tmp 75)), 30⟩,⟨some 77, .call 22 [(ci (1))], 0⟩,⟨some 78, .p (.build [(.bool false), (.slice none 0 0), (.bool false), (.slice none 0 0)] [(0, 2, (.tmp 76)), (2, 2, (.tmp 77))]), 126⟩,⟨some 79, .call 21 [(.tmp 71), (.tmp 78)], 255⟩,gd 80 79 511]),
 ((some (80, true)), [gd 81 8 1023,⟨some 82, .p (.bin .eql (.tmp 81) (ci (0))), 2047⟩]),
 (none, [⟨some 83, .p (.pick (.tmp 80) (.tmp 82) (.const (.bool false))), 4095⟩,gd 84 83 8191]),
 ((some (84, true)), [gd 85 9 16383,gd 86 13 16383,⟨some 87, .call 23 [(.tmp 85), (.tmp 86)], 65535⟩]),
 (none, [⟨some 88, .p (.pick (.tmp 84) (.tmp 87) (.const (.bool false))), 131071⟩,gd 89 88 262143]),
 ((some (89, true)), [gd 90 10 524287,⟨some 91, .p (.bin .eql (.tmp 90) (ci (0))), 1048575⟩,gd 92 14 524287,⟨some 93, .p (.eqb false (.tmp 91) (.tmp 92)), 4194303⟩]),
 (none, [⟨some 94, .p (.pick (.tmp 89) (.tmp 93) (.const (.bool false))), 8388607⟩,gd 95 94 16777215]),
 ((some (95, true)), [gd 96 14 33554431,gd 97 96 67108863]),
 ((some (97, false)), [gd 98 10 134217727,⟨some 99, .p (.bin .eql (.tmp 98) (ci (5))), 268435455⟩]),
 ((some (95, true)), [⟨some 100, .p (.pick (.tmp 97) (.const (.bool true)) (.tmp 99)), 536870911⟩]),
 (none, [⟨some 101, .p (.pick (.tmp 95) (.tmp 100) (.const (.bool false))), 1073741823⟩,gd 102 101 2147483647]),
 ((some (102, true)), [⟨some 103, .call 15 [], 4294967295⟩]),
 (none, [⟨some 104, .p (.pick (.tmp 102) (.tmp 103) (.const (.bool false))), 8589934591⟩,gd 4 104 17179869183])])
 (.ret)))
noncomputable def c4z8 : ICode := .seq (.seq (.ops none [gm 40 11,⟨some 41, .p (.bin .neq (.tmp 40) (ci (0)))⟩])
 (.cond (.tmp 41) (.seq (.seq (.ops none [gm 42 7,⟨some 43, .p (.bin .eql (.tmp 42) (.const (.string ⟨#[]⟩)))⟩,gm 44 43])
 (.cut [8, 9, 10, 11, 44] c4z13)) c4z11)
 (.skip))) c4z9
noncomputable def c4 : ICode := .seq (.ops none [⟨some 4, .p (.mv (.const (.bool false)))⟩])
 (.seq (.dops [(none, [gd 15 0 0,⟨some 16, .call 16 [(.tmp 15)], 1⟩,gd 17 1 0,gd 18 1 0,⟨some 19, .p (.lenS (.tmp 18)), 8⟩,⟨some 20, .p (.minmax false [(.tmp 19), (ci (201))]), 24⟩,⟨some 21, .p (.slS (.tmp 17) none (some (.tmp 20))), 60⟩,gd 5 16 3,gd 6 21 255])])
 (.seq (.ops none [gm 23 5,gm 24 6,⟨some 25, .call 10 [(.tmp 23), (.tmp 24)]⟩,gm 22 25,⟨some 26, .p (.ext (.tmp 22) 0)⟩,⟨some 27, .p (.ext (.tmp 22) 1)⟩,gm 7 26,gm 8 27])
 (.seq (.ops none [gm 29 5,gm 30 6,⟨some 31, .call 17 [(.tmp 29), (.tmp 30)]⟩,gm 28 31,⟨some 32, .p (.ext (.tmp 28) 0)⟩,⟨some 33, .p (.ext (.tmp 28) 1)⟩,gm 9 32,gm 10 33])
 (.seq (.ops none [gm 34 5,gm 35 6,⟨some 36, .call 18 [(.tmp 34), (.tmp 35)]⟩,gm 11 36])
 (.seq (.seq (.ops none [gm 37 5,⟨some 38, .p (.lenSl (.tmp 37))⟩,⟨some 39, .p (.bin .gtr (.tmp 38) (ci (12)))⟩])
 (.cond (.tmp 39) (.ops none [⟨some 11, .p (.mv (ci (3)))⟩])
 (.skip)))
 (.cut [5, 6, 7, 8, 9, 10, 11] c4z8))))))
theorem k4 : compFn Tryz.prog 4 [[], [], [], [], [], [], [5, 6, 7, 8, 9, 10, 11], [], [8, 9, 10, 11, 44], [9, 10, 11, 44, 47], [9, 10, 11, 49], [10, 11, 49, 52], [10, 11, 54], [54, 57], [59], [59, 60], [], [], [], [], []] = some (105, c4, [.tmp 4]) := by kernel_rfl
def K4z0 (_P : Program) (K : VK) : Kont := bodyP [.tmp 4] K
def K4z9 : Kont := thenK (iwpP P c4z9 (K4z0 P K)) (K4z0 P K)
def K4z11 : Kont := thenK (iwpP P c4z11 (K4z9 P K)) (K4z9 P K)
def p4z8 (l5 s6 n7 e8 r9 f10 bad11 : Value) (h : Heap) : Prop := CutP (iwpP P c4z8 (K4z0 P K)) [5, 6, 7, 8, 9, 10, 11] [l5, s6, n7, e8, r9, f10, bad11] h
def p4z13 (e8 r9 f10 bad11 x44 : Value) (h : Heap) : Prop := CutP (iwpP P c4z13 (K4z11 P K)) [8, 9, 10, 11, 44] [e8, r9, f10, bad11, x44] h
def p4z15 (r9 f10 bad11 x44 x47 : Value) (h : Heap) : Prop := CutP (iwpP P c4z15 (K4z11 P K)) [9, 10, 11, 44, 47] [r9, f10, bad11, x44, x47] h
def p4z17 (r9 f10 bad11 x49 : Value) (h : Heap) : Prop := CutP (iwpP P c4z17 (K4z11 P K)) [9, 10, 11, 49] [r9, f10, bad11, x49] h
def p4z19 (f10 bad11 x49 x52 : Value) (h : Heap) : Prop := CutP (iwpP P c4z19 (K4z11 P K)) [10, 11, 49, 52] [f10, bad11, x49, x52] h
def p4z21 (f10 bad11 x54 : Value) (h : Heap) : Prop := CutP (iwpP P c4z21 (K4z11 P K)) [10, 11, 54] [f10, bad11, x54] h
def p4z23 (x54 x57 : Value) (h : Heap) : Prop := CutP (iwpP P c4z23 (K4z11 P K)) [54, 57] [x54, x57] h
def p4z25 (x59 : Value) (h : Heap) : Prop := CutP (iwpP P c4z25 (K4z11 P K)) [59] [x59] h
def p4z27 (x59 x60 : Value) (h : Heap) : Prop := CutP (iwpP P c4z27 (K4z11 P K)) [59, 60] [x59, x60] h
theorem q4z27 (x59 x60 : Value) (h : Heap) : p4z27 P K x59 x60 h =
 (OP (iPick x59 x60 (.bool false)) fun x61 =>
 K x61 h) := (CutP_def _ _ _ _).trans (by kernel_rfl)
theorem q4z25 (x59 : Value) (h : Heap) : p4z25 P K x59 h =
 (GdP x59 true
 (CallP P 15 [] h fun x60 h_1 =>
 p4z27 P K x59 x60 h_1)
 (p4z27 P K x59 undef h)) := (CutP_def _ _ _ _).trans (by kernel_rfl)
theorem q4z23 (x54 x57 : Value) (h : Heap) : p4z23 P K x54 x57 h =
 (OP (iPick x54 x57 (.bool false)) fun x58 =>
 p4z25 P K x58 h) := (CutP_def _ _ _ _).trans (by kernel_rfl)
theorem q4z21 (f10 bad11 x54 : Value) (h : Heap) : p4z21 P K f10 bad11 x54 h =
 (GdP x54 true
 (OP (iBin .eql f10 bad11) fun x57 =>
 p4z23 P K x54 x57 h)
 (p4z23 P K x54 undef h)) := (CutP_def _ _ _ _).trans (by kernel_rfl)
theorem q4z19 (f10 bad11 x49 x52 : Value) (h : Heap) : p4z19 P K f10 bad11 x49 x52 h =
 (OP (iPick x49 x52 (.bool false)) fun x53 =>
 p4z21 P K f10 bad11 x53 h) := (CutP_def _ _ _ _).trans (by kernel_rfl)
theorem q4z17 (r9 f10 bad11 x49 : Value) (h : Heap) : p4z17 P K r9 f10 bad11 x49 h =
 (GdP x49 true
 (OP (iLenSl r9) fun x51 =>
 OP (iBin .eql x51 (.int .i64 (0))) fun x52 =>
 p4z19 P K f10 bad11 x49 x52 h)
 (p4z19 P K f10 bad11 x49 undef h)) := (CutP_def _ _ _ _).trans (by kernel_rfl)
theorem q4z15 (r9 f10 bad11 x44 x47 : Value) (h : Heap) : p4z15 P K r9 f10 bad11 x44 x47 h =
 (OP (iPick x44 x47 (.bool false)) fun x48 =>
 p4z17 P K r9 f10 bad11 x48 h) := (CutP_def _ _ _ _).trans (by kernel_rfl)
theorem q4z13 (e8 r9 f10 bad11 x44 : Value) (h : Heap) : p4z13 P K e8 r9 f10 bad11 x44 h =
 (GdP x44 true
 (OP (iBin .eql e8 bad11) fun x47 =>
 p4z15 P K r9 f10 bad11 x44 x47 h)
 (p4z15 P K r9 f10 bad11 x44 undef h)) := (CutP_def _ _ _ _).trans (by kernel_rfl)
theorem q4z8 (l5 s6 n7 e8 r9 f10 bad11 : Value) (h : Heap) : p4z8 P K l5 s6 n7 e8 r9 f10 bad11 h =
 (OP (iBin .neq bad11 (.int .i64 (0))) fun x41 =>
 IfP x41
 (OP (iBin .eql n7 (.string ⟨#[]⟩)) fun x43 =>
 p4z13 P K e8 r9 f10 bad11 x43 h)
 (CallP P 19 [l5, s6] h fun x64 h_1 =>
 CallP P 20 [l5, s6] h_1 fun x68 h_2 =>
 OP (iExt 0 x68) fun x69 =>
 OP (iExt 1 x68) fun x70 =>
 OP (iLenS s6) fun x74 =>
 OP (iAdrSl 2 x64 x74) fun x75 =>
 OP (iLoad true 2 h_2 x75) fun x76 =>
 (True) ∧
 CallP P 22 [(.int .i64 (1))] h_2 fun x77 h_3 =>
 (iLoad true 2 h_3 x75 = some x76 ∧ True) ∧
 OP (iBuild [(.bool false), (.slice none 0 0), (.bool false), (.slice none 0 0)] [(0, 2, x76), (2, 2, x77)]) fun x78 =>
 CallP P 21 [n7, x78] h_3 fun x79 h_4 =>
 (True) ∧
 GdP x79 true
 (OP (iBin .eql e8 (.int .i64 (0))) fun x82 =>
 OP (iPick x79 x82 (.bool false)) fun x83 =>
 GdP x83 true
 (CallP P 23 [r9, x69] h_4 fun x87 h_5 =>
 (True) ∧
 OP (iPick x83 x87 (.bool false)) fun x88 =>
 GdP x88 true
 (OP (iBin .eql f10 (.int .i64 (0))) fun x91 =>
 OP (iEqb false x91 x70) fun x93 =>
 OP (iPick x88 x93 (.bool false)) fun x94 =>
 GdP x94 true
 (GdP x70 false
 (OP (iBin .eql f10 (.int .i64 (5))) fun x99 =>
 GdP x94 true
 (OP (iPick x70 (.bool true) x99) fun x100 =>
 OP (iPick x94 x100 (.bool false)) fun x101 =>
 GdP x101 true
 (CallP P 15 [] h_5 fun x103 h_6 =>
 (True) ∧
 OP (iPick x101 x103 (.bool false)) fun x104 =>
 K x104 h_6)
 ((True) ∧
 OP (iPick x101 undef (.bool false)) fun x104 =>
 K x104 h_5))
 (OP (iPick x94 undef (.bool false)) fun x101 =>
 GdP x101 true
 (CallP P 15 [] h_5 fun x103 h_6 =>
 (True) ∧
 OP (iPick x101 x103 (.bool false)) fun x104 =>
 K x104 h_6)
 ((True) ∧
 OP (iPick x101 undef (.bool false)) fun x104 =>
 K x104 h_5)))
 (GdP x94 true
 (OP (iPick x70 (.bool true) undef) fun x100 =>
 OP (iPick x94 x100 (.bool false)) fun x101 =>
 GdP x101 true
 (CallP P 15 [] h_5 fun x103 h_6 =>
 (True) ∧
 OP (iPick x101 x103 (.bool false)) fun x104 =>
 K x104 h_6)
 ((True) ∧
 OP (iPick x101 undef (.bool false)) fun x104 =>
 K x104 h_5))
 (OP (iPick x94 undef (.bool false)) fun x101 =>
 GdP x101 true
 (CallP P 15 [] h_5 fun x103 h_6 =>
 (True) ∧
 OP (iPick x101 x103 (.bool false)) fun x104 =>
 K x104 h_6)
 ((True) ∧
 OP (iPick x101 undef (.bool false)) fun x104 =>
 K x104 h_5))))
 (GdP undef false
 (OP (iBin .eql f10 (.int .i64 (5))) fun x99 =>
 GdP x94 true
 (OP (iPick undef (.bool true) x99) fun x100 =>
 OP (iPick x94 x100 (.bool false)) fun x101 =>
 GdP x101 true
 (CallP P 15 [] h_5 fun x103 h_6 =>
 (True) ∧
 OP (iPick x101 x103 (.bool false)) fun x104 =>
 K x104 h_6)
 ((True) ∧
 OP (iPick x101 undef (.bool false)) fun x104 =>
 K x104 h_5))
 (OP (iPick x94 undef (.bool false)) fun x101 =>
 GdP x101 true
 (CallP P 15 [] h_5 fun x103 h_6 =>
 (True) ∧
 OP (iPick x101 x103 (.bool false)) fun x104 =>
 K x104 h_6)
 ((True) ∧
 OP (iPick x101 undef (.bool false)) fun x104 =>
 K x104 h_5)))
 (GdP x94 true
 (OP (iPick undef (.bool true) undef) fun x100 =>
 OP (iPick x94 x100 (.bool false)) fun x101 =>
 GdP x101 true
 (CallP P 15 [] h_5 fun x103 h_6 =>
 (True) ∧
 OP (iPick x101 x103 (.bool false)) fun x104 =>
 K x104 h_6)
 ((True) ∧
 OP (iPick x101 undef (.bool false)) fun x104 =>
 K x104 h_5))
 (OP (iPick x94 undef (.bool false)) fun x101 =>
 GdP x101 true
 (CallP P 15 [] h_5 fun x103 h_6 =>
 (True) ∧
 OP (iPick x101 x103 (.bool false)) fun x104 =>
 K x104 h_6)
 ((True) ∧
 OP (iPick x101 undef (.bool false)) fun x104 =>
 K x104 h_5)))))
 (OP (iPick x88 undef (.bool false)) fun x94 =>
 GdP x94 true
 (GdP x70 false
 (OP (iBin .eql f10 (.int .i64 (5))) fun x99 =>
 GdP x94 true
 (OP (iPick x70 (.bool true) x99) fun x100 =>
 OP (iPick x94 x100 (.bool false)) fun x101 =>
 GdP x101 true
 (CallP P 15 [] h_5 fun x103 h_6 =>
 (True) ∧
 OP (iPick x101 x103 (.bool false)) fun x104 =>
 K x104 h_6)
 ((True) ∧
 OP (iPick x101 undef (.bool false)) fun x104 =>
 K x104 h_5))
 (OP (iPick x94 undef (.bool false)) fun x101 =>
 GdP x101 true
 (CallP P 15 [] h_5 fun x103 h_6 =>
 (True) ∧
 OP (iPick x101 x103 (.bool false)) fun x104 =>
 K x104 h_6)
 ((True) ∧
 OP (iPick x101 undef (.bool false)) fun x104 =>
 K x104 h_5)))
 (GdP x94 true
 (OP (iPick x70 (.bool true) undef) fun x100 =>
 OP (iPick x94 x100 (.bool false)) fun x101 =>
 GdP x101 true
 (CallP P 15 [] h_5 fun x103 h_6 =>
 (True) ∧
 OP (iPick x101 x103 (.bool false)) fun x104 =>
 K x104 h_6)
 ((True) ∧
 OP (iPick x101 undef (.bool false)) fun x104 =>
 K x104 h_5))
 (OP (iPick x94 undef (.bool false)) fun x101 =>
 GdP x101 true
 (CallP P 15 [] h_5 fun x103 h_6 =>
 (True) ∧
 OP (iPick x101 x103 (.bool false)) fun x104 =>
 K x104 h_6)
 ((True) ∧
 OP (iPick x101 undef (.bool false)) fun x104 =>
 K x104 h_5))))
 (GdP undef false
 (OP (iBin .eql f10 (.int .i64 (5))) fun x99 =>
 GdP x94 true
 (OP (iPick undef (.bool true) x99) fun x100 =>
 OP (iPick x94 x100 (.bool false)) fun x101 =>
 GdP x101 true
 (CallP P 15 [] h_5 fun x103 h_6 =>
 (True) ∧
 OP (iPick x101 x103 (.bool false)) fun x104 =>
 K x104 h_6)
 ((True) ∧
 OP (iPick x101 undef (.bool false)) fun x104 =>
 K x104 h_5))
 (OP (iPick x94 undef (.bool false)) fun x101 =>
 GdP x101 true
 (CallP P 15 [] h_5 fun x103 h_6 =>
 (True) ∧
 OP (iPick x101 x103 (.bool false)) fun x104 =>
 K x104 h_6)
 ((True) ∧
 OP (iPick x101 undef (.bool false)) fun x104 =>
 K x104 h_5)))
 (GdP x94 true
 (OP (iPick undef (.bool true) undef) fun x100 =>
 OP (iPick x94 x100 (.bool false)) fun x101 =>
 GdP x101 true
 (CallP P 15 [] h_5 fun x103 h_6 =>
 (True) ∧
 OP (iPick x101 x103 (.bool false)) fun x104 =>
 K x104 h_6)
 ((True) ∧
 OP (iPick x101 undef (.bool false)) fun x104 =>
 K x104 h_5))
 (OP (iPick x94 undef (.bool false)) fun x101 =>
 GdP x101 true
 (CallP P 15 [] h_5 fun x103 h_6 =>
 (True) ∧
 OP (iPick x101 x103 (.bool false)) fun x104 =>
 K x104 h_6)
 ((True) ∧
 OP (iPick x101 undef (.bool false)) fun x104 =>
 K x104 h_5))))))
 ((True) ∧
 OP (iPick x83 undef (.bool false)) fun x88 =>
 GdP x88 true
 (OP (iBin .eql f10 (.int .i64 (0))) fun x91 =>
 OP (iEqb false x91 x70) fun x93 =>
 OP (iPick x88 x93 (.bool false)) fun x94 =>
 GdP x94 true
 (GdP x70 false
 (OP (iBin .eql f10 (.int .i64 (5))) fun x99 =>
 GdP x94 true
 (OP (iPick x70 (.bool true) x99) fun x100 =>
 OP (iPick x94 x100 (.bool false)) fun x101 =>
 GdP x101 true
 (CallP P 15 [] h_4 fun x103 h_5 =>
 (True) ∧
 OP (iPick x101 x103 (.bool false)) fun x104 =>
 K x104 h_5)
 ((True) ∧
 OP (iPick x101 undef (.bool false)) fun x104 =>
 K x104 h_4))
 (OP (iPick x94 undef (.bool false)) fun x101 =>
 GdP x101 true
 (CallP P 15 [] h_4 fun x103 h_5 =>
 (True) ∧
 OP (iPick x101 x103 (.bool false)) fun x104 =>
 K x104 h_5)
 ((True) ∧
 OP (iPick x101 undef (.bool false)) fun x104 =>
 K x104 h_4)))
 (GdP x94 true
 (OP (iPick x70 (.bool true) undef) fun x100 =>
 OP (iPick x94 x100 (.bool false)) fun x101 =>
 GdP x101 true
 (CallP P 15 [] h_4 fun x103 h_5 =>
 (True) ∧
 OP (iPick x101 x103 (.bool false)) fun x104 =>
 K x104 h_5)
 ((True) ∧
 OP (iPick x101 undef (.bool false)) fun x104 =>
 K x104 h_4))
 (OP (iPick x94 undef (.bool false)) fun x101 =>
 GdP x101 true
 (CallP P 15 [] h_4 fun x103 h_5 =>
 (True) ∧
 OP (iPick x101 x103 (.bool false)) fun x104 =>
 K x104 h_5)
 ((True) ∧
 OP (iPick x101 undef (.bool false)) fun x104 =>
 K x104 h_4))))
 (GdP undef false
 (OP (iBin .eql f10 (.int .i64 (5))) fun x99 =>
 GdP x94 true
 (OP (iPick undef (.bool true) x99) fun x100 =>
 OP (iPick x94 x100 (.bool false)) fun x101 =>
 GdP x101 true
 (CallP P 15 [] h_4 fun x103 h_5 =>
 (True) ∧
 OP (iPick x101 x103 (.bool false)) fun x104 =>
 K x104 h_5)
 ((True) ∧
 OP (iPick x101 undef (.bool false)) fun x104 =>
 K x104 h_4))
 (OP (iPick x94 undef (.bool false)) fun x101 =>
 GdP x101 true
 (CallP P 15 [] h_4 fun x103 h_5 =>
 (True) ∧
 OP (iPick x101 x103 (.bool false)) fun x104 =>
 K x104 h_5)
 ((True) ∧
 OP (iPick x101 undef (.bool false)) fun x104 =>
 K x104 h_4)))
 (GdP x94 true
 (OP (iPick undef (.bool true) undef) fun x100 =>
 OP (iPick x94 x100 (.bool false)) fun x101 =>
 GdP x101 true
 (CallP P 15 [] h_4 fun x103 h_5 =>
 (True) ∧
 OP (iPick x101 x103 (.bool false)) fun x104 =>
 K x104 h_5)
 ((True) ∧
 OP (iPick x101 undef (.bool false)) fun x104 =>
 K x104 h_4))
 (OP (iPick x94 undef (.bool false)) fun x101 =>
 GdP x101 true
 (CallP P 15 [] h_4 fun x103 h_5 =>
 (True) ∧
 OP (iPick x101 x103 (.bool false)) fun x104 =>
 K x104 h_5)
 ((True) ∧
 OP (iPick x101 undef (.bool false)) fun x104 =>
 K x104 h_4)))))
 (OP (iPick x88 undef (.bool false)) fun x94 =>
 GdP x94 true
 (GdP x70 false
 (OP (iBin .eql f10 (.int .i64 (5))) fun x99 =>
 GdP x94 true
 (OP (iPick x70 (.bool true) x99) fun x100 =>
 OP (iPick x94 x100 (.bool false)) fun x101 =>
 GdP x101 true
 (CallP P 15 [] h_4 fun x103 h_5 =>
 (True) ∧
 OP (iPick x101 x103 (.bool false)) fun x104 =>
 K x104 h_5)
 ((True) ∧
 OP (iPick x101 undef (.bool false)) fun x104 =>
 K x104 h_4))
 (OP (iPick x94 undef (.bool false)) fun x101 =>
 GdP x101 true
 (CallP P 15 [] h_4 fun x103 h_5 =>
 (True) ∧
 OP (iPick x101 x103 (.bool false)) fun x104 =>
 K x104 h_5)
 ((True) ∧
 OP (iPick x101 undef (.bool false)) fun x104 =>
 K x104 h_4)))
 (GdP x94 true
 (OP (iPick x70 (.bool true) undef) fun x100 =>
 OP (iPick x94 x100 (.bool false)) fun x101 =>
 GdP x101 true
 (CallP P 15 [] h_4 fun x103 h_5 =>
 (True) ∧
 OP (iPick x101 x103 (.bool false)) fun x104 =>
 K x104 h_5)
 ((True) ∧
 OP (iPick x101 undef (.bool false)) fun x104 =>
 K x104 h_4))
 (OP (iPick x94 undef (.bool false)) fun x101 =>
 GdP x101 true
 (CallP P 15 [] h_4 fun x103 h_5 =>
 (True) ∧
 OP (iPick x101 x103 (.bool false)) fun x104 =>
 K x104 h_5)
 ((True) ∧
 OP (iPick x101 undef (.bool false)) fun x104 =>
 K x104 h_4))))
 (GdP undef false
 (OP (iBin .eql f10 (.int .i64 (5))) fun x99 =>
 GdP x94 true
 (OP (iPick undef (.bool true) x99) fun x100 =>
 OP (iPick x94 x100 (.bool false)) fun x101 =>
 GdP x101 true
 (CallP P 15 [] h_4 fun x103 h_5 =>
 (True) ∧
 OP (iPick x101 x103 (.bool false)) fun x104 =>
 K x104 h_5)
 ((True) ∧
 OP (iPick x101 undef (.bool false)) fun x104 =>
 K x104 h_4))
 (OP (iPick x94 undef (.bool false)) fun x101 =>
 GdP x101 true
 (CallP P 15 [] h_4 fun x103 h_5 =>
 (True) ∧
 OP (iPick x101 x103 (.bool false)) fun x104 =>
 K x104 h_5)
 ((True) ∧
 OP (iPick x101 undef (.bool false)) fun x104 =>
 K x104 h_4)))
 (GdP x94 true
 (OP (iPick undef (.bool true) undef) fun x100 =>
 OP (iPick x94 x100 (.bool false)) fun x101 =>
 GdP x101 true
 (CallP P 15 [] h_4 fun x103 h_5 =>
 (True) ∧
 OP (iPick x101 x103 (.bool false)) fun x104 =>
 K x104 h_5)
 ((True) ∧
 OP (iPick x101 undef (.bool false)) fun x104 =>
 K x104 h_4))
 (OP (iPick x94 undef (.bool false)) fun x101 =>
 GdP x101 true
 (CallP P 15 [] h_4 fun x103 h_5 =>
 (True) ∧
 OP (iPick x101 x103 (.bool false)) fun x104 =>
 K x104 h_5)
 ((True) ∧
 OP (iPick x101 undef (.bool false)) fun x104 =>
 K x104 h_4)))))))
 (OP (iPick x79 undef (.bool false)) fun x83 =>
 GdP x83 true
 (CallP P 23 [r9, x69] h_4 fun x87 h_5 =>
 (True) ∧
 OP (iPick x83 x87 (.bool false)) fun x88 =>
 GdP x88 true
 (OP (iBin .eql f10 (.int .i64 (0))) fun x91 =>
 OP (iEqb false x91 x70) fun x93 =>
 OP (iPick x88 x93 (.bool false)) fun x94 =>
 GdP x94 true
 (GdP x70 false
 (OP (iBin .eql f10 (.int .i64 (5))) fun x99 =>
 GdP x94 true
 (OP (iPick x70 (.bool true) x99) fun x100 =>
 OP (iPick x94 x100 (.bool false)) fun x101 =>
 GdP x101 true
 (CallP P 15 [] h_5 fun x103 h_6 =>
 (True) ∧
 OP (iPick x101 x103 (.bool false)) fun x104 =>
 K x104 h_6)
 ((True) ∧
 OP (iPick x101 undef (.bool false)) fun x104 =>
 K x104 h_5))
 (OP (iPick x94 undef (.bool false)) fun x101 =>
 GdP x101 true
 (CallP P 15 [] h_5 fun x103 h_6 =>
 (True) ∧
 OP (iPick x101 x103 (.bool false)) fun x104 =>
 K x104 h_6)
 ((True) ∧
 OP (iPick x101 undef (.bool false)) fun x104 =>
 K x104 h_5)))
 (GdP x94 true
 (OP (iPick x70 (.bool true) undef) fun x100 =>
 OP (iPick x94 x100 (.bool false)) fun x101 =>
 GdP x101 true
 (CallP P 15 [] h_5 fun x103 h_6 =>
 (True) ∧
 OP (iPick x101 x103 (.bool false)) fun x104 =>
 K x104 h_6)
 ((True) ∧
 OP (iPick x101 undef (.bool false)) fun x104 =>
 K x104 h_5))
 (OP (iPick x94 undef (.bool false)) fun x101 =>
 GdP x101 true
 (CallP P 15 [] h_5 fun x103 h_6 =>
 (True) ∧
 OP (iPick x101 x103 (.bool false)) fun x104 =>
 K x104 h_6)
 ((True) ∧
 OP (iPick x101 undef (.bool false)) fun x104 =>
 K x104 h_5))))
 (GdP undef false
 (OP (iBin .eql f10 (.int .i64 (5))) fun x99 =>
 GdP x94 true
 (OP (iPick undef (.bool true) x99) fun x100 =>
 OP (iPick x94 x100 (.bool false)) fun x101 =>
 GdP x101 true
 (CallP P 15 [] h_5 fun x103 h_6 =>
 (True) ∧
 OP (iPick x101 x103 (.bool false)) fun x104 =>
 K x104 h_6)
 ((True) ∧
 OP (iPick x101 undef (.bool false)) fun x104 =>
 K x104 h_5))
 (OP (iPick x94 undef (.bool false)) fun x101 =>
 GdP x101 true
 (CallP P 15 [] h_5 fun x103 h_6 =>
 (True) ∧
 OP (iPick x101 x103 (.bool false)) fun x104 =>
 K x104 h_6)
 ((True) ∧
 OP (iPick x101 undef (.bool false)) fun x104 =>
 K x104 h_5)))
 (GdP x94 true
 (OP (iPick undef (.bool true) undef) fun x100 =>
 OP (iPick x94 x100 (.bool false)) fun x101 =>
 GdP x101 true
 (CallP P 15 [] h_5 fun x103 h_6 =>
 (True) ∧
 OP (iPick x101 x103 (.bool false)) fun x104 =>
 K x104 h_6)
 ((True) ∧
 OP (iPick x101 undef (.bool false)) fun x104 =>
 K x104 h_5))
 (OP (iPick x94 undef (.bool false)) fun x101 =>
 GdP x101 true
 (CallP P 15 [] h_5 fun x103 h_6 =>
 (True) ∧
 OP (iPick x101 x103 (.bool false)) fun x104 =>
 K x104 h_6)
 ((True) ∧
 OP (iPick x101 undef (.bool false)) fun x104 =>
 K x104 h_5)))))
 (OP (iPick x88 undef (.bool false)) fun x94 =>
 GdP x94 true
 (GdP x70 false
 (OP (iBin .eql f10 (.int .i64 (5))) fun x99 =>
 GdP x94 true
 (OP (iPick x70 (.bool true) x99) fun x100 =>
 OP (iPick x94 x100 (.bool false)) fun x101 =>
 GdP x101 true
 (CallP P 15 [] h_5 fun x103 h_6 =>
 (True) ∧
 OP (iPick x101 x103 (.bool false)) fun x104 =>
 K x104 h_6)
 ((True) ∧
 OP (iPick x101 undef (.bool false)) fun x104 =>
 K x104 h_5))
 (OP (iPick x94 undef (.bool false)) fun x101 =>
 GdP x101 true
 (CallP P 15 [] h_5 fun x103 h_6 =>
 (True) ∧
 OP (iPick x101 x103 (.bool false)) fun x104 =>
 K x104 h_6)
 ((True) ∧
 OP (iPick x101 undef (.bool false)) fun x104 =>
 K x104 h_5)))
 (GdP x94 true
 (OP (iPick x70 (.bool true) undef) fun x100 =>
 OP (iPick x94 x100 (.bool false)) fun x101 =>
 GdP x101 true
 (CallP P 15 [] h_5 fun x103 h_6 =>
 (True) ∧
 OP (iPick x101 x103 (.bool false)) fun x104 =>
 K x104 h_6)
 ((True) ∧
 OP (iPick x101 undef (.bool false)) fun x104 =>
 K x104 h_5))
 (OP (iPick x94 undef (.bool false)) fun x101 =>
 GdP x101 true
 (CallP P 15 [] h_5 fun x103 h_6 =>
 (True) ∧
 OP (iPick x101 x103 (.bool false)) fun x104 =>
 K x104 h_6)
 ((True) ∧
 OP (iPick x101 undef (.bool false)) fun x104 =>
 K x104 h_5))))
 (GdP undef false
 (OP (iBin .eql f10 (.int .i64 (5))) fun x99 =>
 GdP x94 true
 (OP (iPick undef (.bool true) x99) fun x100 =>
 OP (iPick x94 x100 (.bool false)) fun x101 =>
 GdP x101 true
 (CallP P 15 [] h_5 fun x103 h_6 =>
 (True) ∧
 OP (iPick x101 x103 (.bool false)) fun x104 =>
 K x104 h_6)
 ((True) ∧
 OP (iPick x101 undef (.bool false)) fun x104 =>
 K x104 h_5))
 (OP (iPick x94 undef (.bool false)) fun x101 =>
 GdP x101 true
 (CallP P 15 [] h_5 fun x103 h_6 =>
 (True) ∧
 OP (iPick x101 x103 (.bool false)) fun x104 =>
 K x104 h_6)
 ((True) ∧
 OP (iPick x101 undef (.bool false)) fun x104 =>
 K x104 h_5)))
 (GdP x94 true
 (OP (iPick undef (.bool true) undef) fun x100 =>
 OP (iPick x94 x100 (.bool false)) fun x101 =>
 GdP x101 true
 (CallP P 15 [] h_5 fun x103 h_6 =>
 (True) ∧
 OP (iPick x101 x103 (.bool false)) fun x104 =>
 K x104 h_6)
 ((True) ∧
 OP (iPick x101 undef (.bool false)) fun x104 =>
 K x104 h_5))
 (OP (iPick x94 undef (.bool false)) fun x101 =>
 GdP x101 true
 (CallP P 15 [] h_5 fun x103 h_6 =>
 (True) ∧
 OP (iPick x101 x103 (.bool false)) fun x104 =>
 K x104 h_6)
 ((True) ∧
 OP (iPick x101 undef (.bool false)) fun x104 =>
 K x104 h_5))))))
 ((True) ∧
 OP (iPick x83 undef (.bool false)) fun x88 =>
 GdP x88 true
 (OP (iBin .eql f10 (.int .i64 (0))) fun x91 =>
 OP (iEqb false x91 x70) fun x93 =>
 OP (iPick x88 x93 (.bool false)) fun x94 =>
 GdP x94 true
 (GdP x70 false
 (OP (iBin .eql f10 (.int .i64 (5))) fun x99 =>
 GdP x94 true
 (OP (iPick x70 (.bool true) x99) fun x100 =>
 OP (iPick x94 x100 (.bool false)) fun x101 =>
 GdP x101 true
 (CallP P 15 [] h_4 fun x103 h_5 =>
 (True) ∧
 OP (iPick x101 x103 (.bool false)) fun x104 =>
 K x104 h_5)
 ((True) ∧
 OP (iPick x101 undef (.bool false)) fun x104 =>
 K x104 h_4))
 (OP (iPick x94 undef (.bool false)) fun x101 =>
 GdP x101 true
 (CallP P 15 [] h_4 fun x103 h_5 =>
 (True) ∧
 OP (iPick x101 x103 (.bool false)) fun x104 =>
 K x104 h_5)
 ((True) ∧
 OP (iPick x101 undef (.bool false)) fun x104 =>
 K x104 h_4)))
 (GdP x94 true
 (OP (iPick x70 (.bool true) undef) fun x100 =>
 OP (iPick x94 x100 (.bool false)) fun x101 =>
 GdP x101 true
 (CallP P 15 [] h_4 fun x103 h_5 =>
 (True) ∧
 OP (iPick x101 x103 (.bool false)) fun x104 =>
 K x104 h_5)
 ((True) ∧
 OP (iPick x101 undef (.bool false)) fun x104 =>
 K x104 h_4))
 (OP (iPick x94 undef (.bool false)) fun x101 =>
 GdP x101 true
 (CallP P 15 [] h_4 fun x103 h_5 =>
 (True) ∧
 OP (iPick x101 x103 (.bool false)) fun x104 =>
 K x104 h_5)
 ((True) ∧
 OP (iPick x101 undef (.bool false)) fun x104 =>
 K x104 h_4))))
 (GdP undef false
 (OP (iBin .eql f10 (.int .i64 (5))) fun x99 =>
 GdP x94 true
 (OP (iPick undef (.bool true) x99) fun x100 =>
 OP (iPick x94 x100 (.bool false)) fun x101 =>
 GdP x101 true
 (CallP P 15 [] h_4 fun x103 h_5 =>
 (True) ∧
 OP (iPick x101 x103 (.bool false)) fun x104 =>
 K x104 h_5)
 ((True) ∧
 OP (iPick x101 undef (.bool false)) fun x104 =>
 K x104 h_4))
 (OP (iPick x94 undef (.bool false)) fun x101 =>
 GdP x101 true
 (CallP P 15 [] h_4 fun x103 h_5 =>
 (True) ∧
 OP (iPick x101 x103 (.bool false)) fun x104 =>
 K x104 h_5)
 ((True) ∧
 OP (iPick x101 undef (.bool false)) fun x104 =>
 K x104 h_4)))
 (GdP x94 true
 (OP (iPick undef (.bool true) undef) fun x100 =>
 OP (iPick x94 x100 (.bool false)) fun x101 =>
 GdP x101 true
 (CallP P 15 [] h_4 fun x103 h_5 =>
 (True) ∧
 OP (iPick x101 x103 (.bool false)) fun x104 =>
 K x104 h_5)
 ((True) ∧
 OP (iPick x101 undef (.bool false)) fun x104 =>
 K x104 h_4))
 (OP (iPick x94 undef (.bool false)) fun x101 =>
 GdP x101 true
 (CallP P 15 [] h_4 fun x103 h_5 =>
 (True) ∧
 OP (iPick x101 x103 (.bool false)) fun x104 =>
 K x104 h_5)
 ((True) ∧
 OP (iPick x101 undef (.bool false)) fun x104 =>
 K x104 h_4)))))
 (OP (iPick x88 undef (.bool false)) fun x94 =>
 GdP x94 true
 (GdP x70 false
 (OP (iBin .eql f10 (.int .i64 (5))) fun x99 =>
 GdP x94 true
 (OP (iPick x70 (.bool true) x99) fun x100 =>
 OP (iPick x94 x100 (.bool false)) fun x101 =>
 GdP x101 true
 (CallP P 15 [] h_4 fun x103 h_5 =>
 (True) ∧
 OP (iPick x101 x103 (.bool false)) fun x104 =>
 K x104 h_5)
 ((True) ∧
 OP (iPick x101 undef (.bool false)) fun x104 =>
 K x104 h_4))
 (OP (iPick x94 undef (.bool false)) fun x101 =>
 GdP x101 true
 (CallP P 15 [] h_4 fun x103 h_5 =>
 (True) ∧
 OP (iPick x101 x103 (.bool false)) fun x104 =>
 K x104 h_5)
 ((True) ∧
 OP (iPick x101 undef (.bool false)) fun x104 =>
 K x104 h_4)))
 (GdP x94 true
 (OP (iPick x70 (.bool true) undef) fun x100 =>
 OP (iPick x94 x100 (.bool false)) fun x101 =>
 GdP x101 true
 (CallP P 15 [] h_4 fun x103 h_5 =>
 (True) ∧
 OP (iPick x101 x103 (.bool false)) fun x104 =>
 K x104 h_5)
 ((True) ∧
 OP (iPick x101 undef (.bool false)) fun x104 =>
 K x104 h_4))
 (OP (iPick x94 undef (.bool false)) fun x101 =>
 GdP x101 true
 (CallP P 15 [] h_4 fun x103 h_5 =>
 (True) ∧
 OP (iPick x101 x103 (.bool false)) fun x104 =>
 K x104 h_5)
 ((True) ∧
 OP (iPick x101 undef (.bool false)) fun x104 =>
 K x104 h_4))))
 (GdP undef false
 (OP (iBin .eql f10 (.int .i64 (5))) fun x99 =>
 GdP x94 true
 (OP (iPick undef (.bool true) x99) fun x100 =>
 OP (iPick x94 x100 (.bool false)) fun x101 =>
 GdP x101 true
 (CallP P 15 [] h_4 fun x103 h_5 =>
 (True) ∧
 OP (iPick x101 x103 (.bool false)) fun x104 =>
 K x104 h_5)
 ((True) ∧
 OP (iPick x101 undef (.bool false)) fun x104 =>
 K x104 h_4))
 (OP (iPick x94 undef (.bool false)) fun x101 =>
 GdP x101 true
 (CallP P 15 [] h_4 fun x103 h_5 =>
 (True) ∧
 OP (iPick x101 x103 (.bool false)) fun x104 =>
 K x104 h_5)
 ((True) ∧
 OP (iPick x101 undef (.bool false)) fun x104 =>
 K x104 h_4)))
 (GdP x94 true
 (OP (iPick undef (.bool true) undef) fun x100 =>
 OP (iPick x94 x100 (.bool false)) fun x101 =>
 GdP x101 true
 (CallP P 15 [] h_4 fun x103 h_5 =>
 (True) ∧
 OP (iPick x101 x103 (.bool false)) fun x104 =>
 K x104 h_5)
 ((True) ∧
 OP (iPick x101 undef (.bool false)) fun x104 =>
 K x104 h_4))
 (OP (iPick x94 undef (.bool false)) fun x101 =>
 GdP x101 true
 (CallP P 15 [] h_4 fun x103 h_5 =>
 (True) ∧
 OP (iPick x101 x103 (.bool false)) fun x104 =>
 K x104 h_5)
 ((True) ∧
 OP (iPick x101 undef (.bool false)) fun x104 =>
 K x104 h_4))))))))) := (CutP_def _ _ _ _).trans (by kernel_rfl)
def T4 (x0 y1 : Value) (h : Heap) : Prop :=
 CallP P 16 [x0] h fun x16 h_1 =>
 (True) ∧
 OP (iLenS y1) fun x19 =>
 OP (iMinmax false [x19, (.int .i64 (201))]) fun x20 =>
 OP (iSlS y1 none (some x20)) fun x21 =>
 CallP P 10 [x16, x21] h_1 fun x25 h_2 =>
 OP (iExt 0 x25) fun x26 =>
 OP (iExt 1 x25) fun x27 =>
 CallP P 17 [x16, x21] h_2 fun x31 h_3 =>
 OP (iExt 0 x31) fun x32 =>
 OP (iExt 1 x31) fun x33 =>
 CallP P 18 [x16, x21] h_3 fun x36 h_4 =>
 OP (iLenSl x16) fun x38 =>
 OP (iBin .gtr x38 (.int .i64 (12))) fun x39 =>
 IfP x39
 (p4z8 P K x16 x21 x26 x27 x32 x33 (.int .i64 (3)) h_4)
 (p4z8 P K x16 x21 x26 x27 x32 x33 x36 h_4)
theorem e4 (x0 y1 : Value) (h : Heap) : iwpP P c4 (bodyP [.tmp 4] K) (frame0 [x0, y1]) h = T4 P K x0 y1 h := by kernel_rfl
theorem f4 {K : VK} {x0 y1 : Value} {h : Heap} (H : T4 Tryz.prog K x0 y1 h) : CallP Tryz.prog 4 [x0, y1] h K :=
 callP_intro k4 (Nat.le_of_ble_eq_true rfl) ((e4 Tryz.prog K x0 y1 h).mpr H)
/-! F10: pommel/mark.Readings -/
noncomputable def c10z26 : ICode := .ops none [⟨some 47, .p (.bin .add (.tmp 29) (ci (1)))⟩,gm 29 47]
noncomputable def c10z19 : ICode := .seq (.ops none [⟨some 30, .p (.bin .lss (.tmp 29) (.tmp 28))⟩])
 (.seq (.cond (.tmp 30) (.skip)
 (.exit 2))
 (.seq (.block 3 (.seq (.ops none [⟨some 31, .p (.adrSl 1 (.tmp 27) (.tmp 29))⟩,⟨some 32, .l (.load false 1 (.tmp 31))⟩,gm 11 32])
 (.seq (.ops none [gm 33 1,gm 34 8,⟨some 35, .p (.slS (.tmp 33) none (some (.tmp 34)))⟩,gm 36 11,⟨some 37, .call 47 [(.tmp 35), (.tmp 36)]⟩])
 (.cond (.tmp 37) (.dops [(none, [⟨some 38, .l (.load true 2 (.tmp 9)), 0⟩,gd 39 7 0,gd 40 8 0,gd 41 11 0,⟨some 42, .p (.lenS (.tmp 41)), 8⟩,⟨some 43, .p (.bin .sub (.tmp 40) (.tmp 42)), 28⟩,⟨some 44, .p (.adrSl 2 (.tmp 39) (.tmp 43)), 62⟩,⟨some 45, .l (.load true 2 (.tmp 44)), 126⟩,⟨some 46, .call 48 [(.tmp 38), (.tmp 45)], 255⟩,
 ⟨none, .e (.store 2 (.tmp 9) (.tmp 46)), 511⟩])])
 (.skip)))))
 (.cut [0, 1, 7, 8, 9, 27, 28, 29] c10z26)))
noncomputable def c10z27 : ICode := .ops none [gm 48 7,⟨some 49, .l (.load true 2 (.tmp 9))⟩,⟨some 50, .e (.mkSl 81 1 [(.bool false), (.slice none 0 0)] [(0, 2, (.tmp 49))])⟩,⟨some 51, .e (.app 81 2 32 (.tmp 48) (.tmp 50))⟩,gm 7 51]
noncomputable def c10z16 : ICode := .cut [0, 1, 7, 8, 9] c10z27
noncomputable def c10z28 : ICode := .ops none [gm 24 8,⟨some 25, .p (.bin .add (.tmp 24) (ci (1)))⟩,gm 8 25]
noncomputable def c10z13 : ICode := .cut [0, 1, 7, 8] c10z28
noncomputable def c10z10 : ICode := .seq (.seq (.ops none [gm 20 8,gm 21 1,⟨some 22, .p (.lenS (.tmp 21))⟩,⟨some 23, .p (.bin .leq (.tmp 20) (.tmp 22))⟩])
 (.cond (.tmp 23) (.skip)
 (.exit 0)))
 (.seq (.block 1 (.seq (.ops none [⟨some 26, .call 46 [(ci (0))]⟩,⟨some 9, .e (.alloc 81 [(.bool false), (.slice none 0 0)])⟩,
 ⟨none, .e (.store 2 (.tmp 9) (.tmp 26))⟩])
 (.seq (.seq (.ops none [gm 27 0,⟨some 28, .p (.lenSl (.tmp 27))⟩,⟨some 29, .p (.mv (ci (0)))⟩])
 (.block 2 (.loop [0, 1, 7, 8, 9, 27, 28] [29] c10z19))) c10z16))) c10z13)
noncomputable def c10z29 : ICode := .seq (.ops none [gm 52 7,gm 53 1,⟨some 54, .p (.lenS (.tmp 53))⟩,⟨some 55, .p (.adrSl 2 (.tmp 52) (.tmp 54))⟩,⟨some 56, .l (.load true 2 (.tmp 55))⟩,⟨some 57, .call 49 [(.tmp 56)]⟩,⟨some 58, .call 50 [(.tmp 57)]⟩,⟨some 59, .p (.ext (.tmp 58) 0)⟩,⟨some 60, .p (.ext (.tmp 58) 1)⟩,gm 4 59,gm 5 60])
 (.ret)
noncomputable def c10z7 : ICode := .cut [1, 7] c10z29
noncomputable def c10 : ICode := .seq (.ops none [⟨some 4, .p (.mv (.const (.string ⟨#[]⟩)))⟩,⟨some 5, .p (.mv (ci (0)))⟩])
 (.seq (.seq (.ops none [gm 12 0,gm 13 1,⟨some 14, .call 40 [(.tmp 12), (.tmp 13)]⟩,gm 6 14])
 (.seq (.ops none [gm 15 6,⟨some 16, .p (.bin .neq (.tmp 15) (ci (0)))⟩])
 (.cond (.tmp 16) (.seq (.ops none [gm 17 6,⟨some 4, .p (.mv (.const (.string ⟨#[]⟩)))⟩,gm 5 17])
 (.ret))
 (.skip))))
 (.seq (.ops none [⟨some 18, .call 46 [(ci (1))]⟩,⟨some 19, .e (.mkSl 81 1 [(.bool false), (.slice none 0 0)] [(0, 2, (.tmp 18))])⟩,gm 7 19])
 (.seq (.seq (.ops none [⟨some 8, .p (.mv (ci (1)))⟩])
 (.block 0 (.loop [0, 1] [7, 8] c10z10))) c10z7)))
theorem k10 : compFn Tryz.prog 10 [[], [], [], [], [], [], [], [0, 1], [7, 8], [], [], [], [], [0, 1, 7, 8, 9, 27, 28], [29], [], [], [], [], [0, 1, 7, 8, 9, 27, 28, 29], [0, 1, 7, 8, 9], [0, 1, 7, 8], [1, 7], []] = some (61, c10, [.tmp 4, .tmp 5]) := by kernel_rfl
def K10z0 (_P : Program) (K : VK) : Kont := bodyP [.tmp 4, .tmp 5] K
def K10z7 : Kont := thenK (iwpP P c10z7 (K10z0 P K)) (K10z0 P K)
def K10z9 : Kont := inBlockK 0 (K10z7 P K)
def K10z10 (words0 text1 : Value) (L1 : LK) : Kont := thenK (fun f' h'' => (([0, 1] : List Nat).map f' : List Value) = [words0, text1] ∧ L1 (([7, 8] : List Nat).map f') h'') (K10z9 P K)
def K10z13 (words0 text1 : Value) (L1 : LK) : Kont := thenK (iwpP P c10z13 (K10z10 P K words0 text1 L1)) (K10z10 P K words0 text1 L1)
def K10z14 (words0 text1 : Value) (L1 : LK) : Kont := inBlockK 1 (K10z13 P K words0 text1 L1)
def K10z16 (words0 text1 : Value) (L1 : LK) : Kont := thenK (iwpP P c10z16 (K10z14 P K words0 text1 L1)) (K10z14 P K words0 text1 L1)
def K10z18 (words0 text1 : Value) (L1 : LK) : Kont := inBlockK 2 (K10z16 P K words0 text1 L1)
def K10z19 (words0 text1 counts7 i8 sum9 x27 x28 : Value) (L1 L2 : LK) : Kont := thenK (fun f' h'' => (([0, 1, 7, 8, 9, 27, 28] : List Nat).map f' : List Value) = [words0, text1, counts7, i8, sum9, x27, x28] ∧ L2 (([29] : List Nat).map f') h'') (K10z18 P K words0 text1 L1)
def p10z10 (words0 text1 : Value) (L1 : LK) (xs : List Value) (h : Heap) : Prop := CutP (iwpP P c10z10 (K10z10 P K words0 text1 L1)) ([0, 1] ++ [7, 8]) ([words0, text1] ++ xs) h
def p10z19 (words0 text1 counts7 i8 sum9 x27 x28 : Value) (L1 L2 : LK) (xs : List Value) (h : Heap) : Prop := CutP (iwpP P c10z19 (K10z19 P K words0 text1 counts7 i8 sum9 x27 x28 L1 L2)) ([0, 1, 7, 8, 9, 27, 28] ++ [29]) ([words0, text1, counts7, i8, sum9, x27, x28] ++ xs) h
def p10z26 (words0 text1 counts7 i8 sum9 x27 x28 x29 : Value) (L1 L2 : LK) (h : Heap) : Prop := CutP (iwpP P c10z26 (K10z19 P K words0 text1 counts7 i8 sum9 x27 x28 L1 L2)) [0, 1, 7, 8, 9, 27, 28, 29] [words0, text1, counts7, i8, sum9, x27, x28, x29] h
def p10z27 (words0 text1 counts7 i8 sum9 : Value) (L1 : LK) (h : Heap) : Prop := CutP (iwpP P c10z27 (K10z14 P K words0 text1 L1)) [0, 1, 7, 8, 9] [words0, text1, counts7, i8, sum9] h
def p10z28 (words0 text1 counts7 i8 : Value) (L1 : LK) (h : Heap) : Prop := CutP (iwpP P c10z28 (K10z10 P K words0 text1 L1)) [0, 1, 7, 8] [words0, text1, counts7, i8] h
def p10z29 (text1 counts7 : Value) (h : Heap) : Prop := CutP (iwpP P c10z29 (K10z0 P K)) [1, 7] [text1, counts7] h
theorem q10z26 (words0 text1 counts7 i8 sum9 x27 x28 x29 : Value) (L1 L2 : LK) (h : Heap) : p10z26 P K words0 text1 counts7 i8 sum9 x27 x28 x29 L1 L2 h =
 (OP (iBin .add x29 (.int .i64 (1))) fun x47 =>
 ([words0, text1, counts7, i8, sum9, x27, x28] : List Value) = [words0, text1, counts7, i8, sum9, x27, x28] ∧ L2 [x47] h) := (CutP_def _ _ _ _).trans (by kernel_rfl)
theorem q10z19 (words0 text1 counts7 i8 sum9 x27 x28 : Value) (L1 L2 : LK) (x29 : Value) (h : Heap) : p10z19 P K words0 text1 counts7 i8 sum9 x27 x28 L1 L2 [x29] h =
 (OP (iBin .lss x29 x28) fun x30 =>
 IfP x30
 (OP (iAdrSl 1 x27 x29) fun x31 =>
 OP (iLoad false 1 h x31) fun x32 =>
 OP (iSlS text1 none (some i8)) fun x35 =>
 CallP P 47 [x35, x32] h fun x37 h_1 =>
 IfP x37
 (OP (iLoad true 2 h_1 sum9) fun x38 =>
 (True) ∧
 OP (iLenS x32) fun x42 =>
 OP (iBin .sub i8 x42) fun x43 =>
 OP (iAdrSl 2 counts7 x43) fun x44 =>
 OP (iLoad true 2 h_1 x44) fun x45 =>
 (True) ∧
 CallP P 48 [x38, x45] h_1 fun x46 h_2 =>
 (True) ∧
 OH (oStore 2 h_2 sum9 x46) fun _ h_3 =>
 (True) ∧
 p10z26 P K words0 text1 counts7 i8 sum9 x27 x28 x29 L1 L2 h_3)
 (p10z26 P K words0 text1 counts7 i8 sum9 x27 x28 x29 L1 L2 h_1))
 (p10z27 P K words0 text1 counts7 i8 sum9 L1 h)) := (CutP_def _ _ _ _).trans (by kernel_rfl)
theorem q10z27 (words0 text1 counts7 i8 sum9 : Value) (L1 : LK) (h : Heap) : p10z27 P K words0 text1 counts7 i8 sum9 L1 h =
 (OP (iLoad true 2 h sum9) fun x49 =>
 OH (iMkSl 81 1 [(.bool false), (.slice none 0 0)] h [(0, 2, x49)]) fun x50 h_1 =>
 OH (iApp 81 2 32 h_1 counts7 x50) fun x51 h_2 =>
 p10z28 P K words0 text1 x51 i8 L1 h_2) := (CutP_def _ _ _ _).trans (by kernel_rfl)
theorem q10z28 (words0 text1 counts7 i8 : Value) (L1 : LK) (h : Heap) : p10z28 P K words0 text1 counts7 i8 L1 h =
 (OP (iBin .add i8 (.int .i64 (1))) fun x25 =>
 ([words0, text1] : List Value) = [words0, text1] ∧ L1 [counts7, x25] h) := (CutP_def _ _ _ _).trans (by kernel_rfl)
theorem q10z10 (words0 text1 : Value) (L1 : LK) (counts7 i8 : Value) (h : Heap) : p10z10 P K words0 text1 L1 [counts7, i8] h =
 (OP (iLenS text1) fun x22 =>
 OP (iBin .leq i8 x22) fun x23 =>
 IfP x23
 (CallP P 46 [(.int .i64 (0))] h fun x26 h_1 =>
 OH (iAlloc 81 [(.bool false), (.slice none 0 0)] h_1) fun sum9 h_2 =>
 OH (oStore 2 h_2 sum9 x26) fun _ h_3 =>
 OP (iLenSl words0) fun x28 =>
 LoopP [(.int .i64 (0))] h_3 fun L2 xs hx =>
 p10z19 P K words0 text1 counts7 i8 sum9 words0 x28 L1 L2 xs hx)
 (p10z29 P K text1 counts7 h)) := (CutP_def _ _ _ _).trans (by kernel_rfl)
theorem q10z29 (text1 counts7 : Value) (h : Heap) : p10z29 P K text1 counts7 h =
 (OP (iLenS text1) fun x54 =>
 OP (iAdrSl 2 counts7 x54) fun x55 =>
 OP (iLoad true 2 h x55) fun x56 =>
 CallP P 49 [x56] h fun x57 h_1 =>
 CallP P 50 [x57] h_1 fun x58 h_2 =>
 OP (iExt 0 x58) fun x59 =>
 OP (iExt 1 x58) fun x60 =>
 K (.tuple #[x59, x60]) h_2) := (CutP_def _ _ _ _).trans (by kernel_rfl)
def T10 (words0 text1 : Value) (h : Heap) : Prop :=
 CallP P 40 [words0, text1] h fun x14 h_1 =>
 OP (iBin .neq x14 (.int .i64 (0))) fun x16 =>
 IfP x16
 (K (.tuple #[(.string ⟨#[]⟩), x14]) h_1)
 (CallP P 46 [(.int .i64 (1))] h_1 fun x18 h_2 =>
 OH (iMkSl 81 1 [(.bool false), (.slice none 0 0)] h_2 [(0, 2, x18)]) fun x19 h_3 =>
 LoopP [x19, (.int .i64 (1))] h_3 fun L1 xs hx =>
 p10z10 P K words0 text1 L1 xs hx)
theorem e10 (words0 text1 : Value) (h : Heap) : iwpP P c10 (bodyP [.tmp 4, .tmp 5] K) (frame0 [words0, text1]) h = T10 P K words0 text1 h := by kernel_rfl
theorem f10 {K : VK} {words0 text1 : Value} {h : Heap} (H : T10 Tryz.prog K words0 text1 h) : CallP Tryz.prog 10 [words0, text1] h K :=
 callP_intro k10 (Nat.le_of_ble_eq_true rfl) ((e10 Tryz.prog K words0 text1 h).mpr H)
/-! F17: pommel/mark.Read -/
noncomputable def c17z12 : ICode := .seq (.seq (.ops none [⟨some 31, .l (.load false 1 (.tmp 9))⟩,⟨some 32, .p (.bin .geq (.tmp 31) (ci (0)))⟩])
 (.cond (.tmp 32) (.skip)
 (.exit 0)))
 (.seq (.block 1 (.dops [(none, [⟨some 35, .l (.load false 1 (.tmp 7)), 0⟩,⟨some 36, .l (.load false 1 (.tmp 9)), 0⟩,gd 37 0 0,⟨some 38, .p (.fn 58 [] [(.tmp 8), (.tmp 9)]), 0⟩,⟨some 39, .call 57 [(.tmp 37), (.tmp 38)], 12⟩,⟨some 40, .p (.adrSl 1 (.tmp 35) (.tmp 36)), 31⟩,
 ⟨none, .e (.store 1 (.tmp 40) (.tmp 39)), 63⟩])]))
 (.seq (.seq (.ops none [⟨some 41, .l (.load false 1 (.tmp 9))⟩])
 (.ops none [⟨some 9, .e (.alloc 3 [(.int .i64 (0))])⟩,
 ⟨none, .e (.store 1 (.tmp 9) (.tmp 41))⟩]))
 (.ops none [⟨some 33, .l (.load false 1 (.tmp 9))⟩,⟨some 34, .p (.bin .sub (.tmp 33) (ci (1)))⟩,
 ⟨none, .e (.store 1 (.tmp 9) (.tmp 34))⟩])))
noncomputable def c17z27 : ICode := .seq (.seq (.ops none [⟨some 46, .l (.load false 1 (.tmp 11))⟩,⟨some 47, .l (.load false 1 (.tmp 3))⟩,⟨some 48, .p (.lenS (.tmp 47))⟩,⟨some 49, .p (.bin .lss (.tmp 46) (.tmp 48))⟩])
 (.cond (.tmp 49) (.skip)
 (.exit 2)))
 (.seq (.block 3 (.seq (.ops none [gm 50 0,⟨some 51, .p (.fn 60 [] [(.tmp 8), (.tmp 11)])⟩,⟨some 52, .call 59 [(.tmp 50), (.tmp 51)]⟩,gm 12 52])
 (.seq (.ops none [gm 53 10,gm 54 12,⟨some 55, .e (.mkSl 3 1 [(.int .i64 (0))] [(0, 1, (.tmp 54))])⟩,⟨some 56, .e (.app 3 1 8 (.tmp 53) (.tmp 55))⟩,gm 10 56])
 (.dops [(none, [⟨some 57, .l (.load false 1 (.tmp 11)), 0⟩,gd 58 0 0,gd 59 12 0,⟨some 60, .p (.adrSl 1 (.tmp 58) (.tmp 59)), 6⟩,⟨some 61, .l (.load false 1 (.tmp 60)), 14⟩,⟨some 62, .p (.lenS (.tmp 61)), 30⟩,⟨some 63, .p (.bin .add (.tmp 57) (.tmp 62)), 63⟩,
 ⟨none, .e (.store 1 (.tmp 11) (.tmp 63)), 127⟩])]))))
 (.seq (.ops none [⟨some 64, .l (.load false 1 (.tmp 11))⟩])
 (.ops none [⟨some 11, .e (.alloc 3 [(.int .i64 (0))])⟩,
 ⟨none, .e (.store 1 (.tmp 11) (.tmp 64))⟩])))
noncomputable def c17z35 : ICode := .seq (.ops none [gm 65 10,gm 4 65,⟨some 5, .p (.mv (ci (0)))⟩])
 (.ret)
noncomputable def c17z24 : ICode := .cut [10] c17z35
noncomputable def c17z19 : ICode := .seq (.seq (.ops none [⟨some 42, .l (.load false 1 (.tmp 7))⟩,⟨some 43, .p (.adrSl 1 (.tmp 42) (ci (0)))⟩,⟨some 44, .l (.load false 1 (.tmp 43))⟩,⟨some 45, .p (.un .not (.tmp 44))⟩])
 (.cond (.tmp 45) (.seq (.ops none [⟨some 4, .p (.mv (.const (.slice none 0 0)))⟩,⟨some 5, .p (.mv (ci (5)))⟩])
 (.ret))
 (.skip)))
 (.seq (.ops none [⟨some 10, .p (.mv (.const (.slice none 0 0)))⟩])
 (.seq (.seq (.ops none [⟨some 11, .e (.alloc 3 [(.int .i64 (0))])⟩,
 ⟨none, .e (.store 1 (.tmp 11) (ci (0)))⟩])
 (.block 2 (.loop [0, 3, 8] [10, 11] c17z27))) c17z24))
noncomputable def c17z9 : ICode := .cut [0, 3, 7, 8] c17z19
noncomputable def c17 : ICode := .seq (.ops none [⟨some 3, .e (.box 9 (.tmp 1))⟩,⟨some 4, .p (.mv (.const (.slice none 0 0)))⟩,⟨some 5, .p (.mv (ci (0)))⟩])
 (.seq (.seq (.ops none [gm 13 0,⟨some 14, .l (.load false 1 (.tmp 3))⟩,⟨some 15, .call 40 [(.tmp 13), (.tmp 14)]⟩,gm 6 15])
 (.seq (.ops none [gm 16 6,⟨some 17, .p (.bin .neq (.tmp 16) (ci (0)))⟩])
 (.cond (.tmp 17) (.seq (.ops none [gm 18 6,⟨some 4, .p (.mv (.const (.slice none 0 0)))⟩,gm 5 18])
 (.ret))
 (.skip))))
 (.seq (.ops none [⟨some 19, .l (.load false 1 (.tmp 3))⟩,⟨some 20, .p (.lenS (.tmp 19))⟩,⟨some 21, .p (.bin .add (.tmp 20) (ci (1)))⟩,⟨some 22, .e (.make 4 1 [(.bool false)] (.tmp 21) (.tmp 21))⟩,⟨some 7, .e (.alloc 95 [(.slice none 0 0)])⟩,
 ⟨none, .e (.store 1 (.tmp 7) (.tmp 22))⟩])
 (.seq (.ops none [⟨some 23, .l (.load false 1 (.tmp 7))⟩,⟨some 24, .l (.load false 1 (.tmp 3))⟩,⟨some 25, .p (.lenS (.tmp 24))⟩,⟨some 26, .p (.adrSl 1 (.tmp 23) (.tmp 25))⟩,
 ⟨none, .e (.store 1 (.tmp 26) (.const (.bool true)))⟩])
 (.seq (.ops none [⟨some 27, .p (.fn 56 [] [(.tmp 3), (.tmp 7)])⟩,⟨some 8, .e (.alloc 96 [.nilFunc])⟩,
 ⟨none, .e (.store 1 (.tmp 8) (.tmp 27))⟩])
 (.seq (.seq (.ops none [⟨some 28, .l (.load false 1 (.tmp 3))⟩,⟨some 29, .p (.lenS (.tmp 28))⟩,⟨some 30, .p (.bin .sub (.tmp 29) (ci (1)))⟩,⟨some 9, .e (.alloc 3 [(.int .i64 (0))])⟩,
 ⟨none, .e (.store 1 (.tmp 9) (.tmp 30))⟩])
 (.block 0 (.loop [0, 3, 7, 8] [9] c17z12))) c17z9)))))
theorem k17 : compFn Tryz.prog 17 [[], [], [], [], [], [], [], [], [], [0, 3, 7, 8], [9], [], [], [], [], [], [0, 3, 7, 8], [], [], [], [], [], [0, 3, 8], [10, 11], [], [], [], [], [], [], [10], []] = some (66, c17, [.tmp 4, .tmp 5]) := by kernel_rfl
def K17z0 (_P : Program) (K : VK) : Kont := bodyP [.tmp 4, .tmp 5] K
def K17z9 : Kont := thenK (iwpP P c17z9 (K17z0 P K)) (K17z0 P K)
def K17z11 : Kont := inBlockK 0 (K17z9 P K)
def K17z12 (words0 text3 ends7 fits8 : Value) (L1 : LK) : Kont := thenK (fun f' h'' => (([0, 3, 7, 8] : List Nat).map f' : List Value) = [words0, text3, ends7, fits8] ∧ L1 (([9] : List Nat).map f') h'') (K17z11 P K)
def K17z24 : Kont := thenK (iwpP P c17z24 (K17z0 P K)) (K17z0 P K)
def K17z26 : Kont := inBlockK 2 (K17z24 P K)
def K17z27 (words0 text3 fits8 : Value) (L1 : LK) : Kont := thenK (fun f' h'' => (([0, 3, 8] : List Nat).map f' : List Value) = [words0, text3, fits8] ∧ L1 (([10, 11] : List Nat).map f') h'') (K17z26 P K)
def p17z12 (words0 text3 ends7 fits8 : Value) (L1 : LK) (xs : List Value) (h : Heap) : Prop := CutP (iwpP P c17z12 (K17z12 P K words0 text3 ends7 fits8 L1)) ([0, 3, 7, 8] ++ [9]) ([words0, text3, ends7, fits8] ++ xs) h
def p17z19 (words0 text3 ends7 fits8 : Value) (h : Heap) : Prop := CutP (iwpP P c17z19 (K17z0 P K)) [0, 3, 7, 8] [words0, text3, ends7, fits8] h
def p17z27 (words0 text3 fits8 : Value) (L1 : LK) (xs : List Value) (h : Heap) : Prop := CutP (iwpP P c17z27 (K17z27 P K words0 text3 fits8 L1)) ([0, 3, 8] ++ [10, 11]) ([words0, text3, fits8] ++ xs) h
def p17z35 (out10 : Value) (h : Heap) : Prop := CutP (iwpP P c17z35 (K17z0 P K)) [10] [out10] h
theorem q17z12 (words0 text3 ends7 fits8 : Value) (L1 : LK) (i9 : Value) (h : Heap) : p17z12 P K words0 text3 ends7 fits8 L1 [i9] h =
 (OP (iLoad false 1 h i9) fun x31 =>
 OP (iBin .geq x31 (.int .i64 (0))) fun x32 =>
 IfP x32
 (OP (iLoad false 1 h ends7) fun x35 =>
 (True) ∧
 OP (iLoad false 1 h i9) fun x36 =>
 (True) ∧
 CallP P 57 [words0, (.func (.func 58) #[] #[fits8, i9])] h fun x39 h_1 =>
 (iLoad false 1 h_1 ends7 = some x35 ∧ iLoad false 1 h_1 i9 = some x36 ∧ True) ∧
 OP (iAdrSl 1 x35 x36) fun x40 =>
 OH (oStore 1 h_1 x40 x39) fun _ h_2 =>
 (True) ∧
 OP (iLoad false 1 h_2 i9) fun x41 =>
 OH (iAlloc 3 [(.int .i64 (0))] h_2) fun i9_1 h_3 =>
 OH (oStore 1 h_3 i9_1 x41) fun _ h_4 =>
 OP (iLoad false 1 h_4 i9_1) fun x33 =>
 OP (iBin .sub x33 (.int .i64 (1))) fun x34 =>
 OH (oStore 1 h_4 i9_1 x34) fun _ h_5 =>
 ([words0, text3, ends7, fits8] : List Value) = [words0, text3, ends7, fits8] ∧ L1 [i9_1] h_5)
 (p17z19 P K words0 text3 ends7 fits8 h)) := (CutP_def _ _ _ _).trans (by kernel_rfl)
theorem q17z27 (words0 text3 fits8 : Value) (L1 : LK) (out10 i11 : Value) (h : Heap) : p17z27 P K words0 text3 fits8 L1 [out10, i11] h =
 (OP (iLoad false 1 h i11) fun x46 =>
 OP (iLoad false 1 h text3) fun x47 =>
 OP (iLenS x47) fun x48 =>
 OP (iBin .lss x46 x48) fun x49 =>
 IfP x49
 (CallP P 59 [words0, (.func (.func 60) #[] #[fits8, i11])] h fun x52 h_1 =>
 OH (iMkSl 3 1 [(.int .i64 (0))] h_1 [(0, 1, x52)]) fun x55 h_2 =>
 OH (iApp 3 1 8 h_2 out10 x55) fun x56 h_3 =>
 OP (iLoad false 1 h_3 i11) fun x57 =>
 (True) ∧
 OP (iAdrSl 1 words0 x52) fun x60 =>
 OP (iLoad false 1 h_3 x60) fun x61 =>
 (True) ∧
 OP (iLenS x61) fun x62 =>
 OP (iBin .add x57 x62) fun x63 =>
 OH (oStore 1 h_3 i11 x63) fun _ h_4 =>
 (True) ∧
 OP (iLoad false 1 h_4 i11) fun x64 =>
 OH (iAlloc 3 [(.int .i64 (0))] h_4) fun i11_1 h_5 =>
 OH (oStore 1 h_5 i11_1 x64) fun _ h_6 =>
 ([words0, text3, fits8] : List Value) = [words0, text3, fits8] ∧ L1 [x56, i11_1] h_6)
 (p17z35 P K out10 h)) := (CutP_def _ _ _ _).trans (by kernel_rfl)
theorem q17z35 (out10 : Value) (h : Heap) : p17z35 P K out10 h =
 (K (.tuple #[out10, (.int .i64 (0))]) h) := (CutP_def _ _ _ _).trans (by kernel_rfl)
theorem q17z19 (words0 text3 ends7 fits8 : Value) (h : Heap) : p17z19 P K words0 text3 ends7 fits8 h =
 (OP (iLoad false 1 h ends7) fun x42 =>
 OP (iAdrSl 1 x42 (.int .i64 (0))) fun x43 =>
 OP (iLoad false 1 h x43) fun x44 =>
 OP (iUn .not x44) fun x45 =>
 IfP x45
 (K (.tuple #[(.slice none 0 0), (.int .i64 (5))]) h)
 (OH (iAlloc 3 [(.int .i64 (0))] h) fun i11 h_1 =>
 OH (oStore 1 h_1 i11 (.int .i64 (0))) fun _ h_2 =>
 LoopP [(.slice none 0 0), i11] h_2 fun L1 xs hx =>
 p17z27 P K words0 text3 fits8 L1 xs hx)) := (CutP_def _ _ _ _).trans (by kernel_rfl)
def T17 (words0 text1 : Value) (h : Heap) : Prop :=
 OH (iBox 9 h text1) fun text3 h_1 =>
 OP (iLoad false 1 h_1 text3) fun x14 =>
 CallP P 40 [words0, x14] h_1 fun x15 h_2 =>
 OP (iBin .neq x15 (.int .i64 (0))) fun x17 =>
 IfP x17
 (K (.tuple #[(.slice none 0 0), x15]) h_2)
 (OP (iLoad false 1 h_2 text3) fun x19 =>
 OP (iLenS x19) fun x20 =>
 OP (iBin .add x20 (.int .i64 (1))) fun x21 =>
 OH (iMake 4 1 [(.bool false)] h_2 x21 x21) fun x22 h_3 =>
 OH (iAlloc 95 [(.slice none 0 0)] h_3) fun ends7 h_4 =>
 OH (oStore 1 h_4 ends7 x22) fun _ h_5 =>
 OP (iLoad false 1 h_5 ends7) fun x23 =>
 OP (iLoad false 1 h_5 text3) fun x24 =>
 OP (iLenS x24) fun x25 =>
 OP (iAdrSl 1 x23 x25) fun x26 =>
 OH (oStore 1 h_5 x26 (.bool true)) fun _ h_6 =>
 OH (iAlloc 96 [.nilFunc] h_6) fun fits8 h_7 =>
 OH (oStore 1 h_7 fits8 (.func (.func 56) #[] #[text3, ends7])) fun _ h_8 =>
 OP (iLoad false 1 h_8 text3) fun x28 =>
 OP (iLenS x28) fun x29 =>
 OP (iBin .sub x29 (.int .i64 (1))) fun x30 =>
 OH (iAlloc 3 [(.int .i64 (0))] h_8) fun i9 h_9 =>
 OH (oStore 1 h_9 i9 x30) fun _ h_10 =>
 LoopP [i9] h_10 fun L1 xs hx =>
 p17z12 P K words0 text3 ends7 fits8 L1 xs hx)
theorem e17 (words0 text1 : Value) (h : Heap) : iwpP P c17 (bodyP [.tmp 4, .tmp 5] K) (frame0 [words0, text1]) h = T17 P K words0 text1 h := by kernel_rfl
theorem f17 {K : VK} {words0 text1 : Value} {h : Heap} (H : T17 Tryz.prog K words0 text1 h) : CallP Tryz.prog 17 [words0, text1] h K :=
 callP_intro k17 (Nat.le_of_ble_eq_true rfl) ((e17 Tryz.prog K words0 text1 h).mpr H)
/-! F18: pommel/pommelref08.Text -/
noncomputable def c18 : ICode := .seq (.ops none [⟨some 4, .p (.mv (ci (0)))⟩])
 (.seq (.seq (.ops none [gm 6 1,⟨some 7, .p (.lenS (.tmp 6))⟩,⟨some 8, .p (.bin .gtr (.tmp 7) (ci (200)))⟩])
 (.cond (.tmp 8) (.seq (.ops none [⟨some 4, .p (.mv (ci (3)))⟩])
 (.ret))
 (.skip)))
 (.seq (.seq (.ops none [gm 9 0,⟨some 10, .call 30 [(.tmp 9)]⟩,gm 5 10])
 (.seq (.ops none [gm 11 5,⟨some 12, .p (.bin .neq (.tmp 11) (ci (0)))⟩])
 (.cond (.tmp 12) (.seq (.ops none [gm 13 5,gm 4 13])
 (.ret))
 (.skip))))
 (.seq (.seq (.ops none [gm 14 1,⟨some 15, .call 61 [(.tmp 14)]⟩,⟨some 16, .p (.un .not (.tmp 15))⟩])
 (.cond (.tmp 16) (.seq (.ops none [⟨some 4, .p (.mv (ci (2)))⟩])
 (.ret))
 (.skip)))
 (.seq (.ops none [⟨some 4, .p (.mv (ci (0)))⟩])
 (.ret)))))
theorem k18 : compFn Tryz.prog 18 [[], [], [], [], [], [], [], [], [], [], [], []] = some (17, c18, [.tmp 4]) := by kernel_rfl
def T18 (l0 s1 : Value) (h : Heap) : Prop :=
 OP (iLenS s1) fun x7 =>
 OP (iBin .gtr x7 (.int .i64 (200))) fun x8 =>
 IfP x8
 (K (.int .i64 (3)) h)
 (CallP P 30 [l0] h fun x10 h_1 =>
 OP (iBin .neq x10 (.int .i64 (0))) fun x12 =>
 IfP x12
 (K x10 h_1)
 (CallP P 61 [s1] h_1 fun x15 h_2 =>
 OP (iUn .not x15) fun x16 =>
 IfP x16
 (K (.int .i64 (2)) h_2)
 (K (.int .i64 (0)) h_2)))
theorem e18 (l0 s1 : Value) (h : Heap) : iwpP P c18 (bodyP [.tmp 4] K) (frame0 [l0, s1]) h = T18 P K l0 s1 h := by kernel_rfl
theorem f18 {K : VK} {l0 s1 : Value} {h : Heap} (H : T18 Tryz.prog K l0 s1 h) : CallP Tryz.prog 18 [l0, s1] h K :=
 callP_intro k18 (Nat.le_of_ble_eq_true rfl) ((e18 Tryz.prog K l0 s1 h).mpr H)
/-! F19: pommel/pommelref08.Readings -/
noncomputable def c19z21 : ICode := .ops none [gm 22 8,⟨some 23, .p (.bin .add (.tmp 22) (ci (1)))⟩,gm 8 23]
noncomputable def c19z15 : ICode := .seq (.seq (.ops none [gm 18 8,gm 19 0,⟨some 20, .p (.lenSl (.tmp 19))⟩,⟨some 21, .p (.bin .lss (.tmp 18) (.tmp 20))⟩])
 (.cond (.tmp 21) (.skip)
 (.exit 2)))
 (.seq (.block 3 (.seq (.dops [(none, [gd 24 0 0,gd 25 8 0,⟨some 26, .p (.adrSl 1 (.tmp 24) (.tmp 25)), 3⟩,⟨some 27, .l (.load false 1 (.tmp 26)), 7⟩,⟨some 28, .p (.lenS (.tmp 27)), 15⟩,gd 29 6 0,⟨some 30, .p (.bin .leq (.tmp 28) (.tmp 29)), 63⟩,gd 31 30 127]),
 ((some (31, true)), [gd 32 1 255,gd 33 6 255,gd 34 0 255,gd 35 8 255,⟨some 36, .p (.adrSl 1 (.tmp 34) (.tmp 35)), 3327⟩,⟨some 37, .l (.load false 1 (.tmp 36)), 7423⟩,⟨some 38, .p (.lenS (.tmp 37)), 15615⟩,⟨some 39, .p (.bin .sub (.tmp 33) (.tmp 38)), 32511⟩,gd 40 6 255,⟨some 41, .p (.slS (.tmp 32) (some (.tmp 39)) (some (.tmp 40))), 131071⟩,gd 42 0 255,gd 43 8 255,⟨some 44, .p (.adrSl 1 (.tmp 42) (.tmp 43)), 786687⟩,⟨some 45, .l (.load false 1 (.tmp 44)), 1835263⟩,⟨some 46, .p (.bin .eql (.tmp 41) (.tmp 45)), 4194303⟩]),
 (none, [⟨some 47, .p (.pick (.tmp 31) (.tmp 46) (.const (.bool false))), 8388607⟩])])
 (.cond (.tmp 47) (.dops [(none, [⟨some 48, .l (.load true 2 (.tmp 7)), 0⟩,gd 49 5 0,gd 50 6 0,gd 51 0 0,gd 52 8 0,⟨some 53, .p (.adrSl 1 (.tmp 51) (.tmp 52)), 24⟩,⟨some 54, .l (.load false 1 (.tmp 53)), 56⟩,⟨some 55, .p (.lenS (.tmp 54)), 120⟩,⟨some 56, .p (.bin .sub (.tmp 50) (.tmp 55)), 252⟩,⟨some 57, .p (.adrSl 2 (.tmp 49) (.tmp 56)), 510⟩,⟨some 58, .l (.load true 2 (.tmp 57)), 1022⟩,⟨some 59, .call 62 [(.tmp 48), (.tmp 58)], 2047⟩,
 ⟨none, .e (.store 2 (.tmp 7) (.tmp 59)), 4095⟩])])
 (.skip))))
 (.cut [0, 1, 5, 6, 7, 8] c19z21))
noncomputable def c19z22 : ICode := .ops none [gm 60 5,⟨some 61, .l (.load true 2 (.tmp 7))⟩,⟨some 62, .e (.mkSl 36 1 [(.bool false), (.slice none 0 0)] [(0, 2, (.tmp 61))])⟩,⟨some 63, .e (.app 36 2 32 (.tmp 60) (.tmp 62))⟩,gm 5 63]
noncomputable def c19z12 : ICode := .cut [0, 1, 5, 6, 7] c19z22
noncomputable def c19z23 : ICode := .ops none [gm 15 6,⟨some 16, .p (.bin .add (.tmp 15) (ci (1)))⟩,gm 6 16]
noncomputable def c19z9 : ICode := .cut [0, 1, 5, 6] c19z23
noncomputable def c19z6 : ICode := .seq (.seq (.ops none [gm 11 6,gm 12 1,⟨some 13, .p (.lenS (.tmp 12))⟩,⟨some 14, .p (.bin .leq (.tmp 11) (.tmp 13))⟩])
 (.cond (.tmp 14) (.skip)
 (.exit 0)))
 (.seq (.block 1 (.seq (.ops none [⟨some 17, .call 22 [(ci (0))]⟩,⟨some 7, .e (.alloc 36 [(.bool false), (.slice none 0 0)])⟩,
 ⟨none, .e (.store 2 (.tmp 7) (.tmp 17))⟩])
 (.seq (.seq (.ops none [⟨some 8, .p (.mv (ci (0)))⟩])
 (.block 2 (.loop [0, 1, 5, 6, 7] [8] c19z15))) c19z12))) c19z9)
noncomputable def c19z24 : ICode := .seq (.ops none [gm 64 5,gm 4 64])
 (.ret)
noncomputable def c19z3 : ICode := .cut [5] c19z24
noncomputable def c19 : ICode := .seq (.ops none [⟨some 4, .p (.mv (.const (.slice none 0 0)))⟩])
 (.seq (.ops none [⟨some 9, .call 22 [(ci (1))]⟩,⟨some 10, .e (.mkSl 36 1 [(.bool false), (.slice none 0 0)] [(0, 2, (.tmp 9))])⟩,gm 5 10])
 (.seq (.seq (.ops none [⟨some 6, .p (.mv (ci (1)))⟩])
 (.block 0 (.loop [0, 1] [5, 6] c19z6))) c19z3))
theorem k19 : compFn Tryz.prog 19 [[], [], [], [0, 1], [5, 6], [], [], [], [], [0, 1, 5, 6, 7], [8], [], [], [], [0, 1, 5, 6, 7, 8], [0, 1, 5, 6, 7], [0, 1, 5, 6], [5], []] = some (65, c19, [.tmp 4]) := by kernel_rfl
def K19z0 (_P : Program) (K : VK) : Kont := bodyP [.tmp 4] K
def K19z3 : Kont := thenK (iwpP P c19z3 (K19z0 P K)) (K19z0 P K)
def K19z5 : Kont := inBlockK 0 (K19z3 P K)
def K19z6 (l0 s1 : Value) (L1 : LK) : Kont := thenK (fun f' h'' => (([0, 1] : List Nat).map f' : List Value) = [l0, s1] ∧ L1 (([5, 6] : List Nat).map f') h'') (K19z5 P K)
def K19z9 (l0 s1 : Value) (L1 : LK) : Kont := thenK (iwpP P c19z9 (K19z6 P K l0 s1 L1)) (K19z6 P K l0 s1 L1)
def K19z10 (l0 s1 : Value) (L1 : LK) : Kont := inBlockK 1 (K19z9 P K l0 s1 L1)
def K19z12 (l0 s1 : Value) (L1 : LK) : Kont := thenK (iwpP P c19z12 (K19z10 P K l0 s1 L1)) (K19z10 P K l0 s1 L1)
def K19z14 (l0 s1 : Value) (L1 : LK) : Kont := inBlockK 2 (K19z12 P K l0 s1 L1)
def K19z15 (l0 s1 out5 n6 sum7 : Value) (L1 L2 : LK) : Kont := thenK (fun f' h'' => (([0, 1, 5, 6, 7] : List Nat).map f' : List Value) = [l0, s1, out5, n6, sum7] ∧ L2 (([8] : List Nat).map f') h'') (K19z14 P K l0 s1 L1)
def p19z6 (l0 s1 : Value) (L1 : LK) (xs : List Value) (h : Heap) : Prop := CutP (iwpP P c19z6 (K19z6 P K l0 s1 L1)) ([0, 1] ++ [5, 6]) ([l0, s1] ++ xs) h
def p19z15 (l0 s1 out5 n6 sum7 : Value) (L1 L2 : LK) (xs : List Value) (h : Heap) : Prop := CutP (iwpP P c19z15 (K19z15 P K l0 s1 out5 n6 sum7 L1 L2)) ([0, 1, 5, 6, 7] ++ [8]) ([l0, s1, out5, n6, sum7] ++ xs) h
def p19z21 (l0 s1 out5 n6 sum7 i8 : Value) (L1 L2 : LK) (h : Heap) : Prop := CutP (iwpP P c19z21 (K19z15 P K l0 s1 out5 n6 sum7 L1 L2)) [0, 1, 5, 6, 7, 8] [l0, s1, out5, n6, sum7, i8] h
def p19z22 (l0 s1 out5 n6 sum7 : Value) (L1 : LK) (h : Heap) : Prop := CutP (iwpP P c19z22 (K19z10 P K l0 s1 L1)) [0, 1, 5, 6, 7] [l0, s1, out5, n6, sum7] h
def p19z23 (l0 s1 out5 n6 : Value) (L1 : LK) (h : Heap) : Prop := CutP (iwpP P c19z23 (K19z6 P K l0 s1 L1)) [0, 1, 5, 6] [l0, s1, out5, n6] h
def p19z24 (out5 : Value) (h : Heap) : Prop := CutP (iwpP P c19z24 (K19z0 P K)) [5] [out5] h
theorem q19z21 (l0 s1 out5 n6 sum7 i8 : Value) (L1 L2 : LK) (h : Heap) : p19z21 P K l0 s1 out5 n6 sum7 i8 L1 L2 h =
 (OP (iBin .add i8 (.int .i64 (1))) fun x23 =>
 ([l0, s1, out5, n6, sum7] : List Value) = [l0, s1, out5, n6, sum7] ∧ L2 [x23] h) := (CutP_def _ _ _ _).trans (by kernel_rfl)
theorem q19z15 (l0 s1 out5 n6 sum7 : Value) (L1 L2 : LK) (i8 : Value) (h : Heap) : p19z15 P K l0 s1 out5 n6 sum7 L1 L2 [i8] h =
 (OP (iLenSl l0) fun x20 =>
 OP (iBin .lss i8 x20) fun x21 =>
 IfP x21
 (OP (iAdrSl 1 l0 i8) fun x26 =>
 OP (iLoad false 1 h x26) fun x27 =>
 (True) ∧
 OP (iLenS x27) fun x28 =>
 OP (iBin .leq x28 n6) fun x30 =>
 GdP x30 true
 (OP (iAdrSl 1 l0 i8) fun x36 =>
 OP (iLoad false 1 h x36) fun x37 =>
 (True) ∧
 OP (iLenS x37) fun x38 =>
 OP (iBin .sub n6 x38) fun x39 =>
 OP (iSlS s1 (some x39) (some n6)) fun x41 =>
 OP (iAdrSl 1 l0 i8) fun x44 =>
 OP (iLoad false 1 h x44) fun x45 =>
 (True) ∧
 OP (iBin .eql x41 x45) fun x46 =>
 OP (iPick x30 x46 (.bool false)) fun x47 =>
 IfP x47
 (OP (iLoad true 2 h sum7) fun x48 =>
 (True) ∧
 OP (iAdrSl 1 l0 i8) fun x53 =>
 OP (iLoad false 1 h x53) fun x54 =>
 (True) ∧
 OP (iLenS x54) fun x55 =>
 OP (iBin .sub n6 x55) fun x56 =>
 OP (iAdrSl 2 out5 x56) fun x57 =>
 OP (iLoad true 2 h x57) fun x58 =>
 (True) ∧
 CallP P 62 [x48, x58] h fun x59 h_1 =>
 (True) ∧
 OH (oStore 2 h_1 sum7 x59) fun _ h_2 =>
 (True) ∧
 p19z21 P K l0 s1 out5 n6 sum7 i8 L1 L2 h_2)
 (p19z21 P K l0 s1 out5 n6 sum7 i8 L1 L2 h))
 (OP (iPick x30 undef (.bool false)) fun x47 =>
 IfP x47
 (OP (iLoad true 2 h sum7) fun x48 =>
 (True) ∧
 OP (iAdrSl 1 l0 i8) fun x53 =>
 OP (iLoad false 1 h x53) fun x54 =>
 (True) ∧
 OP (iLenS x54) fun x55 =>
 OP (iBin .sub n6 x55) fun x56 =>
 OP (iAdrSl 2 out5 x56) fun x57 =>
 OP (iLoad true 2 h x57) fun x58 =>
 (True) ∧
 CallP P 62 [x48, x58] h fun x59 h_1 =>
 (True) ∧
 OH (oStore 2 h_1 sum7 x59) fun _ h_2 =>
 (True) ∧
 p19z21 P K l0 s1 out5 n6 sum7 i8 L1 L2 h_2)
 (p19z21 P K l0 s1 out5 n6 sum7 i8 L1 L2 h)))
 (p19z22 P K l0 s1 out5 n6 sum7 L1 h)) := (CutP_def _ _ _ _).trans (by kernel_rfl)
theorem q19z22 (l0 s1 out5 n6 sum7 : Value) (L1 : LK) (h : Heap) : p19z22 P K l0 s1 out5 n6 sum7 L1 h =
 (OP (iLoad true 2 h sum7) fun x61 =>
 OH (iMkSl 36 1 [(.bool false), (.slice none 0 0)] h [(0, 2, x61)]) fun x62 h_1 =>
 OH (iApp 36 2 32 h_1 out5 x62) fun x63 h_2 =>
 p19z23 P K l0 s1 x63 n6 L1 h_2) := (CutP_def _ _ _ _).trans (by kernel_rfl)
theorem q19z23 (l0 s1 out5 n6 : Value) (L1 : LK) (h : Heap) : p19z23 P K l0 s1 out5 n6 L1 h =
 (OP (iBin .add n6 (.int .i64 (1))) fun x16 =>
 ([l0, s1] : List Value) = [l0, s1] ∧ L1 [out5, x16] h) := (CutP_def _ _ _ _).trans (by kernel_rfl)
theorem q19z6 (l0 s1 : Value) (L1 : LK) (out5 n6 : Value) (h : Heap) : p19z6 P K l0 s1 L1 [out5, n6] h =
 (OP (iLenS s1) fun x13 =>
 OP (iBin .leq n6 x13) fun x14 =>
 IfP x14
 (CallP P 22 [(.int .i64 (0))] h fun x17 h_1 =>
 OH (iAlloc 36 [(.bool false), (.slice none 0 0)] h_1) fun sum7 h_2 =>
 OH (oStore 2 h_2 sum7 x17) fun _ h_3 =>
 LoopP [(.int .i64 (0))] h_3 fun L2 xs hx =>
 p19z15 P K l0 s1 out5 n6 sum7 L1 L2 xs hx)
 (p19z24 P K out5 h)) := (CutP_def _ _ _ _).trans (by kernel_rfl)
theorem q19z24 (out5 : Value) (h : Heap) : p19z24 P K out5 h =
 (K out5 h) := (CutP_def _ _ _ _).trans (by kernel_rfl)
def T19 (l0 s1 : Value) (h : Heap) : Prop :=
 CallP P 22 [(.int .i64 (1))] h fun x9 h_1 =>
 OH (iMkSl 36 1 [(.bool false), (.slice none 0 0)] h_1 [(0, 2, x9)]) fun x10 h_2 =>
 LoopP [x10, (.int .i64 (1))] h_2 fun L1 xs hx =>
 p19z6 P K l0 s1 L1 xs hx
theorem e19 (l0 s1 : Value) (h : Heap) : iwpP P c19 (bodyP [.tmp 4] K) (frame0 [l0, s1]) h = T19 P K l0 s1 h := by kernel_rfl
theorem f19 {K : VK} {l0 s1 : Value} {h : Heap} (H : T19 Tryz.prog K l0 s1 h) : CallP Tryz.prog 19 [l0, s1] h K :=
 callP_intro k19 (Nat.le_of_ble_eq_true rfl) ((e19 Tryz.prog K l0 s1 h).mpr H)
/-! F20: pommel/pommelref08.Read -/
noncomputable def c20z14 : ICode := .seq (.seq (.ops none [gm 27 8,gm 28 0,⟨some 29, .p (.lenSl (.tmp 28))⟩,⟨some 30, .p (.bin .lss (.tmp 27) (.tmp 29))⟩])
 (.cond (.tmp 30) (.skip)
 (.exit 2)))
 (.seq (.block 3 (.dops [(none, [gd 33 6 0,gd 34 7 0,gd 35 6 0,gd 36 7 0,⟨some 37, .p (.adrSl 1 (.tmp 35) (.tmp 36)), 12⟩,⟨some 38, .l (.load false 1 (.tmp 37)), 28⟩,gd 39 38 60]),
 ((some (39, false)), [gd 40 0 124,gd 41 8 124,⟨some 42, .p (.adrSl 1 (.tmp 40) (.tmp 41)), 508⟩,⟨some 43, .l (.load false 1 (.tmp 42)), 1020⟩,gd 44 1 124,gd 45 7 124,⟨some 46, .p (.slS (.tmp 44) (some (.tmp 45)) none), 6268⟩,⟨some 47, .call 63 [(.tmp 43), (.tmp 46)], 16380⟩,gd 48 47 32764]),
 ((some (48, true)), [gd 49 6 65532,gd 50 7 65532,gd 51 0 65532,gd 52 8 65532,⟨some 53, .p (.adrSl 1 (.tmp 51) (.tmp 52)), 851964⟩,⟨some 54, .l (.load false 1 (.tmp 53)), 1900540⟩,⟨some 55, .p (.lenS (.tmp 54)), 3997692⟩,⟨some 56, .p (.bin .add (.tmp 50) (.tmp 55)), 8323068⟩,⟨some 57, .p (.adrSl 1 (.tmp 49) (.tmp 56)), 16777212⟩,⟨some 58, .l (.load false 1 (.tmp 57)), 33554428⟩]),
 ((some (39, false)), [⟨some 59, .p (.pick (.tmp 48) (.tmp 58) (.const (.bool false))), 67108860⟩]),
 (none, [⟨some 60, .p (.pick (.tmp 39) (.const (.bool true)) (.tmp 59)), 134217724⟩,⟨some 61, .p (.adrSl 1 (.tmp 33) (.tmp 34)), 268435455⟩,
 ⟨none, .e (.store 1 (.tmp 61) (.tmp 60)), 536870911⟩])]))
 (.ops none [gm 31 8,⟨some 32, .p (.bin .add (.tmp 31) (ci (1)))⟩,gm 8 32]))
noncomputable def c20z19 : ICode := .ops none [gm 25 7,⟨some 26, .p (.bin .sub (.tmp 25) (ci (1)))⟩,gm 7 26]
noncomputable def c20z10 : ICode := .cut [0, 1, 6, 7] c20z19
noncomputable def c20z7 : ICode := .seq (.seq (.ops none [gm 23 7,⟨some 24, .p (.bin .geq (.tmp 23) (ci (0)))⟩])
 (.cond (.tmp 24) (.skip)
 (.exit 0)))
 (.seq (.block 1 (.seq (.ops none [⟨some 8, .p (.mv (ci (0)))⟩])
 (.block 2 (.loop [0, 1, 6, 7] [8] c20z14)))) c20z10)
noncomputable def c20z34 : ICode := .seq (.seq (.ops none [gm 71 11,gm 72 0,⟨some 73, .p (.lenSl (.tmp 72))⟩,⟨some 74, .p (.bin .lss (.tmp 71) (.tmp 73))⟩])
 (.cond (.tmp 74) (.skip)
 (.exit 6)))
 (.seq (.block 7 (.seq (.dops [(none, [gd 77 0 0,gd 78 11 0,⟨some 79, .p (.adrSl 1 (.tmp 77) (.tmp 78)), 3⟩,⟨some 80, .l (.load false 1 (.tmp 79)), 7⟩,gd 81 1 0,gd 82 10 0,⟨some 83, .p (.slS (.tmp 81) (some (.tmp 82)) none), 48⟩,⟨some 84, .call 63 [(.tmp 80), (.tmp 83)], 127⟩,gd 85 84 255]),
 ((some (85, true)), [gd 86 6 511,gd 87 10 511,gd 88 0 511,gd 89 11 511,⟨some 90, .p (.adrSl 1 (.tmp 88) (.tmp 89)), 6655⟩,⟨some 91, .l (.load false 1 (.tmp 90)), 14847⟩,⟨some 92, .p (.lenS (.tmp 91)), 31231⟩,⟨some 93, .p (.bin .add (.tmp 87) (.tmp 92)), 65023⟩,⟨some 94, .p (.adrSl 1 (.tmp 86) (.tmp 93)), 131071⟩,⟨some 95, .l (.load false 1 (.tmp 94)), 262143⟩]),
 (none, [⟨some 96, .p (.pick (.tmp 85) (.tmp 95) (.const (.bool false))), 524287⟩])])
 (.cond (.tmp 96) (.seq (.dops [(none, [gd 97 9 0,gd 98 11 0,⟨some 99, .e (.mkSl 3 1 [(.int .i64 (0))] [(0, 1, (.tmp 98))]), 2⟩,⟨some 100, .e (.app 3 1 8 (.tmp 97) (.tmp 99)), 7⟩,gd 101 10 0,gd 102 0 0,gd 103 11 0,⟨some 104, .p (.adrSl 1 (.tmp 102) (.tmp 103)), 96⟩,⟨some 105, .l (.load false 1 (.tmp 104)), 224⟩,⟨some 106, .p (.lenS (.tmp 105)), 480⟩,⟨some 107, .p (.bin .add (.tmp 101) (.tmp 106)), 1008⟩,gd 9 100 15,gd 10 107 4095])])
 (.exit 6))
 (.skip))))
 (.ops none [gm 75 11,⟨some 76, .p (.bin .add (.tmp 75) (ci (1)))⟩,gm 11 76]))
noncomputable def c20z28 : ICode := .seq (.seq (.ops none [gm 67 10,gm 68 1,⟨some 69, .p (.lenS (.tmp 68))⟩,⟨some 70, .p (.bin .lss (.tmp 67) (.tmp 69))⟩])
 (.cond (.tmp 70) (.skip)
 (.exit 4)))
 (.block 5 (.seq (.ops none [⟨some 11, .p (.mv (ci (0)))⟩])
 (.block 6 (.loop [0, 1, 6] [9, 10, 11] c20z34))))
noncomputable def c20z41 : ICode := .seq (.ops none [gm 108 9,gm 4 108,⟨some 5, .p (.mv (.const (.bool true)))⟩])
 (.ret)
noncomputable def c20z25 : ICode := .cut [9] c20z41
noncomputable def c20z20 : ICode := .seq (.seq (.ops none [gm 62 6,⟨some 63, .p (.adrSl 1 (.tmp 62) (ci (0)))⟩,⟨some 64, .l (.load false 1 (.tmp 63))⟩,⟨some 65, .p (.un .not (.tmp 64))⟩])
 (.cond (.tmp 65) (.seq (.ops none [⟨some 4, .p (.mv (.const (.slice none 0 0)))⟩,⟨some 5, .p (.mv (.const (.bool false)))⟩])
 (.ret))
 (.skip)))
 (.seq (.ops none [⟨some 66, .e (.mkSl 3 0 [(.int .i64 (0))] [])⟩,gm 9 66])
 (.seq (.seq (.ops none [⟨some 10, .p (.mv (ci (0)))⟩])
 (.block 4 (.loop [0, 1, 6] [9, 10] c20z28))) c20z25))
noncomputable def c20z4 : ICode := .cut [0, 1, 6] c20z20
noncomputable def c20 : ICode := .seq (.ops none [⟨some 4, .p (.mv (.const (.slice none 0 0)))⟩,⟨some 5, .p (.mv (.const (.bool false)))⟩])
 (.seq (.ops none [gm 12 1,⟨some 13, .p (.lenS (.tmp 12))⟩,⟨some 14, .p (.bin .add (.tmp 13) (ci (1)))⟩,⟨some 15, .e (.make 4 1 [(.bool false)] (.tmp 14) (.tmp 14))⟩,gm 6 15])
 (.seq (.ops none [gm 16 6,gm 17 1,⟨some 18, .p (.lenS (.tmp 17))⟩,⟨some 19, .p (.adrSl 1 (.tmp 16) (.tmp 18))⟩,
 ⟨none, .e (.store 1 (.tmp 19) (.const (.bool true)))⟩])
 (.seq (.seq (.ops none [gm 20 1,⟨some 21, .p (.lenS (.tmp 20))⟩,⟨some 22, .p (.bin .sub (.tmp 21) (ci (1)))⟩,gm 7 22])
 (.block 0 (.loop [0, 1, 6] [7] c20z7))) c20z4)))
theorem k20 : compFn Tryz.prog 20 [[], [], [], [], [0, 1, 6], [7], [], [], [], [0, 1, 6, 7], [8], [], [], [], [0, 1, 6, 7], [0, 1, 6], [], [], [], [], [], [0, 1, 6], [9, 10], [], [], [], [0, 1, 6], [9, 10, 11], [], [], [], [], [], [9], []] = some (109, c20, [.tmp 4, .tmp 5]) := by kernel_rfl
def K20z0 (_P : Program) (K : VK) : Kont := bodyP [.tmp 4, .tmp 5] K
def K20z4 : Kont := thenK (iwpP P c20z4 (K20z0 P K)) (K20z0 P K)
def K20z6 : Kont := inBlockK 0 (K20z4 P K)
def K20z7 (l0 s1 can6 : Value) (L1 : LK) : Kont := thenK (fun f' h'' => (([0, 1, 6] : List Nat).map f' : List Value) = [l0, s1, can6] ∧ L1 (([7] : List Nat).map f') h'') (K20z6 P K)
def K20z10 (l0 s1 can6 : Value) (L1 : LK) : Kont := thenK (iwpP P c20z10 (K20z7 P K l0 s1 can6 L1)) (K20z7 P K l0 s1 can6 L1)
def K20z11 (l0 s1 can6 : Value) (L1 : LK) : Kont := inBlockK 1 (K20z10 P K l0 s1 can6 L1)
def K20z13 (l0 s1 can6 : Value) (L1 : LK) : Kont := inBlockK 2 (K20z11 P K l0 s1 can6 L1)
def K20z14 (l0 s1 can6 at7 : Value) (L1 L2 : LK) : Kont := thenK (fun f' h'' => (([0, 1, 6, 7] : List Nat).map f' : List Value) = [l0, s1, can6, at7] ∧ L2 (([8] : List Nat).map f') h'') (K20z13 P K l0 s1 can6 L1)
def K20z25 : Kont := thenK (iwpP P c20z25 (K20z0 P K)) (K20z0 P K)
def K20z27 : Kont := inBlockK 4 (K20z25 P K)
def K20z28 (l0 s1 can6 : Value) (L1 : LK) : Kont := thenK (fun f' h'' => (([0, 1, 6] : List Nat).map f' : List Value) = [l0, s1, can6] ∧ L1 (([9, 10] : List Nat).map f') h'') (K20z27 P K)
def K20z31 (l0 s1 can6 : Value) (L1 : LK) : Kont := inBlockK 5 (K20z28 P K l0 s1 can6 L1)
def K20z33 (l0 s1 can6 : Value) (L1 : LK) : Kont := inBlockK 6 (K20z31 P K l0 s1 can6 L1)
def K20z34 (l0 s1 can6 : Value) (L1 L2 : LK) : Kont := thenK (fun f' h'' => (([0, 1, 6] : List Nat).map f' : List Value) = [l0, s1, can6] ∧ L2 (([9, 10, 11] : List Nat).map f') h'') (K20z33 P K l0 s1 can6 L1)
def p20z7 (l0 s1 can6 : Value) (L1 : LK) (xs : List Value) (h : Heap) : Prop := CutP (iwpP P c20z7 (K20z7 P K l0 s1 can6 L1)) ([0, 1, 6] ++ [7]) ([l0, s1, can6] ++ xs) h
def p20z14 (l0 s1 can6 at7 : Value) (L1 L2 : LK) (xs : List Value) (h : Heap) : Prop := CutP (iwpP P c20z14 (K20z14 P K l0 s1 can6 at7 L1 L2)) ([0, 1, 6, 7] ++ [8]) ([l0, s1, can6, at7] ++ xs) h
def p20z19 (l0 s1 can6 at7 : Value) (L1 : LK) (h : Heap) : Prop := CutP (iwpP P c20z19 (K20z7 P K l0 s1 can6 L1)) [0, 1, 6, 7] [l0, s1, can6, at7] h
def p20z20 (l0 s1 can6 : Value) (h : Heap) : Prop := CutP (iwpP P c20z20 (K20z0 P K)) [0, 1, 6] [l0, s1, can6] h
def p20z28 (l0 s1 can6 : Value) (L1 : LK) (xs : List Value) (h : Heap) : Prop := CutP (iwpP P c20z28 (K20z28 P K l0 s1 can6 L1)) ([0, 1, 6] ++ [9, 10]) ([l0, s1, can6] ++ xs) h
def p20z34 (l0 s1 can6 : Value) (L1 L2 : LK) (xs : List Value) (h : Heap) : Prop := CutP (iwpP P c20z34 (K20z34 P K l0 s1 can6 L1 L2)) ([0, 1, 6] ++ [9, 10, 11]) ([l0, s1, can6] ++ xs) h
def p20z41 (out9 : Value) (h : Heap) : Prop := CutP (iwpP P c20z41 (K20z0 P K)) [9] [out9] h
theorem q20z14 (l0 s1 can6 at7 : Value) (L1 L2 : LK) (i8 : Value) (h : Heap) : p20z14 P K l0 s1 can6 at7 L1 L2 [i8] h =
 (OP (iLenSl l0) fun x29 =>
 OP (iBin .lss i8 x29) fun x30 =>
 IfP x30
 (OP (iAdrSl 1 can6 at7) fun x37 =>
 OP (iLoad false 1 h x37) fun x38 =>
 (True) ∧
 GdP x38 false
 (OP (iAdrSl 1 l0 i8) fun x42 =>
 OP (iLoad false 1 h x42) fun x43 =>
 (True) ∧
 OP (iSlS s1 (some at7) none) fun x46 =>
 CallP P 63 [x43, x46] h fun x47 h_1 =>
 (True) ∧
 GdP x47 true
 (OP (iAdrSl 1 l0 i8) fun x53 =>
 OP (iLoad false 1 h_1 x53) fun x54 =>
 (True) ∧
 OP (iLenS x54) fun x55 =>
 OP (iBin .add at7 x55) fun x56 =>
 OP (iAdrSl 1 can6 x56) fun x57 =>
 OP (iLoad false 1 h_1 x57) fun x58 =>
 (True) ∧
 GdP x38 false
 (OP (iPick x47 x58 (.bool false)) fun x59 =>
 OP (iPick x38 (.bool true) x59) fun x60 =>
 OP (iAdrSl 1 can6 at7) fun x61 =>
 OH (oStore 1 h_1 x61 x60) fun _ h_2 =>
 (True) ∧
 OP (iBin .add i8 (.int .i64 (1))) fun x32 =>
 ([l0, s1, can6, at7] : List Value) = [l0, s1, can6, at7] ∧ L2 [x32] h_2)
 (OP (iPick x38 (.bool true) undef) fun x60 =>
 OP (iAdrSl 1 can6 at7) fun x61 =>
 OH (oStore 1 h_1 x61 x60) fun _ h_2 =>
 (True) ∧
 OP (iBin .add i8 (.int .i64 (1))) fun x32 =>
 ([l0, s1, can6, at7] : List Value) = [l0, s1, can6, at7] ∧ L2 [x32] h_2))
 (GdP x38 false
 (OP (iPick x47 undef (.bool false)) fun x59 =>
 OP (iPick x38 (.bool true) x59) fun x60 =>
 OP (iAdrSl 1 can6 at7) fun x61 =>
 OH (oStore 1 h_1 x61 x60) fun _ h_2 =>
 (True) ∧
 OP (iBin .add i8 (.int .i64 (1))) fun x32 =>
 ([l0, s1, can6, at7] : List Value) = [l0, s1, can6, at7] ∧ L2 [x32] h_2)
 (OP (iPick x38 (.bool true) undef) fun x60 =>
 OP (iAdrSl 1 can6 at7) fun x61 =>
 OH (oStore 1 h_1 x61 x60) fun _ h_2 =>
 (True) ∧
 OP (iBin .add i8 (.int .i64 (1))) fun x32 =>
 ([l0, s1, can6, at7] : List Value) = [l0, s1, can6, at7] ∧ L2 [x32] h_2)))
 ((True) ∧
 GdP undef true
 (OP (iAdrSl 1 l0 i8) fun x53 =>
 OP (iLoad false 1 h x53) fun x54 =>
 (True) ∧
 OP (iLenS x54) fun x55 =>
 OP (iBin .add at7 x55) fun x56 =>
 OP (iAdrSl 1 can6 x56) fun x57 =>
 OP (iLoad false 1 h x57) fun x58 =>
 (True) ∧
 GdP x38 false
 (OP (iPick undef x58 (.bool false)) fun x59 =>
 OP (iPick x38 (.bool true) x59) fun x60 =>
 OP (iAdrSl 1 can6 at7) fun x61 =>
 OH (oStore 1 h x61 x60) fun _ h_1 =>
 (True) ∧
 OP (iBin .add i8 (.int .i64 (1))) fun x32 =>
 ([l0, s1, can6, at7] : List Value) = [l0, s1, can6, at7] ∧ L2 [x32] h_1)
 (OP (iPick x38 (.bool true) undef) fun x60 =>
 OP (iAdrSl 1 can6 at7) fun x61 =>
 OH (oStore 1 h x61 x60) fun _ h_1 =>
 (True) ∧
 OP (iBin .add i8 (.int .i64 (1))) fun x32 =>
 ([l0, s1, can6, at7] : List Value) = [l0, s1, can6, at7] ∧ L2 [x32] h_1))
 (GdP x38 false
 (OP (iPick undef undef (.bool false)) fun x59 =>
 OP (iPick x38 (.bool true) x59) fun x60 =>
 OP (iAdrSl 1 can6 at7) fun x61 =>
 OH (oStore 1 h x61 x60) fun _ h_1 =>
 (True) ∧
 OP (iBin .add i8 (.int .i64 (1))) fun x32 =>
 ([l0, s1, can6, at7] : List Value) = [l0, s1, can6, at7] ∧ L2 [x32] h_1)
 (OP (iPick x38 (.bool true) undef) fun x60 =>
 OP (iAdrSl 1 can6 at7) fun x61 =>
 OH (oStore 1 h x61 x60) fun _ h_1 =>
 (True) ∧
 OP (iBin .add i8 (.int .i64 (1))) fun x32 =>
 ([l0, s1, can6, at7] : List Value) = [l0, s1, can6, at7] ∧ L2 [x32] h_1))))
 (p20z19 P K l0 s1 can6 at7 L1 h)) := (CutP_def _ _ _ _).trans (by kernel_rfl)
theorem q20z19 (l0 s1 can6 at7 : Value) (L1 : LK) (h : Heap) : p20z19 P K l0 s1 can6 at7 L1 h =
 (OP (iBin .sub at7 (.int .i64 (1))) fun x26 =>
 ([l0, s1, can6] : List Value) = [l0, s1, can6] ∧ L1 [x26] h) := (CutP_def _ _ _ _).trans (by kernel_rfl)
theorem q20z7 (l0 s1 can6 : Value) (L1 : LK) (at7 : Value) (h : Heap) : p20z7 P K l0 s1 can6 L1 [at7] h =
 (OP (iBin .geq at7 (.int .i64 (0))) fun x24 =>
 IfP x24
 (LoopP [(.int .i64 (0))] h fun L2 xs hx =>
 p20z14 P K l0 s1 can6 at7 L1 L2 xs hx)
 (p20z20 P K l0 s1 can6 h)) := (CutP_def _ _ _ _).trans (by kernel_rfl)
theorem q20z34 (l0 s1 can6 : Value) (L1 L2 : LK) (out9 at10 i11 : Value) (h : Heap) : p20z34 P K l0 s1 can6 L1 L2 [out9, at10, i11] h =
 (OP (iLenSl l0) fun x73 =>
 OP (iBin .lss i11 x73) fun x74 =>
 IfP x74
 (OP (iAdrSl 1 l0 i11) fun x79 =>
 OP (iLoad false 1 h x79) fun x80 =>
 (True) ∧
 OP (iSlS s1 (some at10) none) fun x83 =>
 CallP P 63 [x80, x83] h fun x84 h_1 =>
 (True) ∧
 GdP x84 true
 (OP (iAdrSl 1 l0 i11) fun x90 =>
 OP (iLoad false 1 h_1 x90) fun x91 =>
 (True) ∧
 OP (iLenS x91) fun x92 =>
 OP (iBin .add at10 x92) fun x93 =>
 OP (iAdrSl 1 can6 x93) fun x94 =>
 OP (iLoad false 1 h_1 x94) fun x95 =>
 (True) ∧
 OP (iPick x84 x95 (.bool false)) fun x96 =>
 IfP x96
 (OH (iMkSl 3 1 [(.int .i64 (0))] h_1 [(0, 1, i11)]) fun x99 h_2 =>
 (True) ∧
 OH (iApp 3 1 8 h_2 out9 x99) fun x100 h_3 =>
 (True) ∧
 OP (iAdrSl 1 l0 i11) fun x104 =>
 OP (iLoad false 1 h_3 x104) fun x105 =>
 (iLoad false 1 h_1 x104 = some x105 ∧ iLoad false 1 h_2 x104 = some x105 ∧ True) ∧
 OP (iLenS x105) fun x106 =>
 OP (iBin .add at10 x106) fun x107 =>
 ([l0, s1, can6] : List Value) = [l0, s1, can6] ∧ L1 [x100, x107] h_3)
 (OP (iBin .add i11 (.int .i64 (1))) fun x76 =>
 ([l0, s1, can6] : List Value) = [l0, s1, can6] ∧ L2 [out9, at10, x76] h_1))
 (OP (iPick x84 undef (.bool false)) fun x96 =>
 IfP x96
 (OH (iMkSl 3 1 [(.int .i64 (0))] h_1 [(0, 1, i11)]) fun x99 h_2 =>
 (True) ∧
 OH (iApp 3 1 8 h_2 out9 x99) fun x100 h_3 =>
 (True) ∧
 OP (iAdrSl 1 l0 i11) fun x104 =>
 OP (iLoad false 1 h_3 x104) fun x105 =>
 (iLoad false 1 h_1 x104 = some x105 ∧ iLoad false 1 h_2 x104 = some x105 ∧ True) ∧
 OP (iLenS x105) fun x106 =>
 OP (iBin .add at10 x106) fun x107 =>
 ([l0, s1, can6] : List Value) = [l0, s1, can6] ∧ L1 [x100, x107] h_3)
 (OP (iBin .add i11 (.int .i64 (1))) fun x76 =>
 ([l0, s1, can6] : List Value) = [l0, s1, can6] ∧ L2 [out9, at10, x76] h_1)))
 (([l0, s1, can6] : List Value) = [l0, s1, can6] ∧ L1 [out9, at10] h)) := (CutP_def _ _ _ _).trans (by kernel_rfl)
theorem q20z28 (l0 s1 can6 : Value) (L1 : LK) (out9 at10 : Value) (h : Heap) : p20z28 P K l0 s1 can6 L1 [out9, at10] h =
 (OP (iLenS s1) fun x69 =>
 OP (iBin .lss at10 x69) fun x70 =>
 IfP x70
 (LoopP [out9, at10, (.int .i64 (0))] h fun L2 xs hx =>
 p20z34 P K l0 s1 can6 L1 L2 xs hx)
 (p20z41 P K out9 h)) := (CutP_def _ _ _ _).trans (by kernel_rfl)
theorem q20z41 (out9 : Value) (h : Heap) : p20z41 P K out9 h =
 (K (.tuple #[out9, (.bool true)]) h) := (CutP_def _ _ _ _).trans (by kernel_rfl)
theorem q20z20 (l0 s1 can6 : Value) (h : Heap) : p20z20 P K l0 s1 can6 h =
 (OP (iAdrSl 1 can6 (.int .i64 (0))) fun x63 =>
 OP (iLoad false 1 h x63) fun x64 =>
 OP (iUn .not x64) fun x65 =>
 IfP x65
 (K (.tuple #[(.slice none 0 0), (.bool false)]) h)
 (OH (iMkSl 3 0 [(.int .i64 (0))] h []) fun x66 h_1 =>
 LoopP [x66, (.int .i64 (0))] h_1 fun L1 xs hx =>
 p20z28 P K l0 s1 can6 L1 xs hx)) := (CutP_def _ _ _ _).trans (by kernel_rfl)
def T20 (l0 s1 : Value) (h : Heap) : Prop :=
 OP (iLenS s1) fun x13 =>
 OP (iBin .add x13 (.int .i64 (1))) fun x14 =>
 OH (iMake 4 1 [(.bool false)] h x14 x14) fun x15 h_1 =>
 OP (iLenS s1) fun x18 =>
 OP (iAdrSl 1 x15 x18) fun x19 =>
 OH (oStore 1 h_1 x19 (.bool true)) fun _ h_2 =>
 OP (iLenS s1) fun x21 =>
 OP (iBin .sub x21 (.int .i64 (1))) fun x22 =>
 LoopP [x22] h_2 fun L1 xs hx =>
 p20z7 P K l0 s1 x15 L1 xs hx
theorem e20 (l0 s1 : Value) (h : Heap) : iwpP P c20 (bodyP [.tmp 4, .tmp 5] K) (frame0 [l0, s1]) h = T20 P K l0 s1 h := by kernel_rfl
theorem f20 {K : VK} {l0 s1 : Value} {h : Heap} (H : T20 Tryz.prog K l0 s1 h) : CallP Tryz.prog 20 [l0, s1] h K :=
 callP_intro k20 (Nat.le_of_ble_eq_true rfl) ((e20 Tryz.prog K l0 s1 h).mpr H)
/-! F47: strings.HasSuffix -/
noncomputable def c47 : ICode := .seq (.ops none [⟨some 4, .p (.mv (.const (.bool false)))⟩])
 (.seq (.ops none [gm 5 0,gm 6 1,⟨some 7, .call 84 [(.tmp 5), (.tmp 6)]⟩,gm 4 7])
 (.ret))
theorem k47 : compFn Tryz.prog 47 [[], []] = some (8, c47, [.tmp 4]) := by kernel_rfl
def T47 (s0 suffix1 : Value) (h : Heap) : Prop :=
 CallP P 84 [s0, suffix1] h fun x7 h_1 =>
 K x7 h_1
theorem e47 (s0 suffix1 : Value) (h : Heap) : iwpP P c47 (bodyP [.tmp 4] K) (frame0 [s0, suffix1]) h = T47 P K s0 suffix1 h := by kernel_rfl
theorem f47 {K : VK} {s0 suffix1 : Value} {h : Heap} (H : T47 Tryz.prog K s0 suffix1 h) : CallP Tryz.prog 47 [s0, suffix1] h K :=
 callP_intro k47 (Nat.le_of_ble_eq_true rfl) ((e47 Tryz.prog K s0 suffix1 h).mpr H)
/-! F56: pommel/mark.Read$1 -/
noncomputable def c56z6 : ICode := .ops none [⟨some 20, .p (.pick (.tmp 12) (.tmp 19) (.const (.bool false)))⟩,gm 6 20]
noncomputable def c56z4 : ICode := .seq (.ops (some (12, true)) [⟨some 13, .l (.load false 1 (.tmp 3))⟩,gm 14 0,gm 15 1,⟨some 16, .p (.lenS (.tmp 15))⟩,⟨some 17, .p (.bin .add (.tmp 14) (.tmp 16))⟩,⟨some 18, .p (.adrSl 1 (.tmp 13) (.tmp 17))⟩,⟨some 19, .l (.load false 1 (.tmp 18))⟩])
 (.cut [12, 19] c56z6)
noncomputable def c56z2 : ICode := .ret
noncomputable def c56 : ICode := .seq (.ops none [⟨some 6, .p (.mv (.const (.bool false)))⟩])
 (.seq (.seq (.ops none [⟨some 7, .l (.load false 1 (.tmp 2))⟩,gm 8 0,⟨some 9, .p (.slS (.tmp 7) (some (.tmp 8)) none)⟩,gm 10 1,⟨some 11, .call 43 [(.tmp 9), (.tmp 10)]⟩,gm 12 11])
 (.cut [0, 1, 3, 12] c56z4)) c56z2)
theorem k56 : compFn Tryz.prog 56 [[], [0, 1, 3, 12], [12, 19], []] = some (21, c56, [.tmp 6]) := by kernel_rfl
def K56z0 (_P : Program) (K : VK) : Kont := bodyP [.tmp 6] K
def K56z2 : Kont := thenK (iwpP P c56z2 (K56z0 P K)) (K56z0 P K)
def p56z4 (i0 w1 x3 x12 : Value) (h : Heap) : Prop := CutP (iwpP P c56z4 (K56z2 P K)) [0, 1, 3, 12] [i0, w1, x3, x12] h
def p56z6 (x12 x19 : Value) (h : Heap) : Prop := CutP (iwpP P c56z6 (K56z2 P K)) [12, 19] [x12, x19] h
theorem q56z6 (x12 x19 : Value) (h : Heap) : p56z6 P K x12 x19 h =
 (OP (iPick x12 x19 (.bool false)) fun x20 =>
 K x20 h) := (CutP_def _ _ _ _).trans (by kernel_rfl)
theorem q56z4 (i0 w1 x3 x12 : Value) (h : Heap) : p56z4 P K i0 w1 x3 x12 h =
 (GdP x12 true
 (OP (iLoad false 1 h x3) fun x13 =>
 OP (iLenS w1) fun x16 =>
 OP (iBin .add i0 x16) fun x17 =>
 OP (iAdrSl 1 x13 x17) fun x18 =>
 OP (iLoad false 1 h x18) fun x19 =>
 p56z6 P K x12 x19 h)
 (p56z6 P K x12 undef h)) := (CutP_def _ _ _ _).trans (by kernel_rfl)
def T56 (i0 w1 x2 x3 : Value) (h : Heap) : Prop :=
 OP (iLoad false 1 h x2) fun x7 =>
 OP (iSlS x7 (some i0) none) fun x9 =>
 CallP P 43 [x9, w1] h fun x11 h_1 =>
 p56z4 P K i0 w1 x3 x11 h_1
theorem e56 (i0 w1 x2 x3 : Value) (h : Heap) : iwpP P c56 (bodyP [.tmp 6] K) (frame0 [i0, w1, x2, x3]) h = T56 P K i0 w1 x2 x3 h := by kernel_rfl
theorem f56 {K : VK} {i0 w1 x2 x3 : Value} {h : Heap} (H : T56 Tryz.prog K i0 w1 x2 x3 h) : CallP Tryz.prog 56 [i0, w1, x2, x3] h K :=
 callP_intro k56 (Nat.le_of_ble_eq_true rfl) ((e56 Tryz.prog K i0 w1 x2 x3 h).mpr H)
/-! F57: slices.ContainsFunc[[]string,string] -/
noncomputable def c57 : ICode := .seq (.ops none [⟨some 4, .p (.mv (.const (.bool false)))⟩])
 (.seq (.ops none [gm 5 0,gm 6 1,⟨some 7, .call 59 [(.tmp 5), (.tmp 6)]⟩,⟨some 8, .p (.bin .geq (.tmp 7) (ci (0)))⟩,gm 4 8])
 (.ret))
theorem k57 : compFn Tryz.prog 57 [[], []] = some (9, c57, [.tmp 4]) := by kernel_rfl
def T57 (s0 f1 : Value) (h : Heap) : Prop :=
 CallP P 59 [s0, f1] h fun x7 h_1 =>
 OP (iBin .geq x7 (.int .i64 (0))) fun x8 =>
 K x8 h_1
theorem e57 (s0 f1 : Value) (h : Heap) : iwpP P c57 (bodyP [.tmp 4] K) (frame0 [s0, f1]) h = T57 P K s0 f1 h := by kernel_rfl
theorem f57 {K : VK} {s0 f1 : Value} {h : Heap} (H : T57 Tryz.prog K s0 f1 h) : CallP Tryz.prog 57 [s0, f1] h K :=
 callP_intro k57 (Nat.le_of_ble_eq_true rfl) ((e57 Tryz.prog K s0 f1 h).mpr H)
/-! F58: pommel/mark.Read$2 -/
noncomputable def c58 : ICode := .seq (.ops none [⟨some 4, .p (.mv (.const (.bool false)))⟩])
 (.seq (.ops none [⟨some 5, .l (.load false 1 (.tmp 1))⟩,⟨some 6, .l (.load false 1 (.tmp 2))⟩,gm 7 0,⟨some 8, .callv (.tmp 5) [(.tmp 6), (.tmp 7)]⟩,gm 4 8])
 (.ret))
theorem k58 : compFn Tryz.prog 58 [[], []] = some (9, c58, [.tmp 4]) := by kernel_rfl
def T58 (w0 x1 x2 : Value) (h : Heap) : Prop :=
 OP (iLoad false 1 h x1) fun x5 =>
 OP (iLoad false 1 h x2) fun x6 =>
 CallVP P x5 [x6, w0] h fun x8 h_1 =>
 K x8 h_1
theorem e58 (w0 x1 x2 : Value) (h : Heap) : iwpP P c58 (bodyP [.tmp 4] K) (frame0 [w0, x1, x2]) h = T58 P K w0 x1 x2 h := by kernel_rfl
theorem f58 {K : VK} {w0 x1 x2 : Value} {h : Heap} (H : T58 Tryz.prog K w0 x1 x2 h) : CallP Tryz.prog 58 [w0, x1, x2] h K :=
 callP_intro k58 (Nat.le_of_ble_eq_true rfl) ((e58 Tryz.prog K w0 x1 x2 h).mpr H)
/-! F59: slices.IndexFunc[[]string,string] -/
noncomputable def c59z5 : ICode := .seq (.ops none [⟨some 9, .p (.bin .lss (.tmp 8) (.tmp 7))⟩])
 (.seq (.cond (.tmp 9) (.skip)
 (.exit 0))
 (.seq (.block 1 (.seq (.ops none [gm 10 8,gm 5 10])
 (.seq (.ops none [gm 11 1,gm 12 0,gm 13 5,⟨some 14, .p (.adrSl 1 (.tmp 12) (.tmp 13))⟩,⟨some 15, .l (.load false 1 (.tmp 14))⟩,⟨some 16, .callv (.tmp 11) [(.tmp 15)]⟩])
 (.cond (.tmp 16) (.seq (.ops none [gm 17 5,gm 4 17])
 (.ret))
 (.skip)))))
 (.ops none [⟨some 18, .p (.bin .add (.tmp 8) (ci (1)))⟩,gm 8 18])))
noncomputable def c59z2 : ICode := .seq (.ops none [⟨some 4, .p (.mv (ci (-1)))⟩])
 (.ret)
noncomputable def c59 : ICode := .seq (.ops none [⟨some 4, .p (.mv (ci (0)))⟩])
 (.seq (.seq (.ops none [gm 6 0,⟨some 7, .p (.lenSl (.tmp 6))⟩,⟨some 8, .p (.mv (ci (0)))⟩])
 (.block 0 (.loop [0, 1, 7] [8] c59z5))) c59z2)
theorem k59 : compFn Tryz.prog 59 [[], [], [0, 1, 7], [8], [], [], [], [], [], [], [], []] = some (19, c59, [.tmp 4]) := by kernel_rfl
def K59z0 (_P : Program) (K : VK) : Kont := bodyP [.tmp 4] K
def K59z2 : Kont := thenK (iwpP P c59z2 (K59z0 P K)) (K59z0 P K)
def K59z4 : Kont := inBlockK 0 (K59z2 P K)
def K59z5 (s0 f1 x7 : Value) (L1 : LK) : Kont := thenK (fun f' h'' => (([0, 1, 7] : List Nat).map f' : List Value) = [s0, f1, x7] ∧ L1 (([8] : List Nat).map f') h'') (K59z4 P K)
def p59z5 (s0 f1 x7 : Value) (L1 : LK) (xs : List Value) (h : Heap) : Prop := CutP (iwpP P c59z5 (K59z5 P K s0 f1 x7 L1)) ([0, 1, 7] ++ [8]) ([s0, f1, x7] ++ xs) h
theorem q59z5 (s0 f1 x7 : Value) (L1 : LK) (x8 : Value) (h : Heap) : p59z5 P K s0 f1 x7 L1 [x8] h =
 (OP (iBin .lss x8 x7) fun x9 =>
 IfP x9
 (OP (iAdrSl 1 s0 x8) fun x14 =>
 OP (iLoad false 1 h x14) fun x15 =>
 CallVP P f1 [x15] h fun x16 h_1 =>
 IfP x16
 (K x8 h_1)
 (OP (iBin .add x8 (.int .i64 (1))) fun x18 =>
 ([s0, f1, x7] : List Value) = [s0, f1, x7] ∧ L1 [x18] h_1))
 (K (.int .i64 (-1)) h)) := (CutP_def _ _ _ _).trans (by kernel_rfl)
def T59 (s0 f1 : Value) (h : Heap) : Prop :=
 OP (iLenSl s0) fun x7 =>
 LoopP [(.int .i64 (0))] h fun L1 xs hx =>
 p59z5 P K s0 f1 x7 L1 xs hx
theorem e59 (s0 f1 : Value) (h : Heap) : iwpP P c59 (bodyP [.tmp 4] K) (frame0 [s0, f1]) h = T59 P K s0 f1 h := by kernel_rfl
theorem f59 {K : VK} {s0 f1 : Value} {h : Heap} (H : T59 Tryz.prog K s0 f1 h) : CallP Tryz.prog 59 [s0, f1] h K :=
 callP_intro k59 (Nat.le_of_ble_eq_true rfl) ((e59 Tryz.prog K s0 f1 h).mpr H)
/-! F60: pommel/mark.Read$3 -/
noncomputable def c60 : ICode := .seq (.ops none [⟨some 4, .p (.mv (.const (.bool false)))⟩])
 (.seq (.ops none [⟨some 5, .l (.load false 1 (.tmp 1))⟩,⟨some 6, .l (.load false 1 (.tmp 2))⟩,gm 7 0,⟨some 8, .callv (.tmp 5) [(.tmp 6), (.tmp 7)]⟩,gm 4 8])
 (.ret))
theorem k60 : compFn Tryz.prog 60 [[], []] = some (9, c60, [.tmp 4]) := by kernel_rfl
def T60 (w0 x1 x2 : Value) (h : Heap) : Prop :=
 OP (iLoad false 1 h x1) fun x5 =>
 OP (iLoad false 1 h x2) fun x6 =>
 CallVP P x5 [x6, w0] h fun x8 h_1 =>
 K x8 h_1
theorem e60 (w0 x1 x2 : Value) (h : Heap) : iwpP P c60 (bodyP [.tmp 4] K) (frame0 [w0, x1, x2]) h = T60 P K w0 x1 x2 h := by kernel_rfl
theorem f60 {K : VK} {w0 x1 x2 : Value} {h : Heap} (H : T60 Tryz.prog K w0 x1 x2 h) : CallP Tryz.prog 60 [w0, x1, x2] h K :=
 callP_intro k60 (Nat.le_of_ble_eq_true rfl) ((e60 Tryz.prog K w0 x1 x2 h).mpr H)
/-! F84: internal/stringslite.HasSuffix -/
noncomputable def c84z6 : ICode := .ops none [⟨some 20, .p (.pick (.tmp 10) (.tmp 19) (.const (.bool false)))⟩,gm 4 20]
noncomputable def c84z4 : ICode := .seq (.ops (some (10, true)) [gm 11 0,gm 12 0,⟨some 13, .p (.lenS (.tmp 12))⟩,gm 14 1,⟨some 15, .p (.lenS (.tmp 14))⟩,⟨some 16, .p (.bin .sub (.tmp 13) (.tmp 15))⟩,⟨some 17, .p (.slS (.tmp 11) (some (.tmp 16)) none)⟩,gm 18 1,⟨some 19, .p (.bin .eql (.tmp 17) (.tmp 18))⟩])
 (.cut [10, 19] c84z6)
noncomputable def c84z2 : ICode := .ret
noncomputable def c84 : ICode := .seq (.ops none [⟨some 4, .p (.mv (.const (.bool false)))⟩])
 (.seq (.seq (.ops none [gm 5 0,⟨some 6, .p (.lenS (.tmp 5))⟩,gm 7 1,⟨some 8, .p (.lenS (.tmp 7))⟩,⟨some 9, .p (.bin .geq (.tmp 6) (.tmp 8))⟩,gm 10 9])
 (.cut [0, 1, 10] c84z4)) c84z2)
theorem k84 : compFn Tryz.prog 84 [[], [0, 1, 10], [10, 19], []] = some (21, c84, [.tmp 4]) := by kernel_rfl
def K84z0 (_P : Program) (K : VK) : Kont := bodyP [.tmp 4] K
def K84z2 : Kont := thenK (iwpP P c84z2 (K84z0 P K)) (K84z0 P K)
def p84z4 (s0 suffix1 x10 : Value) (h : Heap) : Prop := CutP (iwpP P c84z4 (K84z2 P K)) [0, 1, 10] [s0, suffix1, x10] h
def p84z6 (x10 x19 : Value) (h : Heap) : Prop := CutP (iwpP P c84z6 (K84z2 P K)) [10, 19] [x10, x19] h
theorem q84z6 (x10 x19 : Value) (h : Heap) : p84z6 P K x10 x19 h =
 (OP (iPick x10 x19 (.bool false)) fun x20 =>
 K x20 h) := (CutP_def _ _ _ _).trans (by kernel_rfl)
theorem q84z4 (s0 suffix1 x10 : Value) (h : Heap) : p84z4 P K s0 suffix1 x10 h =
 (GdP x10 true
 (OP (iLenS s0) fun x13 =>
 OP (iLenS suffix1) fun x15 =>
 OP (iBin .sub x13 x15) fun x16 =>
 OP (iSlS s0 (some x16) none) fun x17 =>
 OP (iBin .eql x17 suffix1) fun x19 =>
 p84z6 P K x10 x19 h)
 (p84z6 P K x10 undef h)) := (CutP_def _ _ _ _).trans (by kernel_rfl)
def T84 (s0 suffix1 : Value) (h : Heap) : Prop :=
 OP (iLenS s0) fun x6 =>
 OP (iLenS suffix1) fun x8 =>
 OP (iBin .geq x6 x8) fun x9 =>
 p84z4 P K s0 suffix1 x9 h
theorem e84 (s0 suffix1 : Value) (h : Heap) : iwpP P c84 (bodyP [.tmp 4] K) (frame0 [s0, suffix1]) h = T84 P K s0 suffix1 h := by kernel_rfl
theorem f84 {K : VK} {s0 suffix1 : Value} {h : Heap} (H : T84 Tryz.prog K s0 suffix1 h) : CallP Tryz.prog 84 [s0, suffix1] h K :=
 callP_intro k84 (Nat.le_of_ble_eq_true rfl) ((e84 Tryz.prog K s0 suffix1 h).mpr H)
end Go.Proofs.YthplaillblmgfaaGreatDoor

namespace Go.Proofs.YthplaillblmgfaaGreatDoor
open Go.Sim

theorem C84 {s p : Tx} {h : Heap} {K : Value → Heap → Prop} (hk : K (B (decide (p <:+ s))) h) (hs : s.length < 4611686018427387904) : CallP Tryz.prog 84 [S s, S p] h K := by
  refine f84 ?_
  unfold T84
  simp only [lenS_S, OP_some, bin_geq]
  rw [q84z4]
  by_cases hl : p.length ≤ s.length
  · rw [decide_eq_true (show (p.length : Int) ≤ s.length by omega)]
    have w : IntKind.wrap .i64 ((s.length : Int) - p.length) = ((s.length - p.length : Nat) : Int) := by rw [wrap64 (by omega) (by omega)]; omega
    simp only [GdP_tt, lenS_S, OP_some, bin_sub, w, slS_lo (a := s) (n := s.length - p.length) (by omega) .i64, bin_eqlS]
    rw [q84z6]
    simp only [iPick_t, OP_some]
    have : decide (s.drop (s.length - p.length) = p) = decide (p <:+ s) := decide_eq_decide.2 (by rw [List.suffix_iff_eq_drop]; exact eq_comm)
    rw [this]
    exact hk
  · rw [decide_eq_false (show ¬ (p.length : Int) ≤ s.length by omega)]
    simp only [GdP_ft, OP_some]
    rw [q84z6]
    simp only [iPick_f, OP_some]
    have : decide (p <:+ s) = false := decide_eq_false fun h => hl h.length_le
    rw [this] at hk
    exact hk

/-- Keeps what begins with a digit of the program's numbers. -/
def isW : Value → Bool
  | .int .u32 _ => true
  | _ => false

theorem DSw.keep {e : TypeId} {h h' : Heap} {v : Value} {xs : List Nat} (x : KP isW h h') (p : DS e .u32 h v xs) : DS e .u32 h' v xs := by
  refine p.imp id fun ⟨i, a, b⟩ => ⟨i, a, ?_⟩
  cases xs with
  | nil => exact .inl rfl
  | cons y ys =>
    obtain ⟨r, c⟩ := b.resolve_left (by simp)
    exact .inr ⟨r, x i _ _ c rfl⟩

theorem MagV.keep {h h' : Heap} {v : Value} {n : Nat} (x : KP isW h h') (p : MagV h v n) : MagV h' v n := let ⟨xs, a, b, c⟩ := p; ⟨xs, DSw.keep x a, b, c⟩
theorem IntV.keep {h h' : Heap} {v : Value} {a : Int} (x : KP isW h h') (p : IntV h v a) : IntV h' v a := let ⟨u, e, m⟩ := p; ⟨u, e, m.keep x⟩

/-- Numbers that are being gathered. -/
def OwnI (b : Nat) (h : Heap) (v : Value) (zs : List Nat) : Prop :=
  ∃ rows, OwnR b h 81 2 v rows ∧ rows.length = zs.length ∧ (∀ r ∈ rows, ∃ s t, r = .bool s :: t) ∧ ∀ (k : Nat) (row : List Value) (z : Nat), rows[k]? = some row → zs[k]? = some z → IntV h (.agg row.toArray) z

theorem flat_bool {rows : List (List Value)} (h : ∀ r ∈ rows, ∃ s t, r = .bool s :: t) : ∀ c r, rows.flatten = c :: r → isW c = false := by
  intro c r hc
  cases rows with
  | nil => simp at hc
  | cons x xs =>
    obtain ⟨s, t, rfl⟩ := h x (by simp)
    simp at hc
    rw [← hc.1]; rfl

theorem OwnI.ex {b : Nat} {h h' : Heap} {v : Value} {zs : List Nat} (x : EX h h') (o : OwnI b h v zs) : OwnI b h' v zs :=
  let ⟨rows, a, c, e, d⟩ := o; ⟨rows, a.ex x, c, e, fun k r q h1 h2 => (d k r q h1 h2).mono x⟩

/-- Another cell is written. -/
theorem OwnI.set {b : Nat} {h : Heap} {v : Value} {zs : List Nat} {j : Nat} {e : TypeId} {s : Bool} {r : List Value} (o : OwnI b h v zs) (hj : h[j]? = some (.arr e (.bool s :: r))) (hne : ∀ n, v ≠ sl 81 j 0 n) (ob : IObj) : OwnI b (h.set j ob) v zs :=
  let ⟨rows, a, c, e', d⟩ := o
  ⟨rows, a.keep fun d' n hv _ => List.getElem?_set_ne fun hjd => by subst hjd; exact hne n hv, c, e', fun k r q h1 h2 => (d k r q h1 h2).setB hj ob⟩

theorem OwnI.get {b : Nat} {h : Heap} {v : Value} {zs : List Nat} (p : OwnI b h v zs) {k : Nat} (hk : k < zs.length) : ∃ i o r, iAdrSl 2 v (I k) = some (pt i o) ∧ iLoad true 2 h (pt i o) = some r ∧ IntV h r zs[k] := by
  obtain ⟨rows, a, b, _, c⟩ := p
  have hk' : k < rows.length := by omega
  obtain ⟨i, o, cs, g1, g2, g3, g4⟩ := a.rs.get hk'
  exact ⟨i, o, _, g1, row_all g2 g3 g4, c k _ _ (List.getElem?_eq_getElem hk') (List.getElem?_eq_getElem hk)⟩

theorem IntV.cells {h : Heap} {v : Value} {a : Int} (p : IntV h v a) : noTuple v = true ∧ ∃ s u, v = .agg #[B s, u] ∧ vcells v = [B s, u] := by
  obtain ⟨u, rfl, _⟩ := p
  exact ⟨rfl, _, _, rfl, rfl⟩

theorem OwnI.app {h0 h : Heap} {v x : Value} {a : Nat} {zs : List Nat} {z0 : List Value} {K : Value → Heap → Prop} (o : OwnI h0.length h v zs) (hex : EX h0 h) (hx : IntV h x a) (hz : z0.length = 2) (hl : zs.length ≤ 10000)
    (hk : ∀ v' h', EX h0 h' → OwnI h0.length h' v' (zs ++ [a]) → K v' h') : OH (iMkSl 81 1 z0 h [(0, 2, x)]) fun y h2 => OH (iApp 81 2 32 h2 v y) K := by
  obtain ⟨rows, o1, o2, o3, o4⟩ := o
  obtain ⟨t1, s, u, e1, e2⟩ := hx.cells
  refine o1.app hex hz t1 e2 rfl (by omega) (by simp [maxLen]; omega) ?_
  intro v' h' x' hold o'
  have kp : KP isW h h' := o1.kp (flat_bool o3) hold
  refine hk v' h' x' ⟨_, o', by simp [o2], fun r hr => ?_, fun k row q h1 h2 => ?_⟩
  · rcases List.mem_append.1 hr with hr | hr
    · exact o3 r hr
    · rw [List.mem_singleton.1 hr]; exact ⟨s, _, rfl⟩
  · by_cases hk : k < rows.length
    · rw [List.getElem?_append_left hk] at h1
      rw [List.getElem?_append_left (by omega)] at h2
      exact (o4 k row q h1 h2).keep kp
    · rw [List.getElem?_append_right (by omega)] at h1
      rw [List.getElem?_append_right (by omega), ← o2] at h2
      have h0 : k - rows.length = 0 := by
        have := (List.getElem?_eq_some_iff.1 h1).1
        simp at this; omega
      rw [h0] at h1 h2
      simp only [List.getElem?_cons_zero, Option.some.injEq] at h1 h2
      subst h1 h2
      rw [← e1]
      exact hx.keep kp

theorem small {n i : Nat} (hi : i ≤ 200) (h : n ≤ 12 ^ i) : n < bigW := by
  have h1 : 12 ^ i ≤ 16 ^ 200 := Nat.le_trans (Nat.pow_le_pow_left (by omega) i) (Nat.pow_le_pow_right (by omega) hi)
  have h2 : (16 : Nat) ^ 200 = 4294967296 ^ 25 := by rw [show (4294967296 : Nat) = 16 ^ 8 by decide, ← Nat.pow_mul]
  have h3 : (4294967296 : Nat) ^ 25 < 4294967296 ^ 100 := Nat.pow_lt_pow_right (by decide) (by decide)
  unfold bigW
  omega

theorem C10 {b : Nat} {v : Value} {W : List Tx} {s : Tx} {h : Heap} {K : Value → Heap → Prop} (hv : OwnS b h 9 v (W.map S)) (hl : W.length < 1000000) (hw : ∀ w ∈ W, w.length < 4611686018427387904) (hsl : s.length < 4611686018427387904)
    (he : chkE W s ≠ 0 → ∀ h', EX h h' → K (.tuple #[S [], I (chkE W s)]) h')
    (hk : chkE W s = 0 → ∀ h', EX h h' → K (.tuple #[S (numS (rdN W s s.length : Nat)), I 0]) h') : CallP Tryz.prog 10 [v, S s] h K := by
  refine f10 (C40 hv hl hw hsl ?_)
  intro h1 x1
  simp only [bin_neq, OP_some, IfP_ndec]
  refine ⟨fun hc => he hc h1 x1, fun hc => ?_⟩
  have hk := hk hc
  have ok : s.length ≤ 200 ∧ Ok W := by
    unfold chkE at hc
    split at hc
    · cases hc
    · rename_i g1
      split at hc
      · cases hc
      · split at hc
        · rename_i g3
          exact ⟨by omega, ⟨g3.1, fun w hw => (g3.2 w hw).1, fun w hw => (g3.2 w hw).2.1, fun w hw => (g3.2 w hw).2.2, by omega⟩⟩
        · cases hc
  obtain ⟨sl, ok⟩ := ok
  have few := ok.few
  have hs := (own_ss hv).mono x1
  refine C46 (by omega) (by omega) ?_
  intro r1 h2 x2 q1
  have start : OH (iMkSl 81 1 [(.bool false), (.slice none 0 0)] h2 [(0, 2, r1)]) fun x19 h_3 => LoopP [x19, (.int .i64 (1))] h_3 fun L1 xs hx => p10z10 Tryz.prog K v (S s) L1 xs hx := by
    obtain ⟨t1, sb, u, e1, e2⟩ := q1.cells
    have e0 : iMkSl 81 1 [(.bool false), (.slice none 0 0)] h2 [(0, 2, r1)] = some (Go.Sim.sl 81 h2.length 0 1, h2 ++ [.arr 81 [B sb, u]]) := by
      simp [iMkSl, fillL, zrep, t1, e2, setAt]
    rw [e0]
    simp only [OH_some]
    have x3 : EX h1 (h2 ++ [.arr 81 [B sb, u]]) := x2.trans (EX.append _ _)
    have own0 : OwnI h1.length (h2 ++ [.arr 81 [B sb, u]]) (Go.Sim.sl 81 h2.length 0 1) [1] :=
      ⟨[[B sb, u]], ⟨fun r hr => by rw [List.mem_singleton.1 hr]; rfl, .inr ⟨h2.length, x2.1, rfl, by simp⟩⟩, rfl, fun r hr => by rw [List.mem_singleton.1 hr]; exact ⟨_, _, rfl⟩, fun k row z g1 g2 => by
        have hk0 : k = 0 := by have := (List.getElem?_eq_some_iff.1 g1).1; simp at this; omega
        subst hk0
        simp at g1 g2
        subst g1 g2
        have := q1.mono (EX.append h2 [.arr 81 [B sb, u]])
        rw [e1] at this
        exact this⟩
    refine loopL (σ := Nat × Value × Heap) (fun q => [q.2.1, I ((q.1 : Int) + 1)]) (fun q => q.2.2) (fun q => q.1 ≤ s.length ∧ EX h1 q.2.2 ∧ OwnI h1.length q.2.2 q.2.1 (rdL W s q.1)) (fun q => s.length - q.1) (0, _, _) rfl rfl ⟨Nat.zero_le _, x3, own0⟩ ?_
    rintro ⟨i, vo, g⟩ ⟨hi, xg, own⟩ L hL
    simp only at hi xg own hL ⊢
    have le := rdL_le (W := W) few s i
    have ll := rdL_len W s i
    rw [q10z10]
    simp only [lenS_S, OP_some, bin_leq, IfP_dec]
    refine ⟨fun hlt => ?_, fun hge => ?_⟩
    · have hlt : i < s.length := by omega
      refine C46 (by omega) (by omega) ?_
      intro r2 g1 y1 z1
      obtain ⟨t2, sb2, u2, f1, f2⟩ := z1.cells
      have al : iAlloc 81 [(.bool false), (.slice none 0 0)] g1 = some (pt g1.length 0, g1 ++ [.arr 81 [(.bool false), (.slice none 0 0)]]) := rfl
      have kj : (g1 ++ [IObj.arr 81 [(.bool false), (.slice none 0 0)]])[g1.length]? = some (.arr 81 [(.bool false), (.slice none 0 0)]) := get_last
      have st : ∀ {g : Heap} {c1 c2 : Value} {x : Value} {sb u}, g[g1.length]? = some (.arr 81 [c1, c2]) → x = .agg #[B sb, u] → oStore 2 g (pt g1.length 0) x = some (undef, g.set g1.length (.arr 81 [B sb, u])) := by
        intro g c1 c2 x sb u hg hx
        subst hx
        simp [oStore, iStore, hg, noTuple, vcells, setAt, Value.cells]
      have hex2 : EX g (g1 ++ [IObj.arr 81 [(.bool false), (.slice none 0 0)]]) := y1.trans (EX.append _ _)
      simp only [al, OH_some, st kj f1, hs.len, OP_some]
      have nev : ∀ n, vo ≠ Go.Sim.sl 81 g1.length 0 n := fun n hv => by
        obtain ⟨rows, a, _⟩ := own
        have := (a.lt hv).2.1
        have := y1.1
        omega
      -- the words one after the other
      refine loopL (σ := Nat × Heap) (fun q => [I q.1]) (fun q => q.2) (fun q => q.1 ≤ W.length ∧ EX g q.2 ∧ OwnI h1.length q.2 vo (rdL W s i) ∧ ∃ sb u, q.2[g1.length]? = some (.arr 81 [B sb, u]) ∧ IntV q.2 (.agg #[B sb, u]) (sumR s (rdL W s i) (i + 1) (W.take q.1) : Nat)) (fun q => W.length - q.1) (0, _) rfl rfl ⟨Nat.zero_le _, hex2.set y1.1 _, (own.ex hex2).set kj nev _, sb2, u2, set_get kj, ?_⟩ ?_
      · have := (z1.mono (EX.append g1 [IObj.arr 81 [(.bool false), (.slice none 0 0)]])).setB kj (.arr 81 [B sb2, u2])
        rw [f1] at this
        simpa [sumR] using this
      rintro ⟨j, ga⟩ ⟨hj, xa, owna, sb3, u3, k3, i3⟩ L2 hL2
      simp only at hj xa owna k3 i3 hL2 ⊢
      have ld : iLoad true 2 ga (pt g1.length 0) = some (.agg #[B sb3, u3]) := by simp [iLoad, objCells, k3, iPart]
      rw [q10z19]
      simp only [bin_lss, OP_some, IfP_dec]
      refine ⟨fun hlt2 => ?_, fun hge2 => ?_⟩
      · have hlt2 : j < W.length := by omega
        obtain ⟨bb, o, a1, a2⟩ := hs.get j hlt2
        have mem := List.getElem_mem hlt2
        have wl := ok.le _ mem
        have wn := List.length_pos_iff.2 (ok.ne _ mem)
        have a3 := EX.load (xg.trans xa) a2
        have tk : iSlS (S s) none (some (I ((i : Int) + 1))) = some (S (s.take (i + 1))) := by
          have := slS_hi (a := s) (n := i + 1) (by omega) .i64
          simpa using this
        have sn := sumR_snoc (s := s) (cs := rdL W s i) (i := i + 1) (W.take j) W[j]
        rw [← List.take_succ_eq_append_getElem hlt2] at sn
        have nx : ∀ gb sb u, EX ga gb ∨ True → EX g gb → OwnI h1.length gb vo (rdL W s i) → gb[g1.length]? = some (.arr 81 [B sb, u]) → IntV gb (.agg #[B sb, u]) (sumR s (rdL W s i) (i + 1) (W.take (j + 1)) : Nat) → p10z26 Tryz.prog K v (S s) vo (I ((i : Int) + 1)) (pt g1.length 0) v (I W.length) (I j) L L2 gb := by
          intro gb sb u _ xb ob kb ib
          rw [q10z26]
          simp only [bin_add, OP_some, inc j (by omega), true_and]
          exact hL2 (j + 1, gb) ⟨hlt2, xb, ob, sb, u, kb, ib⟩ (by show W.length - (j + 1) < W.length - j; omega)
        simp only [a1, a3, OP_some, tk]
        refine f47 (C84 ?_ (by rw [List.length_take]; omega))
        cases hb : decide (W[j] <:+ s.take (i + 1)) with
        | false =>
          have hb' : sufB s (i + 1) W[j] = false := hb
          rw [hb'] at sn
          simp only [Bool.false_eq_true, if_false, Nat.add_zero] at sn
          simp only [IfP_false]
          exact nx ga sb3 u3 (.inr trivial) xa owna k3 (by rw [sn]; exact i3)
        | true =>
          have hb' : sufB s (i + 1) W[j] = true := hb
          rw [hb'] at sn
          simp only [if_true] at sn
          have suf := (of_decide_eq_true hb).length_le
          rw [List.length_take] at suf
          have w : IntKind.wrap .i64 ((i : Int) + 1 - W[j].length) = ((i + 1 - W[j].length : Nat) : Int) := by rw [wrap64 (by omega) (by omega)]; omega
          have hkk : i + 1 - W[j].length < (rdL W s i).length := by omega
          obtain ⟨p, o2, r4, b1, b2, b3⟩ := owna.get hkk
          have ge : (rdL W s i)[i + 1 - W[j].length] = (rdL W s i).getD (i + 1 - W[j].length) 0 := by simp [hkk]
          simp only [IfP_true, ld, OP_some, lenS_S, bin_sub, w, b1, b2, true_and]
          have l1 : sumR s (rdL W s i) (i + 1) (W.take j) ≤ 12 * 12 ^ i := sumR_le (by rw [List.length_take]; omega) le
          have l2 := le _ (List.getElem_mem hkk)
          have p12 : 12 * 12 ^ i = 12 ^ (i + 1) := by rw [Nat.pow_succ, Nat.mul_comm]
          refine C48 i3 b3 (by rw [Int.natAbs_natCast]; exact small (i := i + 1) (by omega) (by omega)) (by rw [Int.natAbs_natCast]; exact small (i := i + 1) (by omega) (by omega)) ?_
          intro r5 gb xb q5
          obtain ⟨t5, sb5, u5, f5, _⟩ := q5.cells
          have kb := xb.get k3
          rw [st kb f5]
          simp only [OH_some]
          have hgb : g.length ≤ g1.length := y1.1
          refine nx _ sb5 u5 (.inr trivial) ((xa.trans xb).set hgb _) ((owna.ex xb).set kb nev _) (set_get kb) ?_
          have := q5.setB kb (.arr 81 [B sb5, u5])
          rw [f5] at this
          rw [sn]
          rw [← ge]
          simpa using this
      · have hjw : j = W.length := by omega
        subst hjw
        rw [List.take_length] at i3
        rw [q10z27]
        simp only [ld, OP_some]
        refine OwnI.app owna (xg.trans xa) i3 rfl (by omega) ?_
        intro v' gc xc ownc
        rw [q10z28]
        have w : IntKind.wrap .i64 ((i : Int) + 1 + 1) = ((i + 1 : Nat) : Int) + 1 := by rw [wrap64 (by omega) (by omega)]; omega
        simp only [bin_add, OP_some, w, true_and]
        exact hL (i + 1, v', gc) ⟨hlt, xc, ownc⟩ (by show s.length - (i + 1) < s.length - i; omega)
    · have hie : i = s.length := by omega
      subst hie
      have hkk : s.length < (rdL W s s.length).length := by omega
      obtain ⟨p, o2, r4, b1, b2, b3⟩ := own.get hkk
      have ge : (rdL W s s.length)[s.length] = rdN W s s.length := by simp [rdN, hkk]
      rw [q10z29]
      simp only [lenS_S, OP_some, b1, b2]
      refine C49 b3 ?_
      intro r5 g5 x5 q5
      have l2 := le _ (List.getElem_mem hkk)
      refine C50 q5 (by rw [Int.natAbs_natCast]; exact small sl l2) ?_
      intro g6 x6
      simp only [ext_tuple, pair0, pair1, OP_some]
      rw [ge]
      exact hk g6 (x1.trans (xg.trans (x5.trans x6)))
  exact start

end Go.Proofs.YthplaillblmgfaaGreatDoor


namespace Go.Proofs.YthplaillblmgfaaGreatDoor
open Go.Sim

def Can (W : List Tx) (s : Tx) (i : Nat) : Prop := ∃ x, Rows' W x ∧ x.flatten = s.drop i
open Classical in
noncomputable def canB (W : List Tx) (s : Tx) (i : Nat) : Bool := decide (Can W s i)
noncomputable def fitB (W : List Tx) (s : Tx) (i : Nat) (w : Tx) : Bool := decide (w <+: s.drop i) && canB W s (i + w.length)

theorem can_end (W : List Tx) (s : Tx) : canB W s s.length = true := by
  simp only [canB, decide_eq_true_eq]
  exact ⟨[], fun w hw => by simp at hw, by simp⟩

theorem can_step {W : List Tx} {s : Tx} {i : Nat} (hi : i < s.length) : canB W s i = true ↔ ∃ w ∈ W, fitB W s i w = true := by
  simp only [fitB, canB, Bool.and_eq_true, decide_eq_true_eq]
  constructor
  · rintro ⟨x, hx, e⟩
    cases x with
    | nil =>
      have := congrArg List.length e
      simp at this
      omega
    | cons w x =>
      rw [List.flatten_cons] at e
      refine ⟨w, hx w List.mem_cons_self, ⟨_, e⟩, x, hx.tail, ?_⟩
      have : (s.drop i).drop w.length = x.flatten := by rw [← e, List.drop_left]
      rw [← this, List.drop_drop]
  · rintro ⟨w, hw, ⟨r, hr⟩, x, hx, e⟩
    refine ⟨w :: x, fun v hv => ?_, ?_⟩
    · rcases List.mem_cons.1 hv with rfl | hv
      · exact hw
      · exact hx v hv
    · rw [List.flatten_cons, e, ← hr, ← List.drop_drop, ← hr, List.drop_left]

structure RH (h g : Heap) (s : Tx) (cells : List Value) (tc ec ea fc : Nat) : Prop where
  ex : EX h g
  b : h.length ≤ tc ∧ h.length ≤ ec ∧ h.length ≤ ea ∧ h.length ≤ fc
  t : g[tc]? = some (.arr 9 [S s])
  e : g[ec]? = some (.arr 95 [sl 4 ea 0 (s.length + 1)])
  a : g[ea]? = some (.arr 4 cells)
  f : g[fc]? = some (.arr 96 [.func (.func 56) #[] #[pt tc 0, pt ec 0]])

variable {h : Heap} {s : Tx} {cells : List Value} {tc ec ea fc : Nat}

theorem RH.push {g g' : Heap} (r : RH h g s cells tc ec ea fc) (x : EX g g') : RH h g' s cells tc ec ea fc := ⟨r.ex.trans x, r.b, x.get r.t, x.get r.e, x.get r.a, x.get r.f⟩

theorem RH.setA {g : Heap} (r : RH h g s cells tc ec ea fc) (cells' : List Value) : RH h (g.set ea (.arr 4 cells')) s cells' tc ec ea fc := by
  have h1 : tc ≠ ea := by rintro rfl; have := r.t.symm.trans r.a; simp at this
  have h2 : ec ≠ ea := by rintro rfl; have := r.e.symm.trans r.a; simp at this
  have h3 : fc ≠ ea := by rintro rfl; have := r.f.symm.trans r.a; simp at this
  exact ⟨r.ex.set r.b.2.2.1 _, r.b, by rw [List.getElem?_set_ne (Ne.symm h1)]; exact r.t, by rw [List.getElem?_set_ne (Ne.symm h2)]; exact r.e, set_get r.a, by rw [List.getElem?_set_ne (Ne.symm h3)]; exact r.f⟩

theorem RH.lt {g : Heap} (r : RH h g s cells tc ec ea fc) : ea < g.length := (List.getElem?_eq_some_iff.1 r.a).1

theorem ld1 {g : Heap} {i : Nat} {e : TypeId} {v : Value} (hg : g[i]? = some (.arr e [v])) : iLoad false 1 g (pt i 0) = some v := by simp [iLoad, objCells, hg, iPart]

theorem C56 {W : List Tx} {g : Heap} {i : Nat} {w : Tx} {K : Value → Heap → Prop} (r : RH h g s cells tc ec ea fc) (hl : s.length ≤ 200) (hi : i ≤ s.length) (hc : w <+: s.drop i → cells[i + w.length]? = some (B (canB W s (i + w.length)))) (hlen : cells.length = s.length + 1) (hk : K (B (fitB W s i w)) g) : CallP Tryz.prog 56 [I i, S w, pt tc 0, pt ec 0] g K := by
  refine f56 ?_
  unfold T56
  simp only [ld1 r.t, OP_some, slS_lo (a := s) hi .i64]
  refine C43 ?_
  rw [q56z4]
  cases hb : decide (w <+: s.drop i) with
  | false =>
    simp only [GdP_ft, OP_some, q56z6, iPick_f]
    have : fitB W s i w = false := by simp only [fitB, hb, Bool.false_and]
    rwa [this] at hk
  | true =>
    have hp := of_decide_eq_true hb
    have hwl := hp.length_le
    rw [List.length_drop] at hwl
    have w1 : IntKind.wrap .i64 ((i : Int) + w.length) = ((i + w.length : Nat) : Int) := by rw [wrap64 (by omega) (by omega)]; omega
    have a1 : iAdrSl 1 (sl 4 ea 0 (s.length + 1)) (I ((i + w.length : Nat) : Int)) = some (pt ea (i + w.length)) := adr_sl (by omega)
    have a2 : iLoad false 1 g (pt ea (i + w.length)) = some (B (canB W s (i + w.length))) := by simp [iLoad, objCells, r.a, iPart, hc hp]
    simp only [GdP_tt, ld1 r.e, lenS_S, OP_some, bin_add, w1, a1, a2, q56z6, iPick_t]
    have : fitB W s i w = canB W s (i + w.length) := by simp only [fitB, hb, Bool.true_and]
    rwa [this] at hk

theorem C59 {v f1 : Value} {W : List Tx} {g : Heap} {p : Tx → Bool} {K : Value → Heap → Prop} (hv : SS g v W) (hl : W.length ≤ 1000) (hp : ∀ w ∈ W, ∀ k : Value → Heap → Prop, k (B (p w)) g → CallVP Tryz.prog f1 [S w] g k)
    (hyes : ∀ j (hj : j < W.length), p W[j] = true → (∀ i (hi : i < W.length), i < j → p W[i] = false) → K (I j) g) (hno : (∀ w ∈ W, p w = false) → K (I (-1)) g) : CallP Tryz.prog 59 [v, f1] g K := by
  refine f59 ?_
  unfold T59
  simp only [hv.len, OP_some]
  refine loopL (σ := Nat) (fun i => [I i]) (fun _ => g) (fun i => i ≤ W.length ∧ ∀ j (hj : j < W.length), j < i → p W[j] = false) (fun i => W.length - i) 0 rfl rfl ⟨Nat.zero_le _, fun _ _ hi => absurd hi (Nat.not_lt_zero _)⟩ ?_
  rintro i ⟨hi, hn⟩ L hL
  rw [q59z5]
  simp only [bin_lss, OP_some, IfP_dec]
  refine ⟨fun hlt => ?_, fun hge => hno fun w hw => ?_⟩
  · have hlt : i < W.length := by omega
    obtain ⟨b, o, a1, a2⟩ := hv.get i hlt
    simp only [a1, a2, OP_some]
    refine hp _ (List.getElem_mem hlt) _ ?_
    cases hb : p W[i] with
    | true =>
      simp only [IfP_true]
      exact hyes i hlt hb fun j hj hji => hn j hj hji
    | false =>
      simp only [IfP_false, bin_add, OP_some, inc i (by omega), true_and]
      refine hL (i + 1) ⟨hlt, fun j hj hji => ?_⟩ (by omega)
      rcases Nat.lt_succ_iff_lt_or_eq.1 hji with h' | h'
      · exact hn j hj h'
      · subst h'; exact hb
  · obtain ⟨j, hj, rfl⟩ := List.getElem_of_mem hw
    exact hn j hj (by omega)

/-- What the closures of the loops say. -/
theorem fitC {W : List Tx} {g : Heap} {F : FuncId} (hF : F = 58 ∨ F = 60) {ic i : Nat} (r : RH h g s cells tc ec ea fc) (hl : s.length ≤ 200) (hi : i ≤ s.length) (hic : g[ic]? = some (.arr 3 [I i])) (hlen : cells.length = s.length + 1)
    (hc : ∀ j, i < j → j ≤ s.length → cells[j]? = some (B (canB W s j))) (hn : ∀ w ∈ W, w ≠ []) : ∀ w ∈ W, ∀ k : Value → Heap → Prop, k (B (fitB W s i w)) g → CallVP Tryz.prog (.func (.func F) #[] #[pt fc 0, pt ic 0]) [S w] g k := by
  intro w hw k hk
  have wp := List.length_pos_iff.2 (hn w hw)
  have core : CallVP Tryz.prog (.func (.func 56) #[] #[pt tc 0, pt ec 0]) [I i, S w] g k := by
    refine callVP_fn (by kernel_rfl) ?_
    show CallP Tryz.prog 56 [I i, S w, pt tc 0, pt ec 0] g k
    exact C56 r hl hi (fun hp => hc _ (by omega) (by have := hp.length_le; rw [List.length_drop] at this; omega)) hlen hk
  rcases hF with rfl | rfl
  · refine callVP_fn (by kernel_rfl) ?_
    show CallP Tryz.prog 58 [S w, pt fc 0, pt ic 0] g k
    refine f58 ?_
    simp only [T58, ld1 r.f, ld1 hic, OP_some]
    exact core
  · refine callVP_fn (by kernel_rfl) ?_
    show CallP Tryz.prog 60 [S w, pt fc 0, pt ic 0] g k
    refine f60 ?_
    simp only [T60, ld1 r.f, ld1 hic, OP_some]
    exact core

theorem al1 (e : TypeId) (z v : Value) (g : Heap) (h1 : noTuple v = true) (h2 : vcells v = [v]) {K : Value → Heap → Prop} (hk : K (pt g.length 0) (g ++ [.arr e [v]])) :
    OH (iAlloc e [z] g) fun c g1 => OH (oStore 1 g1 c v) fun _ g2 => K c g2 := by
  have e1 : iAlloc e [z] g = some (pt g.length 0, g ++ [.arr e [z]]) := rfl
  have k1 : (g ++ [IObj.arr e [z]])[g.length]? = some (.arr e [z]) := get_last
  rw [e1]
  simp only [OH_some]
  rw [store_at k1 (by simp) h1 h2]
  simp only [OH_some]
  have : (g ++ [IObj.arr e [z]]).set g.length (.arr e ([z].set 0 v)) = g ++ [.arr e [v]] := by simp
  rw [this]
  exact hk

/-- The reading that takes the first word that fits, again and again. -/
inductive Grd (W : List Tx) (s : Tx) : Nat → List Nat → Prop
  | nil : Grd W s s.length []
  | cons {i j : Nat} {ix : List Nat} (hj : j < W.length) : i < s.length → fitB W s i W[j] = true → (∀ k (hk : k < W.length), k < j → fitB W s i W[k] = false) → Grd W s (i + W[j].length) ix → Grd W s i (j :: ix)

end Go.Proofs.YthplaillblmgfaaGreatDoor


namespace Go.Proofs.YthplaillblmgfaaGreatDoor
open Go.Sim

noncomputable def cellA (W : List Tx) (s : Tx) (a : Nat) : List Value := (List.range (s.length + 1)).map fun j => B (decide (a ≤ j) && canB W s j)
theorem cellA_len (W : List Tx) (s : Tx) (a : Nat) : (cellA W s a).length = s.length + 1 := by simp [cellA]
theorem cellA_get {W : List Tx} {s : Tx} {a j : Nat} (h1 : a ≤ j) (h2 : j ≤ s.length) : (cellA W s a)[j]? = some (B (canB W s j)) := by
  rw [cellA, List.getElem?_map, List.getElem?_range (by omega)]
  simp [h1]
theorem cellA_set {W : List Tx} {s : Tx} {a : Nat} : (cellA W s (a + 1)).set a (B (canB W s a)) = cellA W s a := by
  apply List.ext_getElem
  · simp [cellA]
  intro j h1 h2
  simp only [cellA, List.length_map, List.length_range] at h2
  rw [List.getElem_set]
  by_cases e : a = j
  · subst e; rw [if_pos rfl]; simp [cellA]
  · rw [if_neg e]
    simp only [cellA, List.getElem_map, List.getElem_range]
    have : decide (a + 1 ≤ j) = decide (a ≤ j) := decide_eq_decide.2 (by omega)
    rw [this]

section
variable {h : Heap} {W : List Tx} {s : Tx} {v : Value} {K : Value → Heap → Prop} {tc ec ea fc : Nat}

/-- Where readings begin, from the end on. -/
theorem endsC (hl : s.length ≤ 200) (few : W.length ≤ 12) (hn : ∀ w ∈ W, w ≠ []) (hv : SS h v W) {ic : Nat} {g : Heap} (r : RH h g s (cellA W s s.length) tc ec ea fc) (hic : g[ic]? = some (.arr 3 [I ((s.length : Int) - 1)]))
    (hk : ∀ g', RH h g' s (cellA W s 0) tc ec ea fc → p17z19 Tryz.prog K v (pt tc 0) (pt ec 0) (pt fc 0) g') : LoopP [pt ic 0] g fun L1 xs hx => p17z12 Tryz.prog K v (pt tc 0) (pt ec 0) (pt fc 0) L1 xs hx := by
  refine loopL (σ := Nat × Nat × Heap) (fun q => [pt q.2.1 0]) (fun q => q.2.2) (fun q => q.1 ≤ s.length ∧ RH h q.2.2 s (cellA W s q.1) tc ec ea fc ∧ q.2.2[q.2.1]? = some (.arr 3 [I ((q.1 : Int) - 1)])) (fun q => q.1) (s.length, ic, g) rfl rfl ⟨Nat.le_refl _, r, hic⟩ ?_
  rintro ⟨a, jc, g1⟩ ⟨ha, r1, hj⟩ L hL
  simp only at ha r1 hj hL ⊢
  rw [q17z12]
  simp only [ld1 hj, OP_some, bin_geq, IfP_dec]
  refine ⟨fun hge => ?_, fun hlt => ?_⟩
  · obtain ⟨a, rfl⟩ : ∃ b, a = b + 1 := ⟨a - 1, by omega⟩
    have ea1 : (((a + 1 : Nat) : Int) - 1) = (a : Int) := by omega
    rw [ea1] at hj
    have jne : jc ≠ ea := by rintro rfl; have := hj.symm.trans r1.a; simp at this
    simp only [ea1, ld1 r1.e, OP_some, true_and]
    have fin : ∀ b : Bool, b = canB W s a → (iLoad false 1 g1 (pt ec 0) = some (sl 4 ea 0 (s.length + 1)) ∧ iLoad false 1 g1 (pt jc 0) = some (I a) ∧ True) ∧
        OP (iAdrSl 1 (sl 4 ea 0 (s.length + 1)) (I a)) fun x40 => OH (oStore 1 g1 x40 (B b)) fun _ h_2 => OP (iLoad false 1 h_2 (pt jc 0)) fun x41 => OH (iAlloc 3 [(.int .i64 (0))] h_2) fun i9_1 h_3 => OH (oStore 1 h_3 i9_1 x41) fun _ h_4 => OP (iLoad false 1 h_4 i9_1) fun x33 => OP (iBin .sub x33 (.int .i64 (1))) fun x34 => OH (oStore 1 h_4 i9_1 x34) fun _ h_5 => L [i9_1] h_5 := by
      rintro b rfl
      refine ⟨⟨ld1 r1.e, ld1 hj, trivial⟩, ?_⟩
      rw [adr_sl (by omega)]
      simp only [OP_some]
      rw [store_at r1.a (by rw [cellA_len]; omega) rfl rfl]
      simp only [OH_some]
      rw [cellA_set]
      have r2 := r1.setA (cellA W s a)
      have hj2 : (g1.set ea (.arr 4 (cellA W s a)))[jc]? = some (.arr 3 [I a]) := by rw [List.getElem?_set_ne (Ne.symm jne)]; exact hj
      generalize g1.set ea (.arr 4 (cellA W s a)) = g2 at r2 hj2 ⊢
      simp only [ld1 hj2, OP_some]
      refine al1 3 _ (I a) g2 rfl rfl ?_
      have k3 : (g2 ++ [IObj.arr 3 [I (a : Int)]])[g2.length]? = some (.arr 3 [I a]) := get_last
      have w : IntKind.wrap .i64 ((a : Int) - 1) = (a : Int) - 1 := wrap64 (by omega) (by omega)
      simp only [ld1 k3, OP_some, bin_sub, w]
      rw [store_at k3 (by simp) rfl rfl]
      simp only [OH_some]
      have eqh : (g2 ++ [IObj.arr 3 [I (a : Int)]]).set g2.length (.arr 3 ([I (a : Int)].set 0 (I ((a : Int) - 1)))) = g2 ++ [.arr 3 [I ((a : Int) - 1)]] := by simp
      rw [eqh]
      exact hL (a, g2.length, g2 ++ [.arr 3 [I ((a : Int) - 1)]]) ⟨by omega, r2.push (EX.append _ _), get_last⟩ (by show a < a + 1; omega)
    refine f57 (C59 (p := fitB W s a) (hv.mono r1.ex) (by omega) (fitC (.inl rfl) r1 hl (by omega) hj (cellA_len ..) (fun j h1 h2 => cellA_get h1 h2) hn) (fun j hj' hb _ => ?_) (fun hno => ?_))
    · have : canB W s a = true := (can_step (by omega)).2 ⟨_, List.getElem_mem hj', hb⟩
      simp only [bin_geq, OP_some]
      rw [decide_eq_true (show (0 : Int) ≤ j by omega)]
      exact fin true this.symm
    · have : canB W s a = false := by
        cases hc : canB W s a with
        | false => rfl
        | true =>
          obtain ⟨w, hw, hf⟩ := (can_step (by omega)).1 hc
          rw [hno w hw] at hf
          cases hf
      have e0 : iBin .geq (I (-1)) (.int .i64 (0)) = some (B false) := rfl
      simp only [e0, OP_some]
      exact fin false this.symm
  · have : a = 0 := by omega
    subst this
    exact hk g1 r1

/-- The words one after the other. -/
theorem takeC (hl : s.length ≤ 200) (few : W.length ≤ 12) (hn : ∀ w ∈ W, w ≠ []) (hle : ∀ w ∈ W, w.length ≤ 10) (hv : SS h v W) {g : Heap} (r : RH h g s (cellA W s 0) tc ec ea fc) (hc0 : canB W s 0 = true)
    (hk : ∀ ix u h', Grd W s 0 ix → EX h h' → OwnS h.length h' 3 u (ix.map fun n : Nat => I n) → K (.tuple #[u, I 0]) h') :
    OH (iAlloc 3 [(.int .i64 (0))] g) fun i11 h_1 => OH (oStore 1 h_1 i11 (.int .i64 (0))) fun _ h_2 => LoopP [(.slice none 0 0), i11] h_2 fun L1 xs hx => p17z27 Tryz.prog K v (pt tc 0) (pt fc 0) L1 xs hx := by
  refine al1 3 _ (I 0) g rfl rfl ?_
  refine loopL (σ := Nat × List Nat × Value × Nat × Heap) (fun q => [q.2.2.1, pt q.2.2.2.1 0]) (fun q => q.2.2.2.2) (fun q => q.1 ≤ s.length ∧ canB W s q.1 = true ∧ q.2.1.length ≤ q.1 ∧ (∀ iy, Grd W s q.1 iy → Grd W s 0 (q.2.1 ++ iy)) ∧ RH h q.2.2.2.2 s (cellA W s 0) tc ec ea fc ∧ q.2.2.2.2[q.2.2.2.1]? = some (.arr 3 [I q.1]) ∧ h.length ≤ q.2.2.2.1 ∧ OwnS h.length q.2.2.2.2 3 q.2.2.1 (q.2.1.map fun n : Nat => I n) ∧ ∀ n, q.2.2.1 ≠ sl 3 q.2.2.2.1 0 n) (fun q => s.length - q.1)
    (0, [], .slice none 0 0, g.length, g ++ [.arr 3 [I 0]]) rfl rfl ⟨Nat.zero_le _, hc0, Nat.le_refl _, fun iy h => h, r.push (EX.append _ _), get_last, r.ex.1, .inl ⟨rfl, rfl⟩, fun n hn => by cases hn⟩ ?_
  rintro ⟨i, ix, vo, ic, g1⟩ ⟨hi, hc, hix, hg, r1, hic, hib, own, nev⟩ L hL
  simp only at hi hc hix hg r1 hic hib own nev hL ⊢
  rw [q17z27]
  simp only [ld1 hic, ld1 r1.t, lenS_S, OP_some, bin_lss, IfP_dec]
  refine ⟨fun hlt => ?_, fun hge => ?_⟩
  · have hlt : i < s.length := by omega
    refine C59 (p := fitB W s i) (hv.mono r1.ex) (by omega) (fitC (.inr rfl) r1 hl hi hic (cellA_len ..) (fun j _ h2 => cellA_get (Nat.zero_le _) h2) hn) (fun j hj hb hfst => ?_) (fun hno => ?_)
    · have wl := hle _ (List.getElem_mem hj)
      have wp := List.length_pos_iff.2 (hn _ (List.getElem_mem hj))
      have hb' : (decide (W[j] <+: s.drop i) && canB W s (i + W[j].length)) = true := hb
      rw [Bool.and_eq_true, decide_eq_true_eq] at hb'
      have hpl := hb'.1.length_le
      rw [List.length_drop] at hpl
      refine app1p own (by simp; omega) (by simp [maxLen]; omega) rfl rfl ?_
      intro w1 g3 _ hlen3 hold hnew
      have keep : ∀ d o, g1[d]? = some o → (∀ xs, o ≠ .arr 3 xs ∨ d = ic) → g3[d]? = some o := by
        intro d o hd hne
        rw [hold d (List.getElem?_eq_some_iff.1 hd).1 fun n hvn => ?_]
        · exact hd
        · have := (own.lt hvn).2.2
          rcases hne (ix.map fun n : Nat => I n) with h1 | rfl
          · exact h1 (Option.some.inj (hd.symm.trans this))
          · exact nev n hvn
      have x3 : EX h g3 := ⟨by have := r1.ex.1; omega, fun d hd => by
        rw [hold d (by have := r1.ex.1; omega) fun n hvn => by have := (own.lt hvn).1; omega]
        exact r1.ex.2 d hd⟩
      have r3 : RH h g3 s (cellA W s 0) tc ec ea fc := ⟨x3, r1.b, keep _ _ r1.t fun xs => .inl (by simp), keep _ _ r1.e fun xs => .inl (by simp), keep _ _ r1.a fun xs => .inl (by simp), keep _ _ r1.f fun xs => .inl (by simp)⟩
      have ic3 : g3[ic]? = some (.arr 3 [I i]) := keep _ _ hic fun xs => .inr rfl
      have icl : ic < g1.length := (List.getElem?_eq_some_iff.1 hic).1
      obtain ⟨bb, o, a1, a2⟩ := (hv.mono x3).get j hj
      have w : IntKind.wrap .i64 ((i : Int) + W[j].length) = ((i + W[j].length : Nat) : Int) := by rw [wrap64 (by omega) (by omega)]; omega
      simp only [OH_some, ld1 ic3, OP_some, a1, a2, lenS_S, bin_add, w, true_and]
      rw [store_at ic3 (by simp) rfl rfl]
      have setn : [I (i : Int)].set 0 (I ((i + W[j].length : Nat) : Int)) = [I ((i + W[j].length : Nat) : Int)] := rfl
      rw [setn]
      simp only [OH_some]
      -- the cell of this turn is written, the next turn has one of its own
      have own3 : OwnS h.length g3 3 (sl 3 (g1.length + 1) 0 ((ix.map fun n : Nat => I n).length + 1)) ((ix ++ [j]).map fun n : Nat => I n) :=
        .inr ⟨g1.length + 1, by have := r1.ex.1; omega, by simp, by rw [List.map_append]; exact hnew⟩
      have nes : ∀ d, (∃ o, g1[d]? = some o ∧ ∀ xs, o ≠ .arr 3 xs) → d ≠ ic := by
        rintro d ⟨o, h1, h2⟩ rfl
        exact h2 _ (Option.some.inj (h1.symm.trans hic))
      have r4 : RH h (g3.set ic (.arr 3 [I ((i + W[j].length : Nat) : Int)])) s (cellA W s 0) tc ec ea fc := by
        refine ⟨x3.set hib _, r1.b, ?_, ?_, ?_, ?_⟩
        · rw [List.getElem?_set_ne (Ne.symm (nes _ ⟨_, r1.t, fun xs => by simp⟩))]; exact r3.t
        · rw [List.getElem?_set_ne (Ne.symm (nes _ ⟨_, r1.e, fun xs => by simp⟩))]; exact r3.e
        · rw [List.getElem?_set_ne (Ne.symm (nes _ ⟨_, r1.a, fun xs => by simp⟩))]; exact r3.a
        · rw [List.getElem?_set_ne (Ne.symm (nes _ ⟨_, r1.f, fun xs => by simp⟩))]; exact r3.f
      have own4 : OwnS h.length (g3.set ic (.arr 3 [I ((i + W[j].length : Nat) : Int)])) 3 (sl 3 (g1.length + 1) 0 ((ix.map fun n : Nat => I n).length + 1)) ((ix ++ [j]).map fun n : Nat => I n) :=
        own3.keep fun d n hvn _ => List.getElem?_set_ne fun e => by
          obtain ⟨e1, _⟩ := sl_inj hvn
          omega
      have ic4 : (g3.set ic (.arr 3 [I ((i + W[j].length : Nat) : Int)]))[ic]? = some (.arr 3 [I ((i + W[j].length : Nat) : Int)]) := set_get ic3
      have len4 : (g3.set ic (.arr 3 [I ((i + W[j].length : Nat) : Int)])).length = g1.length + 2 := by simp [hlen3]
      generalize g3.set ic (.arr 3 [I ((i + W[j].length : Nat) : Int)]) = g4 at r4 own4 ic4 len4 ⊢
      simp only [ld1 ic4, OP_some]
      refine al1 3 _ (I ((i + W[j].length : Nat) : Int)) g4 rfl rfl ?_
      refine hL (i + W[j].length, ix ++ [j], _, g4.length, g4 ++ [.arr 3 [I ((i + W[j].length : Nat) : Int)]]) ⟨by show i + W[j].length ≤ s.length; omega, hb'.2, by show (ix ++ [j]).length ≤ i + W[j].length; simp; omega, fun iy hy => ?_, r4.push (EX.append _ _), get_last, by show h.length ≤ g4.length; have := r1.ex.1; omega, ?_, fun n hvn => ?_⟩ (by show s.length - (i + W[j].length) < s.length - i; omega)
      · show Grd W s 0 ((ix ++ [j]) ++ iy)
        rw [List.append_assoc]
        exact hg _ (Grd.cons hj hlt hb hfst hy)
      · exact own4.keep fun d n hvn hd => (EX.append g4 _).2 d (own4.lt hvn).2.1
      · obtain ⟨e1, _⟩ := sl_inj hvn
        have e1 : g1.length + 1 = g4.length := e1
        omega
    · obtain ⟨w, hw, hf⟩ := (can_step hlt).1 hc
      rw [hno w hw] at hf
      cases hf
  · have : i = s.length := by omega
    subst this
    rw [q17z35]
    have := hg [] Grd.nil
    rw [List.append_nil] at this
    exact hk ix vo g1 this r1.ex own

end

theorem C17 {b : Nat} {v : Value} {W : List Tx} {s : Tx} {h : Heap} {K : Value → Heap → Prop} (hv : OwnS b h 9 v (W.map S)) (hl : W.length < 1000000) (hw : ∀ w ∈ W, w.length < 4611686018427387904) (hsl : s.length < 4611686018427387904)
    (he : chkE W s ≠ 0 → ∀ h', EX h h' → K (.tuple #[.slice none 0 0, I (chkE W s)]) h')
    (hno : chkE W s = 0 → canB W s 0 = false → ∀ h', EX h h' → K (.tuple #[.slice none 0 0, I 5]) h')
    (hk : chkE W s = 0 → canB W s 0 = true → ∀ ix u h', Grd W s 0 ix → EX h h' → OwnS h.length h' 3 u (ix.map fun n : Nat => I n) → K (.tuple #[u, I 0]) h') : CallP Tryz.prog 17 [v, S s] h K := by
  refine f17 ?_
  unfold T17
  have e1 : iBox 9 h (S s) = some (pt h.length 0, h ++ [.arr 9 [S s]]) := rfl
  have x0 : EX h (h ++ [.arr 9 [S s]]) := EX.append _ _
  have t0 : (h ++ [IObj.arr 9 [S s]])[h.length]? = some (.arr 9 [S s]) := get_last
  simp only [e1, OH_some]
  generalize h ++ [IObj.arr 9 [S s]] = g0 at x0 t0 ⊢
  simp only [ld1 t0, OP_some]
  refine C40 (own9 x0 hv) hl hw hsl ?_
  intro g1 x1
  simp only [bin_neq, OP_some, IfP_ndec]
  refine ⟨fun hc => he hc g1 (x0.trans x1), fun hc => ?_⟩
  have hno := hno hc
  have hk := hk hc
  have ok : s.length ≤ 200 ∧ Ok W := by
    unfold chkE at hc
    split at hc
    · cases hc
    · rename_i g1
      split at hc
      · cases hc
      · split at hc
        · rename_i g3
          exact ⟨by omega, ⟨g3.1, fun w hw => (g3.2 w hw).1, fun w hw => (g3.2 w hw).2.1, fun w hw => (g3.2 w hw).2.2, by omega⟩⟩
        · cases hc
  obtain ⟨sl2, ok⟩ := ok
  have t1 := x1.get t0
  have x01 := x0.trans x1
  have w1 : IntKind.wrap .i64 ((s.length : Int) + 1) = ((s.length + 1 : Nat) : Int) := by rw [wrap64 (by omega) (by omega)]; omega
  have mk : iMake 4 1 [(.bool false)] g1 (I ((s.length + 1 : Nat) : Int)) (I ((s.length + 1 : Nat) : Int)) = some (sl 4 g1.length 0 (s.length + 1), g1 ++ [.arr 4 (List.replicate (s.length + 1) (B false))]) := by
    simp only [iMake]
    rw [if_pos (by omega), zrep_one]; rfl
  simp only [ld1 t1, lenS_S, OP_some, bin_add, w1, mk, OH_some]
  have x2 : EX g1 (g1 ++ [.arr 4 (List.replicate (s.length + 1) (B false))]) := EX.append _ _
  have a2 : (g1 ++ [IObj.arr 4 (List.replicate (s.length + 1) (B false))])[g1.length]? = some (.arr 4 (List.replicate (s.length + 1) (B false))) := get_last
  have t2 := x2.get t1
  generalize g1 ++ [IObj.arr 4 (List.replicate (s.length + 1) (B false))] = g2 at x2 a2 t2 ⊢
  refine al1 95 _ (sl 4 g1.length 0 (s.length + 1)) g2 rfl rfl ?_
  have x3 : EX g2 (g2 ++ [.arr 95 [sl 4 g1.length 0 (s.length + 1)]]) := EX.append _ _
  have e3 : (g2 ++ [IObj.arr 95 [sl 4 g1.length 0 (s.length + 1)]])[g2.length]? = some (.arr 95 [sl 4 g1.length 0 (s.length + 1)]) := get_last
  have a3 := x3.get a2
  have t3 := x3.get t2
  generalize g2 ++ [IObj.arr 95 [sl 4 g1.length 0 (s.length + 1)]] = g3 at x3 e3 a3 t3 ⊢
  have ad : iAdrSl 1 (sl 4 g1.length 0 (s.length + 1)) (I s.length) = some (pt g1.length s.length) := adr_sl (by omega)
  simp only [ld1 e3, ld1 t3, lenS_S, OP_some, ad]
  rw [store_at a3 (by simp) rfl rfl]
  simp only [OH_some]
  have cl : (List.replicate (s.length + 1) (B false)).set s.length (.bool true) = cellA W s s.length := by
    apply List.ext_getElem
    · simp [cellA]
    intro j h1 h2
    simp only [cellA, List.length_map, List.length_range] at h2
    rw [List.getElem_set]
    simp only [cellA, List.getElem_map, List.getElem_range, List.getElem_replicate]
    by_cases e : s.length = j
    · subst e; rw [if_pos rfl, can_end]; simp
    · rw [if_neg e, decide_eq_false (by omega)]; rfl
  rw [cl]
  have hg12 : g1.length ≤ g2.length := x2.1
  have ne1 : g2.length ≠ g1.length := by have := (List.getElem?_eq_some_iff.1 a2).1; omega
  have ne2 : h.length ≠ g1.length := by have := (List.getElem?_eq_some_iff.1 t1).1; omega
  have hhg : h.length ≤ g1.length := x01.1
  have x4 : EX h (g3.set g1.length (.arr 4 (cellA W s s.length))) := (x01.trans (x2.trans x3)).set hhg _
  have a4 : (g3.set g1.length (.arr 4 (cellA W s s.length)))[g1.length]? = some (.arr 4 (cellA W s s.length)) := set_get a3
  have e4 : (g3.set g1.length (.arr 4 (cellA W s s.length)))[g2.length]? = some (.arr 95 [sl 4 g1.length 0 (s.length + 1)]) := by rw [List.getElem?_set_ne (Ne.symm ne1)]; exact e3
  have t4 : (g3.set g1.length (.arr 4 (cellA W s s.length)))[h.length]? = some (.arr 9 [S s]) := by rw [List.getElem?_set_ne (Ne.symm ne2)]; exact t3
  generalize g3.set g1.length (.arr 4 (cellA W s s.length)) = g4 at x4 a4 e4 t4 ⊢
  refine al1 96 _ (.func (.func 56) #[] #[pt h.length 0, pt g2.length 0]) g4 rfl rfl ?_
  have x5 : EX g4 (g4 ++ [.arr 96 [.func (.func 56) #[] #[pt h.length 0, pt g2.length 0]]]) := EX.append _ _
  have f5 : (g4 ++ [IObj.arr 96 [.func (.func 56) #[] #[pt h.length 0, pt g2.length 0]]])[g4.length]? = some (.arr 96 [.func (.func 56) #[] #[pt h.length 0, pt g2.length 0]]) := get_last
  have r5 : RH h (g4 ++ [.arr 96 [.func (.func 56) #[] #[pt h.length 0, pt g2.length 0]]]) s (cellA W s s.length) h.length g2.length g1.length g4.length :=
    ⟨x4.trans x5, ⟨Nat.le_refl _, by omega, hhg, x4.1⟩, x5.get t4, x5.get e4, x5.get a4, f5⟩
  generalize g4 ++ [IObj.arr 96 [.func (.func 56) #[] #[pt h.length 0, pt g2.length 0]]] = g5 at r5 ⊢
  have w2 : IntKind.wrap .i64 ((s.length : Int) - 1) = (s.length : Int) - 1 := wrap64 (by omega) (by omega)
  simp only [ld1 r5.t, lenS_S, OP_some, bin_sub, w2]
  refine al1 3 _ (I ((s.length : Int) - 1)) g5 rfl rfl ?_
  refine endsC sl2 ok.few ok.ne (own_ss hv) (r5.push (EX.append _ _)) get_last ?_
  intro g6 r6
  rw [q17z19]
  have ad0 : iAdrSl 1 (sl 4 g1.length 0 (s.length + 1)) (.int .i64 (0)) = some (pt g1.length 0) := adr_sl (j := 0) (by omega)
  have c0 : iLoad false 1 g6 (pt g1.length 0) = some (B (canB W s 0)) := by
    have := cellA_get (W := W) (s := s) (a := 0) (j := 0) (Nat.le_refl _) (Nat.zero_le _)
    simp [iLoad, objCells, r6.a, iPart, this]
  simp only [ld1 r6.e, OP_some, ad0, c0, un_not]
  cases hc0 : canB W s 0 with
  | false =>
    simp only [Bool.not_false, IfP_true]
    exact hno hc0 g6 r6.ex
  | true =>
    simp only [Bool.not_true, IfP_false]
    exact takeC sl2 ok.few ok.ne ok.le (own_ss hv) r6 hc0 (hk hc0)

end Go.Proofs.YthplaillblmgfaaGreatDoor


namespace Go.Proofs.YthplaillblmgfaaGreatDoor
open Go.Sim

theorem flat_nil {W x : List Tx} (hn : ∀ w ∈ W, w ≠ []) (hx : Rows' W x) (e : x.flatten = []) : x = [] := by
  cases x with
  | nil => rfl
  | cons v x =>
    rw [List.flatten_cons, List.append_eq_nil_iff] at e
    exact absurd e.1 (hn v (hx v List.mem_cons_self))

/-- The words of numbers. -/
def wds (W : List Tx) (ix : List Nat) : List Tx := ix.map fun j => W.getD j []

theorem getD_mem {W : List Tx} {j : Nat} (hj : j < W.length) : W.getD j [] = W[j] := by simp [hj]

theorem wds_rows {W : List Tx} {ix : List Nat} (h : ∀ j ∈ ix, j < W.length) : Rows' W (wds W ix) := fun w hw => by
  obtain ⟨j, hj, rfl⟩ := List.mem_map.1 hw
  rw [getD_mem (h j hj)]
  exact List.getElem_mem _

theorem Grd.read {W : List Tx} {s : Tx} {i : Nat} {ix : List Nat} (g : Grd W s i ix) : (∀ j ∈ ix, j < W.length) ∧ (wds W ix).flatten = s.drop i := by
  induction g with
  | nil => exact ⟨fun j hj => by simp at hj, by simp [wds]⟩
  | @cons i j ix hj hi hf _ _ ih =>
    refine ⟨fun k hk => ?_, ?_⟩
    · rcases List.mem_cons.1 hk with rfl | hk
      · exact hj
      · exact ih.1 k hk
    · have hp : W[j] <+: s.drop i := by
        simp only [fitB, Bool.and_eq_true, decide_eq_true_eq] at hf
        exact hf.1
      obtain ⟨r, hr⟩ := hp
      have e : wds W (j :: ix) = W[j] :: wds W ix := by simp only [wds, List.map_cons, getD_mem hj]
      rw [e, List.flatten_cons, ih.2, ← List.drop_drop, ← hr, List.drop_left]

/-- Of two rows the first in order. -/
def Lex (a b : List Nat) : Prop := a = b ∨ ∃ k, ∃ (h1 : k < a.length) (h2 : k < b.length), (∀ j (j1 : j < a.length) (j2 : j < b.length), j < k → a[j] = b[j]) ∧ a[k] < b[k]

theorem Lex.cons {a b : List Nat} (x : Nat) (h : Lex a b) : Lex (x :: a) (x :: b) := by
  rcases h with rfl | ⟨k, h1, h2, he, hl⟩
  · exact .inl rfl
  · refine .inr ⟨k + 1, by simp; omega, by simp; omega, fun j j1 j2 hj => ?_, by simpa using hl⟩
    cases j with
    | zero => rfl
    | succ j =>
      simp only [List.getElem_cons_succ]
      exact he j (by simpa using j1) (by simpa using j2) (by omega)

theorem Grd.least {W : List Tx} {s : Tx} (hn : ∀ w ∈ W, w ≠ []) {i : Nat} {ix : List Nat} (g : Grd W s i ix) : ∀ {iy : List Nat}, (∀ j ∈ iy, j < W.length) → (wds W iy).flatten = s.drop i → Lex ix iy := by
  induction g with
  | nil =>
    intro iy h e
    rw [List.drop_length] at e
    have := flat_nil hn (wds_rows h) e
    have : iy = [] := by simpa [wds] using this
    exact .inl this.symm
  | @cons i j ix hj hi hf hfst _ ih =>
    intro iy h e
    cases iy with
    | nil =>
      have := congrArg List.length e
      simp [wds] at this
      omega
    | cons k iy =>
      have hk := h k List.mem_cons_self
      have h' : ∀ a ∈ iy, a < W.length := fun a ha => h a (List.mem_cons_of_mem _ ha)
      have e' : W[k] ++ (wds W iy).flatten = s.drop i := by
        rw [← e]
        simp only [wds, List.map_cons, List.flatten_cons, getD_mem hk]
      have er : (wds W iy).flatten = s.drop (i + W[k].length) := by
        rw [← List.drop_drop, ← e', List.drop_left]
      have fk : fitB W s i W[k] = true := by
        simp only [fitB, canB, Bool.and_eq_true, decide_eq_true_eq]
        exact ⟨⟨_, e'⟩, _, wds_rows h', er⟩
      rcases Nat.lt_trichotomy j k with hlt | heq | hgt
      · exact .inr ⟨0, by simp, by simp, fun a _ _ ha => absurd ha (Nat.not_lt_zero _), by simpa using hlt⟩
      · subst heq
        exact (ih h' er).cons j
      · rw [hfst k hk hgt] at fk
        cases fk

end Go.Proofs.YthplaillblmgfaaGreatDoor


namespace Go.Proofs.YthplaillblmgfaaGreatDoor
open Go.Sim

open Classical in
noncomputable def txtE (W : List Tx) (s : Tx) : Int := if 200 < s.length then 3 else if chkE W [] ≠ 0 then chkE W [] else if bitsB s = false then 2 else 0

theorem txt_chk {W : List Tx} {s : Tx} : (if 12 < W.length then 3 else txtE W s) = chkE W s := by
  unfold txtE chkE
  have b0 : bitsB [] = true := rfl
  by_cases h1 : 12 < W.length
  · rw [if_pos h1, if_pos (.inl h1)]
  · rw [if_neg h1]
    by_cases h2 : 200 < s.length
    · rw [if_pos h2, if_pos (.inr h2)]
    · rw [if_neg h2, if_neg (show ¬ (12 < W.length ∨ 200 < s.length) by omega)]
      have e : ¬ (12 < W.length ∨ 200 < ([] : Tx).length) := by simp; omega
      rw [if_neg e]
      by_cases h3 : W = []
      · rw [if_pos (show W = [] ∨ bitsB [] = false from .inl h3), if_pos (by decide), if_pos (show W = [] ∨ bitsB s = false from .inl h3)]
      · rw [if_neg (show ¬ (W = [] ∨ bitsB [] = false) by simp [h3, b0])]
        by_cases h4 : codeOk W
        · rw [if_pos h4, if_neg (by decide)]
          by_cases h5 : bitsB s = false
          · rw [if_pos h5, if_pos (.inr h5)]
          · rw [if_neg h5, if_neg (by simp [h3, h5])]
        · rw [if_neg h4, if_pos (by decide)]
          split <;> rfl

theorem C18 {v : Value} {W : List Tx} {s : Tx} {h : Heap} {K : Value → Heap → Prop} (hv : SS h v W) (hl : W.length ≤ 1000) (hw : ∀ w ∈ W, w.length < 4611686018427387904) (hs : s.length < 4611686018427387904) (hk : K (I (txtE W s)) h) : CallP Tryz.prog 18 [v, S s] h K := by
  refine f18 ?_
  unfold T18
  unfold txtE at hk
  simp only [lenS_S, OP_some, bin_gtr, IfP_dec]
  refine ⟨fun h1 => ?_, fun h1 => ?_⟩
  · rw [if_pos (by omega)] at hk
    exact hk
  · rw [if_neg (by omega)] at hk
    refine C30 hv hl hw ?_
    simp only [bin_neq, OP_some, IfP_ndec]
    refine ⟨fun hc => ?_, fun hc => ?_⟩
    · rw [if_pos hc] at hk
      exact hk
    · rw [if_neg (by simp [hc])] at hk
      refine C61 hs ?_
      simp only [un_not, OP_some]
      cases hb : bitsB s with
      | false =>
        rw [if_pos hb] at hk
        simp only [Bool.not_false, IfP_true]
        exact hk
      | true =>
        rw [if_neg (by simp [hb])] at hk
        simp only [Bool.not_true, IfP_false]
        exact hk

section
variable {h : Heap} {W : List Tx} {s : Tx} {v : Value} {K : Value → Heap → Prop} {ea : Nat}

/-- Where the rest can be read. -/
theorem canU (hl : s.length ≤ 200) (few : W.length ≤ 12) (hn : ∀ w ∈ W, w ≠ []) (hv : SS h v W) (hea : h.length ≤ ea) {g : Heap} (xg : EX h g) (hg : g[ea]? = some (.arr 4 (cellA W s s.length)))
    (hk : ∀ g', EX h g' → g'[ea]? = some (.arr 4 (cellA W s 0)) → p20z20 Tryz.prog K v (S s) (sl 4 ea 0 (s.length + 1)) g') : LoopP [I ((s.length : Int) - 1)] g fun L1 xs hx => p20z7 Tryz.prog K v (S s) (sl 4 ea 0 (s.length + 1)) L1 xs hx := by
  refine loopL (σ := Nat × Heap) (fun q => [I ((q.1 : Int) - 1)]) (fun q => q.2) (fun q => q.1 ≤ s.length ∧ EX h q.2 ∧ q.2[ea]? = some (.arr 4 (cellA W s q.1))) (fun q => q.1) (s.length, g) rfl rfl ⟨Nat.le_refl _, xg, hg⟩ ?_
  rintro ⟨a, g1⟩ ⟨ha, x1, k1⟩ L hL
  simp only at ha x1 k1 hL ⊢
  rw [q20z7]
  simp only [bin_geq, OP_some, IfP_dec]
  refine ⟨fun hge => ?_, fun hlt => ?_⟩
  · obtain ⟨a, rfl⟩ : ∃ b, a = b + 1 := ⟨a - 1, by omega⟩
    have ea1 : (((a + 1 : Nat) : Int) - 1) = (a : Int) := by omega
    rw [ea1]
    have clen : (cellA W s (a + 1)).length = s.length + 1 := cellA_len ..
    have c00 : (cellA W s (a + 1)).set a (B false) = cellA W s (a + 1) := by
      apply List.ext_getElem
      · simp
      intro j h1 h2
      rw [List.getElem_set]
      by_cases e : a = j
      · subst e
        rw [if_pos rfl]
        simp only [cellA, List.getElem_map, List.getElem_range]
        rw [decide_eq_false (by omega)]
        rfl
      · rw [if_neg e]
    refine loopL (σ := Nat × Heap) (fun q => [I q.1]) (fun q => q.2) (fun q => q.1 ≤ W.length ∧ EX h q.2 ∧ q.2[ea]? = some (.arr 4 ((cellA W s (a + 1)).set a (B ((W.take q.1).any (fitB W s a)))))) (fun q => W.length - q.1) (0, g1) rfl rfl ⟨Nat.zero_le _, x1, by simp only [List.take_zero, List.any_nil, c00]; exact k1⟩ ?_
    rintro ⟨i, g2⟩ ⟨hi, x2, k2⟩ L2 hL2
    simp only at hi x2 k2 hL2 ⊢
    have hs := hv.mono x2
    rw [q20z14]
    simp only [hs.len, OP_some, bin_lss, IfP_dec]
    refine ⟨fun hlt => ?_, fun hge2 => ?_⟩
    · have hlt : i < W.length := by omega
      obtain ⟨b, o, a1, a2⟩ := hs.get i hlt
      have mem := List.getElem_mem hlt
      have wp := List.length_pos_iff.2 (hn _ mem)
      have ad : iAdrSl 1 (sl 4 ea 0 (s.length + 1)) (I a) = some (pt ea a) := adr_sl (by omega)
      have w := inc i (by omega)
      have any1 : (W.take (i + 1)).any (fitB W s a) = ((W.take i).any (fitB W s a) || fitB W s a W[i]) := by
        rw [List.take_succ_eq_append_getElem hlt, List.any_append]; simp
      have ld : iLoad false 1 g2 (pt ea a) = some (B ((W.take i).any (fitB W s a))) := by
        have : a < (cellA W s (a + 1)).length := by omega
        simp [iLoad, objCells, k2, iPart, this]
      have st : ∀ b : Bool, oStore 1 g2 (pt ea a) (B b) = some (undef, g2.set ea (.arr 4 ((cellA W s (a + 1)).set a (B b)))) := fun b => by
        rw [store_at k2 (by rw [List.length_set]; omega) rfl rfl, List.set_set]
      have fin : ∀ b : Bool, b = (W.take (i + 1)).any (fitB W s a) → L2 [I ((i + 1 : Nat) : Int)] (g2.set ea (.arr 4 ((cellA W s (a + 1)).set a (B b)))) := by
        rintro b rfl
        exact hL2 (i + 1, _) ⟨hlt, x2.set hea _, set_get k2⟩ (by show W.length - (i + 1) < W.length - i; omega)
      simp only [ad, ld, OP_some, true_and]
      cases hacc : (W.take i).any (fitB W s a) with
      | true =>
        rw [hacc, Bool.true_or] at any1
        simp only [GdP_tf, GdP_undef, true_and, iPick_t, OP_some, st, OH_some, bin_add, w]
        exact fin true any1.symm
      | false =>
        rw [hacc, Bool.false_or] at any1
        simp only [GdP_ff, a1, a2, OP_some, slS_lo (a := s) (n := a) (by omega) .i64, true_and]
        refine C63 ?_
        cases hb : decide (W[i] <+: s.drop a) with
        | false =>
          have fb : fitB W s a W[i] = false := by simp only [fitB, hb, Bool.false_and]
          simp only [GdP_ft, GdP_ff, iPick_f, OP_some, ad, st, OH_some, bin_add, w, true_and]
          exact fin false (by rw [any1, fb])
        | true =>
          have hp := of_decide_eq_true hb
          have hwl := hp.length_le
          rw [List.length_drop] at hwl
          have w1 : IntKind.wrap .i64 ((a : Int) + W[i].length) = ((a + W[i].length : Nat) : Int) := by rw [wrap64 (by omega) (by omega)]; omega
          have ad2 : iAdrSl 1 (sl 4 ea 0 (s.length + 1)) (I ((a + W[i].length : Nat) : Int)) = some (pt ea (a + W[i].length)) := adr_sl (by omega)
          have ld2 : iLoad false 1 g2 (pt ea (a + W[i].length)) = some (B (canB W s (a + W[i].length))) := by
            have c1 := cellA_get (W := W) (s := s) (a := a + 1) (j := a + W[i].length) (by omega) (by omega)
            have c2 : ((cellA W s (a + 1)).set a (B ((W.take i).any (fitB W s a))))[a + W[i].length]? = some (B (canB W s (a + W[i].length))) := by
              rw [List.getElem?_set_ne (by omega)]; exact c1
            simp [iLoad, objCells, k2, iPart, c2]
          have fb : fitB W s a W[i] = canB W s (a + W[i].length) := by simp only [fitB, hb, Bool.true_and]
          simp only [GdP_tt, GdP_ff, a1, a2, lenS_S, OP_some, bin_add, w1, ad2, ld2, iPick_t, iPick_f, ad, st, OH_some, w, true_and]
          exact fin _ (by rw [any1, fb])
    · have hiw : i = W.length := by omega
      subst hiw
      have e : (W.take W.length).any (fitB W s a) = canB W s a := by
        rw [List.take_length, Bool.eq_iff_iff, List.any_eq_true, can_step (by omega)]
      rw [e, cellA_set] at k2
      rw [q20z19]
      have w : IntKind.wrap .i64 ((a : Int) - 1) = (a : Int) - 1 := wrap64 (by omega) (by omega)
      simp only [bin_sub, w, OP_some, true_and]
      exact hL (a, g2) ⟨by omega, x2, k2⟩ (by show a < a + 1; omega)
  · have : a = 0 := by omega
    subst this
    exact hk g1 x1 k1

theorem takeU (hl : s.length ≤ 200) (few : W.length ≤ 12) (hn : ∀ w ∈ W, w ≠ []) (hle : ∀ w ∈ W, w.length ≤ 10) (hv : SS h v W) {g : Heap} (xg : EX h g) (hg : g[ea]? = some (.arr 4 (cellA W s 0))) (hc0 : canB W s 0 = true)
    (hk : ∀ ix u h', Grd W s 0 ix → EX h h' → OwnS h.length h' 3 u (ix.map fun n : Nat => I n) → K (.tuple #[u, B true]) h') :
    OH (iMkSl 3 0 [(.int .i64 (0))] g []) fun x66 h_1 => LoopP [x66, (.int .i64 (0))] h_1 fun L1 xs hx => p20z28 Tryz.prog K v (S s) (sl 4 ea 0 (s.length + 1)) L1 xs hx := by
  simp only [mk0, OH_some]
  refine loopL (σ := Nat × List Nat × Value × Heap) (fun q => [q.2.2.1, I q.1]) (fun q => q.2.2.2) (fun q => q.1 ≤ s.length ∧ canB W s q.1 = true ∧ q.2.1.length ≤ q.1 ∧ (∀ iy, Grd W s q.1 iy → Grd W s 0 (q.2.1 ++ iy)) ∧ EX h q.2.2.2 ∧ q.2.2.2[ea]? = some (.arr 4 (cellA W s 0)) ∧ OwnS h.length q.2.2.2 3 q.2.2.1 (q.2.1.map fun n : Nat => I n)) (fun q => s.length - q.1)
    (0, [], sl 3 g.length 0 0, g ++ [.arr 3 []]) rfl rfl ⟨Nat.zero_le _, hc0, Nat.le_refl _, fun iy h => h, xg.trans (EX.append _ _), (EX.append _ _).get hg, .inr ⟨g.length, xg.1, rfl, get_last⟩⟩ ?_
  rintro ⟨i, ix, vo, g1⟩ ⟨hi, hc, hix, hgr, x1, k1, own⟩ L hL
  simp only at hi hc hix hgr x1 k1 own hL ⊢
  rw [q20z28]
  simp only [lenS_S, OP_some, bin_lss, IfP_dec]
  refine ⟨fun hlt => ?_, fun hge => ?_⟩
  · have hlt : i < s.length := by omega
    have hs := hv.mono x1
    refine loopL (σ := Nat) (fun j => [vo, I i, I j]) (fun _ => g1) (fun j => j ≤ W.length ∧ ∀ k (hk : k < W.length), k < j → fitB W s i W[k] = false) (fun j => W.length - j) 0 rfl rfl ⟨Nat.zero_le _, fun _ _ hj => absurd hj (Nat.not_lt_zero _)⟩ ?_
    rintro j ⟨hj, hno⟩ L2 hL2
    rw [q20z34]
    simp only [hs.len, OP_some, bin_lss, IfP_dec]
    refine ⟨fun hlt2 => ?_, fun hge2 => ?_⟩
    · have hlt2 : j < W.length := by omega
      obtain ⟨b, o, a1, a20⟩ := hv.get j hlt2
      have a2 := EX.load x1 a20
      have mem := List.getElem_mem hlt2
      have wp := List.length_pos_iff.2 (hn _ mem)
      have wl := hle _ mem
      have w := inc j (by omega)
      have next : fitB W s i W[j] = false → L2 [vo, I i, I ((j + 1 : Nat) : Int)] g1 := fun hf => hL2 (j + 1) ⟨hlt2, fun k hk2 hkj => by
        rcases Nat.lt_succ_iff_lt_or_eq.1 hkj with h' | h'
        · exact hno k hk2 h'
        · subst h'; exact hf⟩ (by omega)
      simp only [a1, a2, OP_some, slS_lo (a := s) hi .i64, true_and]
      refine C63 ?_
      cases hb : decide (W[j] <+: s.drop i) with
      | false =>
        have fb : fitB W s i W[j] = false := by simp only [fitB, hb, Bool.false_and]
        simp only [GdP_ft, iPick_f, OP_some, IfP_false, bin_add, w, true_and]
        exact next fb
      | true =>
        have hp := of_decide_eq_true hb
        have hwl := hp.length_le
        rw [List.length_drop] at hwl
        have w1 : IntKind.wrap .i64 ((i : Int) + W[j].length) = ((i + W[j].length : Nat) : Int) := by rw [wrap64 (by omega) (by omega)]; omega
        have ad2 : iAdrSl 1 (sl 4 ea 0 (s.length + 1)) (I ((i + W[j].length : Nat) : Int)) = some (pt ea (i + W[j].length)) := adr_sl (by omega)
        have c1 := cellA_get (W := W) (s := s) (a := 0) (j := i + W[j].length) (by omega) (by omega)
        have ld2 : iLoad false 1 g1 (pt ea (i + W[j].length)) = some (B (canB W s (i + W[j].length))) := by simp [iLoad, objCells, k1, iPart, c1]
        have fb : fitB W s i W[j] = canB W s (i + W[j].length) := by simp only [fitB, hb, Bool.true_and]
        simp only [GdP_tt, a1, a2, lenS_S, OP_some, bin_add, w1, ad2, ld2, iPick_t, true_and]
        cases hcb : canB W s (i + W[j].length) with
        | false =>
          simp only [IfP_false, w]
          exact next (by rw [fb, hcb])
        | true =>
          simp only [IfP_true]
          have mk1 : iMkSl 3 1 [(.int .i64 (0))] g1 [(0, 1, I (j : Int))] = some (sl 3 g1.length 0 1, g1 ++ [.arr 3 [I (j : Int)]]) := by
            have va : ∀ n : Int, vcells (I n) = [I n] := fun _ => rfl
            have na : ∀ n : Int, noTuple (I n) = true := fun _ => rfl
            simp [iMkSl, fillL, zrep, setAt, va, na]
          have xa : EX g1 (g1 ++ [.arr 3 [I (j : Int)]]) := EX.append _ _
          have ka : (g1 ++ [IObj.arr 3 [I (j : Int)]])[g1.length]? = some (.arr 3 [I (j : Int)]) := get_last
          have owna : OwnS h.length (g1 ++ [.arr 3 [I (j : Int)]]) 3 vo (ix.map fun n : Nat => I n) := own.keep fun d n hv _ => xa.2 d (own.lt hv).2.1
          have a3 := EX.load xa a2
          have k3 := xa.get k1
          have x3 := x1.trans xa
          simp only [mk1, OH_some]
          generalize g1 ++ [IObj.arr 3 [I (j : Int)]] = ga at xa ka owna a3 k3 x3 ⊢
          have sc : sliceCells ga 1 (sl 3 g1.length 0 1) = some [I (j : Int)] := by simp [sliceCells, sl, objCells, ka]
          refine app_own owna x3 sc rfl (by simp; omega) ?_
          intro v' g' x' hold own'
          have a4 := EX.load x' a20
          simp only [a4, OP_some, a2, a3, lenS_S, bin_add, w1, true_and]
          have ne : ∀ n, vo ≠ sl 3 ea 0 n := fun n hv => by
            have := (owna.lt hv).2.2
            rw [k3] at this
            cases this
          refine hL (i + W[j].length, ix ++ [j], v', g') ⟨by show i + W[j].length ≤ s.length; omega, hcb, by show (ix ++ [j]).length ≤ i + W[j].length; simp; omega, fun iy hy => ?_, x', by rw [hold ea (List.getElem?_eq_some_iff.1 k3).1 ne]; exact k3, ?_⟩ (by show s.length - (i + W[j].length) < s.length - i; omega)
          · show Grd W s 0 ((ix ++ [j]) ++ iy)
            rw [List.append_assoc]
            exact hgr _ (Grd.cons hlt2 hlt (by rw [fb, hcb]) hno hy)
          · show OwnS h.length g' 3 v' ((ix ++ [j]).map fun n : Nat => I n)
            rw [List.map_append]
            exact own'
    · obtain ⟨w, hw, hf⟩ := (can_step hlt).1 hc
      obtain ⟨k, hk2, rfl⟩ := List.getElem_of_mem hw
      rw [hno k hk2 (by omega)] at hf
      cases hf
  · have : i = s.length := by omega
    subst this
    rw [q20z41]
    have := hgr [] Grd.nil
    rw [List.append_nil] at this
    exact hk ix vo g1 this x1 own

theorem C20 (hl : s.length ≤ 200) (few : W.length ≤ 12) (hn : ∀ w ∈ W, w ≠ []) (hle : ∀ w ∈ W, w.length ≤ 10) (hv : SS h v W)
    (hno : canB W s 0 = false → ∀ h', EX h h' → K (.tuple #[.slice none 0 0, B false]) h')
    (hk : canB W s 0 = true → ∀ ix u h', Grd W s 0 ix → EX h h' → OwnS h.length h' 3 u (ix.map fun n : Nat => I n) → K (.tuple #[u, B true]) h') : CallP Tryz.prog 20 [v, S s] h K := by
  refine f20 ?_
  unfold T20
  have w1 : IntKind.wrap .i64 ((s.length : Int) + 1) = ((s.length + 1 : Nat) : Int) := by rw [wrap64 (by omega) (by omega)]; omega
  have w2 : IntKind.wrap .i64 ((s.length : Int) - 1) = (s.length : Int) - 1 := wrap64 (by omega) (by omega)
  have mk : iMake 4 1 [(.bool false)] h (I ((s.length + 1 : Nat) : Int)) (I ((s.length + 1 : Nat) : Int)) = some (sl 4 h.length 0 (s.length + 1), h ++ [.arr 4 (List.replicate (s.length + 1) (B false))]) := by
    simp only [iMake]
    rw [if_pos (by omega), zrep_one]; rfl
  have ad : iAdrSl 1 (sl 4 h.length 0 (s.length + 1)) (I s.length) = some (pt h.length s.length) := adr_sl (by omega)
  have k1 : (h ++ [IObj.arr 4 (List.replicate (s.length + 1) (B false))])[h.length]? = some (.arr 4 (List.replicate (s.length + 1) (B false))) := get_last
  simp only [lenS_S, OP_some, bin_add, w1, mk, OH_some, ad]
  have x1 : EX h (h ++ [.arr 4 (List.replicate (s.length + 1) (B false))]) := EX.append _ _
  generalize h ++ [IObj.arr 4 (List.replicate (s.length + 1) (B false))] = g1 at k1 x1 ⊢
  rw [store_at k1 (by simp) rfl rfl]
  have cl : (List.replicate (s.length + 1) (B false)).set s.length (.bool true) = cellA W s s.length := by
    apply List.ext_getElem
    · simp [cellA]
    intro j h1 h2
    simp only [cellA, List.length_map, List.length_range] at h2
    rw [List.getElem_set]
    simp only [cellA, List.getElem_map, List.getElem_range, List.getElem_replicate]
    by_cases e : s.length = j
    · subst e; rw [if_pos rfl, can_end]; simp
    · rw [if_neg e, decide_eq_false (by omega)]; rfl
  rw [cl]
  simp only [OH_some, bin_sub, w2, OP_some]
  refine canU hl few hn hv (Nat.le_refl _) (x1.set (Nat.le_refl _) _) (set_get k1) ?_
  intro g x k
  rw [q20z20]
  have ad0 : iAdrSl 1 (sl 4 h.length 0 (s.length + 1)) (.int .i64 (0)) = some (pt h.length 0) := adr_sl (j := 0) (by omega)
  have c0 : iLoad false 1 g (pt h.length 0) = some (B (canB W s 0)) := by
    have := cellA_get (W := W) (s := s) (a := 0) (j := 0) (Nat.le_refl _) (Nat.zero_le _)
    simp [iLoad, objCells, k, iPart, this]
  simp only [ad0, c0, OP_some, un_not]
  cases hc : canB W s 0 with
  | false =>
    simp only [Bool.not_false, IfP_true]
    exact hno hc g x
  | true =>
    simp only [Bool.not_true, IfP_false]
    exact takeU hl few hn hle hv x k hc (hk hc)

end

end Go.Proofs.YthplaillblmgfaaGreatDoor

