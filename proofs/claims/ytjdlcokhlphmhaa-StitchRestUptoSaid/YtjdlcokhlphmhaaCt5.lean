/-
  Threads and seams, read.
-/
import Derived.Test.YtjdlcokhlphmhaaCt4
namespace Go.Proofs.Ytjdlcokhlphmhaa
open Go.Sim

/-- Which letters commute, by the pairs. -/
def cmOf (ps : List (Int × Int)) (a b : Nat) : Bool := ps.any fun p => (decide (p.1 = a) && decide (p.2 = b)) || (decide (p.1 = b) && decide (p.2 = a))

theorem any_congr' {α : Type} {p q : α → Bool} : ∀ {l : List α}, (∀ x ∈ l, p x = q x) → l.any p = l.any q
  | [], _ => rfl
  | x :: l, h => by rw [List.any_cons, List.any_cons, h x (by simp), any_congr' fun y hy => h y (by simp [hy])]

theorem frM_cmOf (ps : List (Int × Int)) {a b : Nat} (ha : a < 100) (hb : b < 100) : frM (cmOf ps) (lt a) (lt b) = freeP ps (lt a) (lt b) := by
  unfold frM cmOf freeP
  refine any_congr' fun p _ => ?_
  unfold hit
  rw [lt_toNat ha, lt_toNat hb]
  have e1 : ∀ (x : Int) (c : Nat), decide (x = ((97 + c - 97 : Nat) : Int)) = decide (97 + x = ((97 + c : Nat) : Int)) := by
    intro x c
    by_cases h : 97 + x = ((97 + c : Nat) : Int)
    · rw [decide_eq_true h, decide_eq_true (by omega)]
    · rw [decide_eq_false h, decide_eq_false (by omega)]
  rw [e1, e1, e1, e1]

theorem tcells_length (k : Int) (cm : Nat → Nat → Bool) : (tcells k cm).length = 37 := by simp [tcells]

theorem tcells_set {k : Int} {cm cm' : Nat → Nat → Bool} {a b : Nat} (ha : a < 6) (hb : b < 6) (h : ∀ x y, x < 6 → y < 6 → cm' x y = if x = a ∧ y = b then true else cm x y) :
    setAt (tcells k cm) (1 + a * 6 + b) [B true] = tcells k cm' := by
  apply List.ext_getElem?
  intro j
  have hl := tcells_length k cm
  unfold setAt
  by_cases h0 : j = 1 + a * 6 + b
  · subst h0
    rw [List.getElem?_append_left (by simp [hl]; omega), List.getElem?_append_right (by simp; omega)]
    have : ((List.take (1 + a * 6 + b) (tcells k cm)).length) = 1 + a * 6 + b := by simp [hl]; omega
    rw [this]
    have e : 1 + a * 6 + b = (a * 6 + b) + 1 := by omega
    have hd : (a * 6 + b) / 6 = a := by omega
    have hm : (a * 6 + b) % 6 = b := by omega
    have hlt : a * 6 + b < 36 := by omega
    rw [e]
    simp [tcells, hlt, hd, hm, h a b ha hb]
  · have e2 : (List.take (1 + a * 6 + b) (tcells k cm) ++ [B true] ++ List.drop (1 + a * 6 + b + [B true].length) (tcells k cm))[j]? = (tcells k cm)[j]? := by
      by_cases hj : j < 1 + a * 6 + b
      · rw [List.getElem?_append_left (by simp [hl]; omega), List.getElem?_append_left (by simp [hl]; omega), List.getElem?_take, if_pos hj]
      · rw [List.getElem?_append_right (by simp [hl]; omega), List.getElem?_drop]
        congr 1
        simp [hl]
        omega
    rw [e2]
    cases j with
    | zero => simp [tcells]
    | succ j =>
      by_cases hj : j < 36
      · simp only [tcells, List.getElem?_cons_succ, List.getElem?_map, List.getElem?_range hj, Option.map_some]
        rw [h (j / 6) (j % 6) (by omega) (by omega)]
        rw [if_neg (by omega)]
      · simp [tcells, hj]

def readOk (k : Int) (ps : List (Int × Int)) : Bool := (decide (1 ≤ k) && decide (k ≤ 6) && decide (ps.length ≤ 30)) && ps.all fun p => decide (0 ≤ min p.1 p.2) && decide (max p.1 p.2 < k) && !decide (p.1 = p.2)

theorem readOk_eq (k : Int) (ps : List (Int × Int)) : readOk k ps = threadsOk k ps := by
  unfold readOk threadsOk tlOk
  rw [Bool.and_comm]
  congr 1
  induction ps with
  | nil => rfl
  | cons p ps ih =>
    rw [List.all_cons, List.all_cons, ih]
    congr 1
    unfold pok
    rw [Bool.eq_iff_iff]
    simp
    omega

theorem threadsOk_good {k : Int} {ps : List (Int × Int)} (h : threadsOk k ps = true) : good ps ∧ 1 ≤ k ∧ k ≤ 6 ∧ ps.length ≤ 30 ∧ ∀ p ∈ ps, 0 ≤ p.1 ∧ p.1 < k ∧ 0 ≤ p.2 ∧ p.2 < k ∧ p.1 ≠ p.2 := by
  simp only [threadsOk, tlOk, Bool.and_eq_true, decide_eq_true_eq, List.all_eq_true] at h
  obtain ⟨h1, ⟨h2, h3⟩, h4⟩ := h
  have key : ∀ p ∈ ps, 0 ≤ p.1 ∧ p.1 < k ∧ 0 ≤ p.2 ∧ p.2 < k ∧ p.1 ≠ p.2 := by
    intro p hp
    have := h1 p hp
    simp only [pok, Bool.and_eq_true, decide_eq_true_eq, Bool.not_eq_true', decide_eq_false_iff_not] at this
    omega
  refine ⟨fun p hp => ?_, h2, h3, h4, key⟩
  have := key p hp
  omega

theorem min2 (a b : Int) : iMinmax false [I a, I b] = some (I (min a b)) := by
  simp only [iMinmax, List.foldlM, max2, Bool.false_eq_true, if_false]
  have : (if b < a then b else a) = min a b := by split <;> omega
  rw [this]
  rfl

theorem max2' (a b : Int) : iMinmax true [I a, I b] = some (I (max a b)) := by
  simp only [iMinmax, List.foldlM, max2, if_true]
  have : (if b > a then b else a) = max a b := by split <;> omega
  rw [this]
  rfl

theorem load_last {h : Heap} {e : TypeId} {xs : List Value} {j : Nat} {v : Value} (hj : xs[j]? = some v) : iLoad false 1 (h ++ [.arr e xs]) (pt h.length j) = some v := by
  simp [iLoad, objCells, iPart, hj]

theorem cmOf_step (ps : List (Int × Int)) (p : Int × Int) {a b : Nat} (ha : p.1 = a) (hb : p.2 = b) (x y : Nat) :
    cmOf (ps ++ [p]) x y = if x = b ∧ y = a then true else if x = a ∧ y = b then true else cmOf ps x y := by
  unfold cmOf
  rw [List.any_append]
  simp only [List.any_cons, List.any_nil, Bool.or_false, ha, hb]
  have e : ∀ c d : Nat, decide ((c : Int) = (d : Int)) = decide (c = d) := by
    intro c d
    by_cases h : c = d
    · subst h; simp
    · rw [decide_eq_false h, decide_eq_false (by omega)]
  rw [e, e, e, e]
  by_cases h1 : x = b ∧ y = a
  · obtain ⟨rfl, rfl⟩ := h1; simp
  · rw [if_neg h1]
    by_cases h2 : x = a ∧ y = b
    · obtain ⟨rfl, rfl⟩ := h2; simp
    · rw [if_neg h2]
      have : (decide (a = x) && decide (b = y) || decide (a = y) && decide (b = x)) = false := by
        simp; omega
      rw [this, Bool.or_false]

theorem C61 {ps : List (Int × Int)} {pv : Value} {k : Int} {h : Heap} {K : Value → Heap → Prop} (hp : PS h pv ps) (hl : ps.length ≤ 100)
    (hno : threadsOk k ps = false → K (.tuple #[.pointer none, B false]) h) (hyes : threadsOk k ps = true → K (.tuple #[pt h.length 0, B true]) (h ++ [IObj.arr 138 (tcells k (cmOf ps))])) :
    CallP Try.prog 61 [I k, pv] h K := by
  have key : ∀ {K' : Value → Heap → Prop}, (threadsOk k ps = false → ∀ hx, EX h hx → K' (.tuple #[.pointer none, B false]) hx) →
      (threadsOk k ps = true → ∀ hx, EX h hx → hx[h.length]? = some (IObj.arr 138 (tcells k (cmOf ps))) → K' (.tuple #[pt h.length 0, B true]) hx) → CallP Try.prog 61 [I k, pv] h K' := by
    intro K' hno hyes
    refine f61 ?_
    simp only [T61, bin_lss, OP_some, q61z5, q61z7, q61z9]
    rw [← readOk_eq] at hno hyes
    unfold readOk at hno hyes
    have e30 : decide ((30 : Int) < (ps.length : Int)) = !decide (ps.length ≤ 30) := by
      by_cases h30 : ps.length ≤ 30
      · simp [h30]; omega
      · simp [h30]; omega
    by_cases c1 : k < 1
    · have := hno (by simp; omega)
      simp [c1, q61z11]
      exact this h (EX.refl h)
    · by_cases c2 : 6 < k
      · have := hno (by simp; omega)
        simp [c1, c2, q61z11]
        exact this h (EX.refl h)
      · by_cases c3 : ps.length ≤ 30
        · have g1 : decide (1 ≤ k) = true := by simp; omega
          have g2 : decide (k ≤ 6) = true := by simp; omega
          have g3 : decide (ps.length ≤ 30) = true := by simp [c3]
          rw [g1, g2, g3] at hno hyes
          simp only [Bool.true_and] at hno hyes
          have e1 : decide (k < 1) = false := by simp [c1]
          have e2 : decide (6 < k) = false := by simp [c2]
          simp only [e1, GdP_ff, bin_gtr, OP_some, e2, iPick_f, hp.len, e30, g3, Bool.not_true, q61z11, IfP_false]
          have eb : iBuild [(.int .i64 (0)), (.bool false), (.bool false), (.bool false), (.bool false), (.bool false), (.bool false), (.bool false), (.bool false), (.bool false), (.bool false), (.bool false), (.bool false), (.bool false), (.bool false), (.bool false), (.bool false), (.bool false), (.bool false), (.bool false), (.bool false), (.bool false), (.bool false), (.bool false), (.bool false), (.bool false), (.bool false), (.bool false), (.bool false), (.bool false), (.bool false), (.bool false), (.bool false), (.bool false), (.bool false), (.bool false), (.bool false)] [(0, 1, I k)]
              = some (.agg (tcells k (cmOf [])).toArray) := rfl
          simp only [I] at eb
          simp only [I, eb, OP_some]
          have ex : iBox 138 h (.agg (tcells k (cmOf [])).toArray) = some (pt h.length 0, h ++ [IObj.arr 138 (tcells k (cmOf []))]) := rfl
          simp only [ex, OH_some]
          refine loopL (σ := Nat × Heap) (fun p => [I p.1]) (fun p => p.2)
            (fun p => p.1 ≤ ps.length ∧ EX h p.2 ∧ p.2[h.length]? = some (IObj.arr 138 (tcells k (cmOf (ps.take p.1)))) ∧ (ps.take p.1).all (fun p => decide (0 ≤ min p.1 p.2) && decide (max p.1 p.2 < k) && !decide (p.1 = p.2)) = true) (fun p => ps.length - p.1)
            (0, h ++ [IObj.arr 138 (tcells k (cmOf []))]) rfl rfl ⟨by simp, EX.append _ _, by simp, rfl⟩ ?_
          rintro ⟨i, hx⟩ ⟨hi, hex, hget, hall⟩ L hL
          simp only at hi hex hget hall hL ⊢
          rw [q61z17]
          have hpx := hp.mono hex
          simp only [bin_lss, OP_some, IfP_dec]
          refine ⟨fun hlt => ?_, fun hge => ?_⟩
          · have hlt' : i < ps.length := by omega
            obtain ⟨b, o, s1, s2, s3, s4⟩ := hpx.get i hlt'
            have htk : ps.take (i + 1) = ps.take i ++ [ps[i]] := by rw [List.take_succ_eq_append_getElem hlt']
            simp only [s1, OP_some, s4]
            have ea : iAlloc 98 [I 0, I 0] hx = some (pt hx.length 0, hx ++ [IObj.arr 98 [I 0, I 0]]) := rfl
            simp only [I] at ea
            simp only [ea, OH_some]
            have es : oStore 2 (hx ++ [IObj.arr 98 [.int .i64 0, .int .i64 0]]) (pt hx.length 0) (.agg #[I ps[i].1, I ps[i].2]) = some (undef, hx ++ [IObj.arr 98 [I ps[i].1, I ps[i].2]]) := by
              simp [oStore, iStore, noTuple, vcells, Value.cells, setAt]
            simp only [I] at es
            simp only [I, es, OH_some]
            have l1 : iLoad false 1 (hx ++ [IObj.arr 98 [I ps[i].1, I ps[i].2]]) (pt hx.length 0) = some (I ps[i].1) := load_last rfl
            have l2 : iLoad false 1 (hx ++ [IObj.arr 98 [I ps[i].1, I ps[i].2]]) (pt hx.length 1) = some (I ps[i].2) := load_last rfl
            simp only [I] at l1 l2
            simp only [fadr_pt, OP_some, Nat.add_zero, Nat.zero_add, l1, l2]
            have m1 := min2 ps[i].1 ps[i].2
            have m2 := max2' ps[i].1 ps[i].2
            simp only [I] at m1 m2
            simp only [m1, OP_some, bin_lss, q61z26, fadr_pt, Nat.add_zero, Nat.zero_add, l1, l2, m2, bin_geq, q61z28, q61z30, bin_eql]
            have bad : (decide (0 ≤ min ps[i].1 ps[i].2) && decide (max ps[i].1 ps[i].2 < k) && !decide (ps[i].1 = ps[i].2)) = false → K' (.tuple #[.pointer none, .bool false]) (hx ++ [IObj.arr 98 [I ps[i].1, I ps[i].2]]) := by
              intro hb
              refine hno ?_ _ (hex.push _)
              rw [List.all_eq_false]
              exact ⟨ps[i], List.getElem_mem hlt', by rw [hb]; simp⟩
            simp only [I] at bad
            by_cases d1 : min ps[i].1 ps[i].2 < 0
            · have := bad (by rw [decide_eq_false (by omega)]; rfl)
              simp [d1, q61z28, q61z30, q61z32]
              exact this
            · by_cases d2 : k ≤ max ps[i].1 ps[i].2
              · have := bad (by rw [decide_eq_false (p := max ps[i].1 ps[i].2 < k) (by omega)]; simp)
                simp [d1, d2, q61z28, q61z30, q61z32]
                exact this
              · by_cases d3 : ps[i].1 = ps[i].2
                · have := bad (by rw [decide_eq_true d3]; simp)
                  simp only [decide_eq_false d1, GdP_ff, fadr_pt, OP_some, Nat.add_zero, Nat.zero_add, l1, l2, m2, bin_geq, decide_eq_false d2, iPick_f, bin_eql, decide_eq_true d3, q61z32, IfP_true]
                  exact this
                · simp only [decide_eq_false d1, GdP_ff, fadr_pt, OP_some, Nat.add_zero, Nat.zero_add, l1, l2, m2, bin_geq, decide_eq_false d2, iPick_f, bin_eql, decide_eq_false d3, q61z32, IfP_false, true_and, nilck_pt]
                  obtain ⟨a, haa⟩ : ∃ a : Nat, ps[i].1 = a := ⟨ps[i].1.toNat, by omega⟩
                  obtain ⟨c, hcc⟩ : ∃ c : Nat, ps[i].2 = c := ⟨ps[i].2.toNat, by omega⟩
                  have ha6 : a < 6 := by omega
                  have hc6 : c < 6 := by omega
                  have adr1 : ∀ x : Nat, x < 6 → iAdrArr 6 6 (pt h.length 1) (I x) = some (pt h.length (1 + x * 6)) := by intro x hx6; simp [iAdrArr]; omega
                  have adr2 : ∀ q x : Nat, x < 6 → iAdrArr 6 1 (pt h.length q) (I x) = some (pt h.length (q + x)) := by intro q x hx6; simp [iAdrArr]; omega
                  have b1 := adr1 a ha6
                  have b2 := adr2 (1 + a * 6) c hc6
                  have b3 := adr1 c hc6
                  have b4 := adr2 (1 + c * 6) a ha6
                  rw [← haa] at b1 b4
                  rw [← hcc] at b2 b3
                  simp only [I] at b1 b2 b3 b4
                  have hlx : h.length < hx.length := (List.getElem?_eq_some_iff.1 hget).1
                  have st1 : oStore 1 (hx ++ [IObj.arr 98 [I ps[i].1, I ps[i].2]]) (pt h.length (1 + a * 6 + c)) (.bool true) =
                      some (undef, (hx ++ [IObj.arr 98 [I ps[i].1, I ps[i].2]]).set h.length (IObj.arr 138 (setAt (tcells k (cmOf (ps.take i))) (1 + a * 6 + c) [B true]))) := by
                    have hg : (hx ++ [IObj.arr 98 [I ps[i].1, I ps[i].2]])[h.length]? = some (IObj.arr 138 (tcells k (cmOf (ps.take i)))) := by rw [List.getElem?_append_left hlx]; exact hget
                    have hln := tcells_length k (cmOf (ps.take i))
                    have : 1 + a * 6 + c + 1 ≤ (tcells k (cmOf (ps.take i))).length := by omega
                    simp [oStore, iStore, hg, noTuple, vcells, Value.cells, this]
                  let cm1 : Nat → Nat → Bool := fun x y => if x = a ∧ y = c then true else cmOf (ps.take i) x y
                  have hs1 := tcells_set (k := k) (cm := cmOf (ps.take i)) (cm' := cm1) ha6 hc6 (fun x y _ _ => rfl)
                  rw [hs1] at st1
                  simp only [I] at st1
                  simp only [b1, OP_some, b2, st1, OH_some]
                  have ld : ∀ (j : Nat) (v : Value), [I ps[i].1, I ps[i].2][j]? = some v → iLoad false 1 ((hx ++ [IObj.arr 98 [I ps[i].1, I ps[i].2]]).set h.length (IObj.arr 138 (tcells k cm1))) (pt hx.length j) = some v := by
                    intro j v hv
                    have : ((hx ++ [IObj.arr 98 [I ps[i].1, I ps[i].2]]).set h.length (IObj.arr 138 (tcells k cm1)))[hx.length]? = some (IObj.arr 98 [I ps[i].1, I ps[i].2]) := by
                      rw [List.getElem?_set_ne (by omega)]
                      simp
                    have h2 : objCells ((hx ++ [IObj.arr 98 [I ps[i].1, I ps[i].2]]).set h.length (IObj.arr 138 (tcells k cm1))) hx.length = some [I ps[i].1, I ps[i].2] := by
                      unfold objCells
                      rw [this]
                    simp only [iLoad, h2, Option.bind_some, iPart]
                    simpa using hv
                  have ld1 := ld 1 _ rfl
                  have ld0 := ld 0 _ rfl
                  simp only [I] at ld1 ld0
                  refine ⟨⟨ld1, ld0, trivial⟩, ?_⟩
                  have st2 : oStore 1 ((hx ++ [IObj.arr 98 [I ps[i].1, I ps[i].2]]).set h.length (IObj.arr 138 (tcells k cm1))) (pt h.length (1 + c * 6 + a)) (.bool true) =
                      some (undef, ((hx ++ [IObj.arr 98 [I ps[i].1, I ps[i].2]]).set h.length (IObj.arr 138 (tcells k cm1))).set h.length (IObj.arr 138 (setAt (tcells k cm1) (1 + c * 6 + a) [B true]))) := by
                    have hg : ((hx ++ [IObj.arr 98 [I ps[i].1, I ps[i].2]]).set h.length (IObj.arr 138 (tcells k cm1)))[h.length]? = some (IObj.arr 138 (tcells k cm1)) := by
                      rw [List.getElem?_set_self (by simp; omega)]
                    have hln := tcells_length k cm1
                    have : 1 + c * 6 + a + 1 ≤ (tcells k cm1).length := by omega
                    simp [oStore, iStore, hg, noTuple, vcells, Value.cells, this]
                  have hs2 := tcells_set (k := k) (cm := cm1) (cm' := cmOf (ps.take (i + 1))) hc6 ha6 (fun x y _ _ => by rw [htk, cmOf_step _ _ haa hcc])
                  rw [hs2] at st2
                  simp only [I] at st2
                  simp only [b3, OP_some, b4, st2, OH_some, bin_add, inc i (by omega)]
                  refine hL (i + 1, _) ⟨by omega, ((hex.push _).set (Nat.le_refl _) _).set (Nat.le_refl _) _, ?_, ?_⟩ (by simp; omega)
                  · rw [List.getElem?_set_self (by simp; omega)]
                  · simp only [htk, List.all_append, hall, Bool.true_and, List.all_cons, List.all_nil, Bool.and_true]
                    rw [decide_eq_true (by omega), decide_eq_true (by omega), decide_eq_false d3]
                    rfl
          · have : i = ps.length := by omega
            subst this
            rw [List.take_length] at hget hall
            rw [q61z34]
            exact hyes hall hx hex hget
        · have := hno (by simp; omega)
          have e1 : decide (k < 1) = false := by simp [c1]
          have e2 : decide (6 < k) = false := by simp [c2]
          have g3 : decide (ps.length ≤ 30) = false := by simp; omega
          simp only [e1, GdP_ff, bin_gtr, OP_some, e2, iPick_f, hp.len, e30, g3, Bool.not_false, q61z11, IfP_true]
          exact this h (EX.refl h)
  cases ht : threadsOk k ps with
  | false =>
    refine callP_gc (v := .tuple #[.pointer none, B false]) (Ren.tuple (l := [fun _ => .pointer none, fun _ => B false]) (.cons (Ren.scal rfl) (.cons (Ren.scal rfl) .nil))) ?_ (hno ht)
    exact key (fun _ hx hex => ⟨rfl, hex⟩) (fun h1 => by rw [ht] at h1; cases h1)
  | true =>
    refine callP_new (V := fun i => .tuple #[pt i 0, B true]) (o := IObj.arr 138 (tcells k (cmOf ps))) (Ren.tuple (l := [fun i => pt i 0, fun _ => B true]) (.cons (Ren.pt 0) (.cons (Ren.scal rfl) .nil))) ?_ ?_ (hyes ht)
    · simp [plainObj, tcells, scal]
    · exact key (fun h1 => by rw [ht] at h1; cases h1) (fun _ hx hex hg => ⟨hex, h.length, Nat.le_refl _, hg, rfl⟩)

end Go.Proofs.Ytjdlcokhlphmhaa
