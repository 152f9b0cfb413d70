/-
  What is refused: threads, seams; both sides.
-/
import Derived.Test.YtjdlcokhlphmhaaCt3
namespace Go.Proofs.Ytjdlcokhlphmhaa
open Go.Sim

/-- Strings in memory. -/
structure SS (h : Heap) (v : Value) (ls : List (List UInt8)) : Prop where
  len : iLenSl v = some (I ls.length)
  get : ∀ k (hk : k < ls.length), ∃ i o, iAdrSl 1 v (I k) = some (pt i o) ∧ iLoad false 1 h (pt i o) = some (S ls[k])

theorem SS.mono {h h' : Heap} {v : Value} {ls : List (List UInt8)} (k : EX h h') (p : SS h v ls) : SS h' v ls :=
  ⟨p.len, fun j hj => let ⟨i, o, a, b⟩ := p.get j hj; ⟨i, o, a, EX.load k b⟩⟩

theorem SS.sl {h : Heap} {e : TypeId} {i : Nat} {ls : List (List UInt8)} (hc : objCells h i = some (ls.map S)) : SS h (sl e i 0 ls.length) ls := by
  refine ⟨rfl, fun k hk => ⟨i, k, ?_, ?_⟩⟩
  · have : (0 : Int) ≤ (k : Int) ∧ (k : Int) < (ls.length : Int) := by omega
    simp [Go.Sim.sl, iAdrSl, this]
  · simp [iLoad, hc, iPart, hk]

/-- One pair is of k letters. -/
def pok (k : Int) (p : Int × Int) : Bool := (decide (0 ≤ p.1) && decide (p.1 ≤ k)) && ((decide (0 ≤ p.2) && decide (p.2 ≤ k)) && !decide (p.1 = p.2))
def tlOk (k : Int) (n : Nat) : Bool := (decide (1 ≤ k) && decide (k ≤ 6)) && decide (n ≤ 30)
def threadsOk (k : Int) (ps : List (Int × Int)) : Bool := ps.all (pok (k - 1)) && tlOk k ps.length

theorem threadsOk_wrap (k : Int) (ps : List (Int × Int)) : (ps.all (pok (IntKind.wrap .i64 (k - 1))) && tlOk k ps.length) = threadsOk k ps := by
  unfold threadsOk
  cases ht : tlOk k ps.length with
  | false => simp
  | true =>
    simp only [tlOk, Bool.and_eq_true, decide_eq_true_eq] at ht
    rw [wrap64 (by omega) (by omega)]

theorem C24 {ps : List (Int × Int)} {pv : Value} {k : Int} {h : Heap} {K : Value → Heap → Prop} (hp : PS h pv ps) (hl : ps.length ≤ 100) (hk : K (B (threadsOk k ps)) h) : CallP Try.prog 24 [I k, pv] h K := by
  refine f24 ?_
  rw [← threadsOk_wrap] at hk
  refine loopL (σ := Nat) (fun i => [I i]) (fun _ => h) (fun i => i ≤ ps.length ∧ ps.all (pok (IntKind.wrap .i64 (k - 1))) = (ps.drop i).all (pok (IntKind.wrap .i64 (k - 1)))) (fun i => ps.length - i) 0 rfl rfl ⟨by omega, rfl⟩ ?_
  rintro i ⟨hi, hf⟩ L hL
  rw [q24z5]
  simp only [hp.len, OP_some, bin_lss, IfP_dec]
  refine ⟨fun hlt => ?_, fun hge => ?_⟩
  · have hlt' : i < ps.length := by omega
    obtain ⟨b, o, g1, g2, g3, _⟩ := hp.get i hlt'
    rw [List.drop_eq_getElem_cons hlt', List.all_cons] at hf
    have no : pok (IntKind.wrap .i64 (k - 1)) ps[i] = false → K (.bool false) h := by
      intro hn
      rw [hn, Bool.false_and] at hf
      rw [hf, Bool.false_and] at hk
      exact hk
    have yes : pok (IntKind.wrap .i64 (k - 1)) ps[i] = true → L [I ((i + 1 : Nat) : Int)] h := by
      intro hn
      rw [hn, Bool.true_and] at hf
      exact hL (i + 1) ⟨by omega, hf⟩ (by omega)
    simp only [pok] at no yes
    simp only [g1, OP_some, fadr_pt, Nat.add_zero, g2, bin_sub, true_and]
    refine C69 _ _ _ ?_
    generalize (decide ((0 : Int) ≤ ps[i].1) && decide (ps[i].1 ≤ IntKind.wrap .i64 (k - 1))) = b1 at no yes ⊢
    simp only [un_not, OP_some]
    cases b1 with
    | false => simp; exact no (by simp)
    | true =>
      simp only [Bool.not_true, GdP_ff, OP_some, g3]
      refine C69 _ _ _ ?_
      generalize (decide ((0 : Int) ≤ ps[i].2) && decide (ps[i].2 ≤ IntKind.wrap .i64 (k - 1))) = b2 at no yes ⊢
      simp only [un_not, OP_some, true_and]
      cases b2 with
      | false => simp; exact no (by simp)
      | true =>
        simp only [Bool.not_true, iPick_f, OP_some, GdP_ff, g1, fadr_pt, Nat.add_zero, g2, g3, bin_eql, IfP_dec, bin_add, inc i (by omega), true_and]
        refine ⟨fun he => no (by simp [he]), fun he => yes (by simp [he])⟩
  · have : i = ps.length := by omega
    subst this
    simp only [List.drop_length, List.all_nil] at hf
    rw [hf, Bool.true_and] at hk
    rw [q24z12]
    refine C69 _ _ _ ?_
    simp only [tlOk] at hk
    generalize (decide ((1 : Int) ≤ k) && decide (k ≤ 6)) = b1 at hk ⊢
    rw [q24z15]
    have e30 : decide ((ps.length : Int) ≤ 30) = decide (ps.length ≤ 30) := by
      by_cases h30 : ps.length ≤ 30
      · simp [h30]; omega
      · simp [h30]; omega
    cases b1 <;> simp [q24z17, hp.len, e30] at hk ⊢ <;> exact hk

/-- A letter that is none of the first k. -/
def badL (k : Int) (c : UInt8) : Bool := decide ((c.toNat : Int) < 97) || decide (k ≤ (c.toNat : Int) - 97)

def seamE (k : Int) (s : List UInt8) (most : Nat) : Int := if most < s.length then 3 else if s.any (badL k) then 2 else 0

theorem C58 {s : List UInt8} {k : Int} {most : Nat} {h : Heap} {K : Value → Heap → Prop} (hs : s.length ≤ 1000) (hk : K (I (seamE k s most)) h) : CallP Try.prog 58 [I k, S s, I most] h K := by
  refine f58 ?_
  unfold seamE at hk
  simp only [T58, lenS_S, OP_some, bin_gtr, IfP_dec]
  refine ⟨fun hgt => ?_, fun hle => ?_⟩
  · rw [if_pos (by omega)] at hk
    exact hk
  · rw [if_neg (by omega)] at hk
    refine loopL (σ := Nat) (fun i => [I i]) (fun _ => h) (fun i => i ≤ s.length ∧ s.any (badL k) = (s.drop i).any (badL k)) (fun i => s.length - i) 0 rfl rfl ⟨by omega, rfl⟩ ?_
    rintro i ⟨hi, hf⟩ L hL
    rw [q58z8]
    simp only [lenS_S, OP_some, bin_lss, IfP_dec]
    refine ⟨fun hlt => ?_, fun hge => ?_⟩
    · have hlt' : i < s.length := by omega
      rw [List.drop_eq_getElem_cons hlt', List.any_cons] at hf
      have yes : badL k s[i] = true → K (.int .i64 2) h := by
        intro hn
        rw [hn, Bool.true_or] at hf
        rw [if_pos hf] at hk
        exact hk
      have no : badL k s[i] = false → L [I ((i + 1 : Nat) : Int)] h := by
        intro hn
        rw [hn, Bool.false_or] at hf
        exact hL (i + 1) ⟨by omega, hf⟩ (by omega)
      simp only [badL] at yes no
      rw [idxS_S s hlt']
      simp only [OP_some, bin_lss, q58z15]
      by_cases hlo : (s[i].toNat : Int) < 97
      · have e1 : decide ((s[i].toNat : Int) < 97) = true := by simpa using hlo
        rw [e1]
        simp only [GdP_tf, q58z17, iPick_t, OP_some, IfP_true]
        exact yes (by simp [hlo])
      · have e1 : decide ((s[i].toNat : Int) < 97) = false := by simpa using hlo
        rw [e1]
        have hb := UInt8.toNat_lt s[i]
        simp only [GdP_ff, idxS_S s hlt', OP_some, bin_sub, conv_int, bin_geq]
        rw [wrapU8 (by omega) (by omega), wrap64 (by omega) (by omega)]
        simp only [q58z17, iPick_f, OP_some, IfP_dec, bin_add, inc i (by omega), true_and]
        refine ⟨fun hge => yes (by simp [hge]), fun hge => no ?_⟩
        simp [hlo, hge]
    · have : i = s.length := by omega
      subst this
      simp only [List.drop_length, List.any_nil] at hf
      rw [hf] at hk
      exact hk

/-- What a list of seams is refused for: too long comes first. -/
def seamsE (k : Int) (ls : List (List UInt8)) (most : Nat) : Int := if ls.any (fun s => decide (most < s.length)) then 3 else if ls.any (fun s => s.any (badL k)) then 2 else 0
def whyE (k : Int) (ps : List (Int × Int)) (ls : List (List UInt8)) (most : Nat) : Int := if threadsOk k ps then seamsE k ls most else 1

theorem any_false_mem {α : Type} {p : α → Bool} {l : List α} (h : l.any p = false) {x : α} (hx : x ∈ l) : p x = false := by
  rw [List.any_eq_false] at h
  simpa using h x hx

theorem C19 {ps : List (Int × Int)} {pv lv : Value} {ls : List (List UInt8)} {k : Int} {most : Nat} {h : Heap} {K : Value → Heap → Prop} (hp : PS h pv ps) (hl : ps.length ≤ 100) (hss : SS h lv ls) (hls : ls.length ≤ 1000)
    (hs : ∀ s ∈ ls, s.length ≤ 1000) (hk : K (I (whyE k ps ls most)) h) : CallP Try.prog 19 [I k, pv, I most, lv] h K := by
  refine callP_gc (v := I (whyE k ps ls most)) (Ren.scal rfl) ?_ hk
  refine f19 (C24 hp hl ?_)
  unfold whyE
  cases ht : threadsOk k ps with
  | false => simp; exact EX.refl h
  | true =>
    simp only [un_not, OP_some, Bool.not_true, IfP_false, if_true]
    have e1 : iMkSl 28 2 [.int .i64 0] h [(0, 1, .int .i64 3), (1, 1, .int .i64 2)] = some (sl 28 h.length 0 2, h ++ [.arr 28 [I 3, I 2]]) := by
      simp [iMkSl, fillL, zrep, noTuple, vcells, Value.cells, setAt]
    simp only [e1, OH_some]
    simp only [sl, iLenSl, OP_some]
    have hx : EX h (h ++ [.arr 28 [I 3, I 2]]) := EX.append _ _
    have hss' := hss.mono hx
    -- rounds: the errors; in each the seams
    refine loopL (σ := Nat) (fun j => [I j]) (fun _ => h ++ [.arr 28 [I 3, I 2]]) (fun j => j ≤ 2 ∧ (1 ≤ j → ls.any (fun s => decide (most < s.length)) = false) ∧ (2 ≤ j → ls.any (fun s => s.any (badL k)) = false)) (fun j => 2 - j) 0 rfl rfl ⟨by omega, by omega, by omega⟩ ?_
    rintro j ⟨hj, hj1, hj2⟩ L hL
    rw [q19z8]
    simp only [bin_lss, OP_some, IfP_dec]
    refine ⟨fun hlt => ?_, fun hge => ?_⟩
    · have hjlt : j < 2 := by omega
      have g1 : iAdrSl 1 (.slice (some ⟨h.length, 0, some 28⟩) 2 2) (I j) = some (pt h.length j) := by
        have : (0 : Int) ≤ (j : Int) ∧ (j : Int) < 2 := by omega
        simp [iAdrSl, this]
      have g2 : iLoad false 1 (h ++ [.arr 28 [I 3, I 2]]) (pt h.length j) = some (I (3 - j)) := by
        have : j = 0 ∨ j = 1 := by omega
        rcases this with rfl | rfl <;> simp [iLoad, objCells, iPart]
      simp only [g1, OP_some, g2]
      refine loopL (σ := Nat) (fun i => [I i]) (fun _ => h ++ [.arr 28 [I 3, I 2]]) (fun i => i ≤ ls.length ∧ (∀ s ∈ ls.take i, s.length ≤ most) ∧ (j = 1 → ∀ s ∈ ls.take i, s.any (badL k) = false)) (fun i => ls.length - i) 0 rfl rfl ⟨by omega, by simp, by simp⟩ ?_
      rintro i ⟨hi, hi1, hi2⟩ L2 hL2
      rw [q19z16]
      simp only [hss'.len, OP_some, bin_lss, IfP_dec]
      refine ⟨fun hlt2 => ?_, fun hge2 => ?_⟩
      · have hilt : i < ls.length := by omega
        obtain ⟨b, o, s1, s2⟩ := hss'.get i hilt
        simp only [s1, OP_some, s2]
        refine C58 (hs _ (List.getElem_mem hilt)) ?_
        simp only [bin_eql, OP_some]
        have htk : ls.take (i + 1) = ls.take i ++ [ls[i]] := by rw [List.take_succ_eq_append_getElem hilt]
        have hmem : ls[i] ∈ ls := List.getElem_mem hilt
        have go : ls[i].length ≤ most → (j = 1 → ls[i].any (badL k) = false) → L2 [I ((i + 1 : Nat) : Int)] (h ++ [.arr 28 [I 3, I 2]]) := by
          intro a1 a2
          refine hL2 (i + 1) ⟨by omega, ?_, ?_⟩ (by omega)
          · intro s hm
            rw [htk, List.mem_append, List.mem_singleton] at hm
            rcases hm with hm | rfl
            · exact hi1 s hm
            · exact a1
          · intro hj s hm
            rw [htk, List.mem_append, List.mem_singleton] at hm
            rcases hm with hm | rfl
            · exact hi2 hj s hm
            · exact a2 hj
        have hj01 : j = 0 ∨ j = 1 := by omega
        unfold seamE seamsE
        by_cases hlong : most < ls[i].length
        · have hany : ls.any (fun s => decide (most < s.length)) = true := List.any_eq_true.2 ⟨_, hmem, by simpa using hlong⟩
          rw [if_pos hlong, if_pos hany]
          rcases hj01 with rfl | rfl
          · simp [q19z24, q19z26, q19z28, q19z30]
            exact hx
          · have := hj1 (by omega)
            rw [hany] at this
            cases this
        · rw [if_neg hlong]
          by_cases hbad : ls[i].any (badL k) = true
          · rw [if_pos hbad]
            have hany : ls.any (fun s => s.any (badL k)) = true := List.any_eq_true.2 ⟨_, hmem, hbad⟩
            rcases hj01 with rfl | rfl
            · simp only [q19z24, q19z26, q19z28, q19z30]
              simp [inc i (by omega)]
              have := go (by omega) (by omega)
              simpa using this
            · rw [hj1 (by omega), if_neg (by simp), if_pos hany]
              simp [q19z24, q19z26, q19z28, q19z30]
              exact hx
          · rw [if_neg hbad]
            have hgo := go (by omega) (fun _ => by simpa using hbad)
            rcases hj01 with rfl | rfl
            · simp only [q19z24, q19z26, q19z28, q19z30]
              simp [inc i (by omega)]
              simpa using hgo
            · simp only [q19z24, q19z26, q19z28, q19z30]
              simp [inc i (by omega)]
              simpa using hgo
      · have : i = ls.length := by omega
        subst this
        rw [List.take_length] at hi1 hi2
        rw [q19z32]
        simp only [bin_add, OP_some, inc j (by omega), true_and]
        refine hL (j + 1) ⟨by omega, fun _ => ?_, fun h2 => ?_⟩ (by omega)
        · rw [List.any_eq_false]; intro s hm; have := hi1 s hm; simp; omega
        · rw [List.any_eq_false]; intro s hm; rw [hi2 (by omega) s hm]; simp
    · have : j = 2 := by omega
      subst this
      unfold seamsE
      rw [hj1 (by omega), hj2 (by omega)]
      exact ⟨rfl, hx⟩

end Go.Proofs.Ytjdlcokhlphmhaa
