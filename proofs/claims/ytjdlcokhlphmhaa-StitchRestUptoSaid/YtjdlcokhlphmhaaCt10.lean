/-
  The law S2: two seams are equal exactly if they are the same without all letters but two that do not commute.
-/
import Derived.Test.YtjdlcokhlphmhaaCt9
namespace Go.Proofs.Ytjdlcokhlphmhaa
open Go.Sim

theorem freeP_symm (ps : List (Int × Int)) (a b : UInt8) : freeP ps a b = freeP ps b a := by
  unfold freeP
  refine any_congr' fun p _ => ?_
  unfold hit
  rw [Bool.or_comm]

theorem letters_not_bad {n : Nat} {s : List UInt8} (hn : n ≤ 6) (h : letters n s) : s.any (badL n) = false := by
  rw [List.any_eq_false]
  intro c hc
  obtain ⟨a, ha, rfl⟩ := h c hc
  have := lt_toNat (a := a) (by omega)
  simp only [badL, this]
  simp
  omega

theorem whyE_zero {n : Nat} {ps : List (Int × Int)} {ls : List (List UInt8)} {most : Nat} (hn : n ≤ 6) (ht : threadsOk n ps = true) (h : ∀ s ∈ ls, letters n s ∧ s.length ≤ most) : whyE n ps ls most = 0 := by
  unfold whyE seamsE
  rw [ht, if_pos rfl]
  have h1 : ls.any (fun s => decide (most < s.length)) = false := by
    rw [List.any_eq_false]; intro s hs; have := (h s hs).2; simp; omega
  have h2 : ls.any (fun s => s.any (badL n)) = false := by
    rw [List.any_eq_false]; intro s hs; rw [letters_not_bad hn (h s hs).1]; simp
  rw [h1, h2]
  rfl

/-- Equal's answer at valid seams. -/
theorem equalV_ok {n : Nat} {ps : List (Int × Int)} {s u : List UInt8} (h : whyE n ps [s, u] 40 = 0) : equalV n ps s u = .tuple #[B (decide (Lst ps s = Lst ps u)), I 0] := by
  unfold equalV
  rw [h]
  simp

theorem Lst_only {ps : List (Int × Int)} {s t : List UInt8} {n : Nat} (hn : n ≤ 6) (hs : letters n s) (ht : letters n t) :
    Lst ps s = Lst ps t ↔ ∀ a d, a ≤ d → d < n → dep (freeP ps) (lt a) (lt d) → only (lt a) (lt d) s = only (lt a) (lt d) t := by
  have l1 : leastF (freeP ps) n s.length s = Lst ps s := leastF_eq hn hs fun _ _ _ _ => rfl
  have l2 : leastF (freeP ps) n t.length t = Lst ps t := leastF_eq hn ht fun _ _ _ _ => rfl
  constructor
  · intro h a d _ _ had
    rw [← l1, ← l2] at h
    rw [← only_leastF (freeP_symm ps) had s.length s hs rfl, ← only_leastF (freeP_symm ps) had t.length t ht rfl, h]
  · intro h
    rw [← l1, ← l2]
    obtain ⟨q1, q2⟩ := leastF_of_only (freeP_symm ps) s.length s t hs ht rfl fun a d ha hd had => by
      rcases Nat.le_total a d with h1 | h1
      · exact h a d h1 hd had
      · rw [only_comm (lt a), only_comm (lt a)]
        refine h d a h1 ha ?_
        rcases had with h2 | h2
        · exact .inl h2.symm
        · exact .inr (by rw [freeP_symm]; exact h2)
    rw [q2, q1]

/-- What the law's two loops find. -/
def wantF (ps : List (Int × Int)) (s t : List UInt8) (n a d : Nat) : Prop :=
  (∀ b e, b < a → b ≤ e → e < n → dep (freeP ps) (lt b) (lt e) → only (lt b) (lt e) s = only (lt b) (lt e) t) ∧ (∀ e, a ≤ e → e < d → e < n → dep (freeP ps) (lt a) (lt e) → only (lt a) (lt e) s = only (lt a) (lt e) t)

theorem sub97 {a : Nat} (h : a < 100) : IntKind.wrap .u8 (((lt a).toNat : Int) - 97) = (a : Int) := by
  rw [lt_toNat h, wrapU8 (by omega) (by omega)]
  omega

theorem C5loop {ps : List (Int × Int)} {qv e13 : Value} {n : Nat} {s t : List UInt8} {w0 : Bool} {h : Heap} {K : Value → Heap → Prop} (hp : PS h qv ps) (hg : good ps) (hl : ps.length ≤ 100) (hn6 : n ≤ 6) (hs : s.length ≤ 1000) (ht : t.length ≤ 1000)
    (hk : ∀ w : Bool, (w = true ↔ ∀ a d, a ≤ d → d < n → dep (freeP ps) (lt a) (lt d) → only (lt a) (lt d) s = only (lt a) (lt d) t) → p5z41 Try.prog K (B w0) e13 (B w) h) :
    LoopP [(.bool true), (.int .u8 (97))] h fun L1 xs hx => p5z18 Try.prog K (I n) qv (S s) (S t) (B w0) e13 L1 xs hx := by
  refine loopL (σ := Bool × Nat) (fun p => [B p.1, cv (lt p.2)]) (fun _ => h) (fun p => p.2 ≤ n ∧ (p.1 = true ↔ wantF ps s t n p.2 p.2)) (fun p => n - p.2) (true, 0) rfl rfl ⟨by simp, by simp [wantF]⟩ ?_
  rintro ⟨w, a⟩ ⟨ha, hw⟩ L hL
  simp only at ha hw hL ⊢
  rw [q5z18]
  simp only [bin_sub, OP_some, sub97 (show a < 100 by omega), conv_int]
  rw [wrap64 (by omega) (by omega)]
  simp only [bin_lss, OP_some, IfP_dec]
  refine ⟨fun hlt => ?_, fun hge => ?_⟩
  · refine loopL (σ := Bool × Nat) (fun p => [B p.1, cv (lt p.2)]) (fun _ => h) (fun p => a ≤ p.2 ∧ p.2 ≤ n ∧ (p.1 = true ↔ wantF ps s t n a p.2)) (fun p => n - p.2) (w, a) rfl rfl ⟨Nat.le_refl _, ha, hw⟩ ?_
    rintro ⟨w, d⟩ ⟨had, hd, hw⟩ L2 hL2
    simp only at had hd hw hL2 ⊢
    rw [q5z25]
    simp only [bin_sub, OP_some, sub97 (show d < 100 by omega), conv_int]
    rw [wrap64 (by omega) (by omega)]
    simp only [bin_lss, OP_some, IfP_dec]
    refine ⟨fun hlt2 => ?_, fun hge2 => ?_⟩
    · have next : ∀ w' : Bool, (w' = true ↔ wantF ps s t n a (d + 1)) → p5z39 Try.prog K (I n) qv (S s) (S t) (B w0) e13 (B w') (cv (lt a)) (cv (lt d)) L L2 h := by
        intro w' hw'
        simp only [q5z39, bin_add, OP_some, lt_succ (show d < 60 by omega), true_and]
        exact hL2 (w', d + 1) ⟨by show a ≤ d + 1; omega, by show d + 1 ≤ n; omega, hw'⟩ (by show n - (d + 1) < n - d; omega)
      have step : ∀ P : Prop, (dep (freeP ps) (lt a) (lt d) → (P ↔ only (lt a) (lt d) s = only (lt a) (lt d) t)) → dep (freeP ps) (lt a) (lt d) → ((w = true ∧ P) ↔ wantF ps s t n a (d + 1)) := by
        intro P hP hdep
        rw [hw, hP hdep]
        constructor
        · rintro ⟨⟨h1, h2⟩, h3⟩
          refine ⟨h1, fun e he1 he2 he3 he4 => ?_⟩
          by_cases hed : e = d
          · subst hed; exact h3
          · exact h2 e he1 (by omega) he3 he4
        · rintro ⟨h1, h2⟩
          exact ⟨⟨h1, fun e he1 he2 he3 he4 => h2 e he1 (by omega) he3 he4⟩, h2 d had (by omega) (by omega) hdep⟩
      have skip : ¬ dep (freeP ps) (lt a) (lt d) → (w = true ↔ wantF ps s t n a (d + 1)) := by
        intro hnd
        rw [hw]
        constructor
        · rintro ⟨h1, h2⟩
          refine ⟨h1, fun e he1 he2 he3 he4 => ?_⟩
          by_cases hed : e = d
          · subst hed; exact absurd he4 hnd
          · exact h2 e he1 (by omega) he3 he4
        · rintro ⟨h1, h2⟩
          exact ⟨h1, fun e he1 he2 he3 he4 => h2 e he1 (by omega) he3 he4⟩
      have test : dep (freeP ps) (lt a) (lt d) → p5z36 Try.prog K (I n) qv (S s) (S t) (B w0) e13 (cv (lt a)) (cv (lt d)) (B w) L L2 h := by
        intro hdep
        rw [q5z36]
        cases w with
        | false =>
          simp only [GdP_ft, q5z38, iPick_f, OP_some]
          refine next false ⟨fun h => (by cases h), fun h => ?_⟩
          exact ((step (only (lt a) (lt d) s = only (lt a) (lt d) t) (fun _ => Iff.rfl) hdep).2 h).1
        | true =>
          simp only [GdP_tt]
          refine C34 hs (C34 ht ?_)
          simp only [bin_eqlS, OP_some, q5z38, iPick_t]
          refine next _ ?_
          rw [decide_eq_true_eq]
          have := step (only (lt a) (lt d) s = only (lt a) (lt d) t) (fun _ => Iff.rfl) hdep
          rw [← this]
          simp
      simp only [bin_eql, OP_some, cv_inj]
      rw [q5z32]
      by_cases had2 : lt a = lt d
      · simp only [decide_eq_true had2, GdP_tf, q5z34, iPick_t, OP_some, IfP_true]
        exact test (.inl had2)
      · simp only [decide_eq_false had2, GdP_ff]
        refine C33 hp hg hl ?_
        simp only [un_not, OP_some, q5z34, iPick_f]
        cases hfr : freeP ps (lt a) (lt d) with
        | false =>
          simp only [Bool.not_false, IfP_true]
          exact test (.inr hfr)
        | true =>
          simp only [Bool.not_true, IfP_false]
          refine next w (skip ?_)
          rintro (h1 | h1)
          · exact had2 h1
          · rw [hfr] at h1; cases h1
    · have : d = n := by omega
      subst this
      simp only [q5z40, bin_add, OP_some, lt_succ (show a < 60 by omega), true_and]
      refine hL (w, a + 1) ⟨by show a + 1 ≤ d; omega, ?_⟩ (by show d - (a + 1) < d - a; omega)
      show w = true ↔ wantF ps s t d (a + 1) (a + 1)
      rw [hw]
      constructor
      · rintro ⟨h1, h2⟩
        refine ⟨fun b e hb hbe he hdep => ?_, fun e he1 he2 => by omega⟩
        by_cases hba : b = a
        · subst hba; exact h2 e hbe he he hdep
        · exact h1 b e (by omega) hbe he hdep
      · rintro ⟨h1, _⟩
        exact ⟨fun b e hb => h1 b e (by omega), fun e he1 _ he3 hdep => h1 a e (by omega) he1 he3 hdep⟩
  · have : a = n := by omega
    subst this
    refine hk w ?_
    rw [hw]
    constructor
    · rintro ⟨h1, _⟩ b d hbd hd hdep
      exact h1 b d (by omega) hbd hd hdep
    · intro h1
      exact ⟨fun b e hb hbe he hdep => h1 b e hbe he hdep, fun e he1 he2 he3 => by omega⟩

theorem C5 {kk f : Int} {xv bv : Value} {ns ms : List Int} {h : Heap} {K : Value → Heap → Prop} (h0 : 0 ≤ kk) (h1 : kk < 256) (hx : NS h xv .u8 ns) (hux : U8 ns) (hb : NS h bv .u8 ms) (hub : U8 ms) (hk : ∀ h', K (.bool true) h') :
    CallP Try.prog 5 [.agg #[.int .u8 kk, .int .u16 f], xv, bv] h K := by
  refine f5 ?_
  have e1 : iBox 54 h (.agg #[.int .u8 kk, .int .u16 f]) = some (pt h.length 0, h ++ [.arr 54 [.int .u8 kk, .int .u16 f]]) := rfl
  have e2 : iLoad true 2 (h ++ [.arr 54 [.int .u8 kk, .int .u16 f]]) (pt h.length 0) = some (.agg #[.int .u8 kk, .int .u16 f]) := by simp [iLoad, objCells, iPart]
  simp only [T5, e1, OH_some, e2, OP_some]
  have x1 : EX h (h ++ [.arr 54 [.int .u8 kk, .int .u16 f]]) := EX.append _ _
  have hx := hx.mono x1
  have hb := hb.mono x1
  generalize h ++ [IObj.arr 54 [.int .u8 kk, .int .u16 f]] = hA at hx hb ⊢
  refine C30 h0 h1 ?_
  intro n ps hn1 hn6 ht
  have x2 : EX hA (hA ++ [.arr 98 (pcells ps)]) := EX.append _ _
  have hx := hx.mono x2
  have hb := hb.mono x2
  obtain ⟨hg, _, _, hl30, _⟩ := threadsOk_good ht
  have hps : PS (hA ++ [.arr 98 (pcells ps)]) (sl 98 hA.length 0 ps.length) ps := PS.sl (by simp [objCells])
  simp only [ext_tuple, pair0, pair1, OP_some]
  generalize sl 98 hA.length 0 ps.length = qv at hps ⊢
  generalize hA ++ [IObj.arr 98 (pcells ps)] = hB at hx hb hps ⊢
  refine C31 (most := 40) hn1 hn6 (by omega) hx hux ?_
  intro s hs hs40
  refine C32 hps hg (by omega) hb hub hs (by omega) ?_
  intro t hlt htl
  -- from here on any seam of these letters serves
  have rest : ∀ t, letters n t → t.length = s.length → p5z12 Try.prog K (I n) qv (S s) (S t) hB := by
    intro t hlt htl
    rw [q5z12]
    refine C18 hps (by omega) (by omega) (by omega) ?_
    have hw0 : whyE n ps [s, t] 40 = 0 := whyE_zero hn6 ht (by intro u hu; simp at hu; rcases hu with rfl | rfl; exact ⟨hs, hs40⟩; exact ⟨hlt, by omega⟩)
    rw [equalV_ok hw0]
    simp only [ext_tuple, pair0, pair1, OP_some]
    refine C5loop hps hg (by omega) hn6 (by omega) (by omega) ?_
    intro w hw
    have : decide (Lst ps s = Lst ps t) = w := by
      rw [Bool.eq_iff_iff, decide_eq_true_eq, Lst_only hn6 hs hlt, hw]
    rw [this, q5z41]
    simp only [eqb_bool, Bool.false_eq_true, if_false, beq_self_eq_true, OP_some, q5z44, GdP_tt, bin_eql, decide_true, q5z46, iPick_t, q5z48]
    refine C20 ?_
    simp only [q5z50, iPick_t, OP_some]
    exact hk _
  have hmax := hb.le
  simp only [hb.len, OP_some]
  rw [show (.int .i64 3 : Value) = .int .i64 ((3 : Nat) : Int) from rfl, rem_nat _ _ _ (by omega)]
  simp only [OP_some, bin_eql, q5z8]
  by_cases hc : ((ms.length % 3 : Nat) : Int) = 0
  · simp only [decide_eq_true hc, GdP_tt, lenS_S, OP_some, bin_gtr, q5z10, iPick_t, IfP_dec]
    refine ⟨fun hgt => ?_, fun _ => rest t hlt htl⟩
    have e3 : IntKind.wrap .i64 ((s.length : Int) - 1) = ((s.length - 1 : Nat) : Int) := by rw [wrap64 (by omega) (by omega)]; omega
    simp only [hb.len, OP_some, bin_sub, e3]
    rw [rem_nat _ _ _ (by omega)]
    have hr : ms.length % (s.length - 1) < s.length - 1 := Nat.mod_lt _ (by omega)
    generalize ms.length % (s.length - 1) = j at hr
    simp only [OP_some]
    have := swapT (t := t) (i := j) (K := fun x64 => p5z12 Try.prog K (I n) qv (S s) x64 hB) (by omega) (by omega) (rest _ (swapAt_letters hlt j) (by rw [swapAt_length (by omega)]; exact htl))
    exact this
  · simp only [decide_eq_false hc, GdP_ft, q5z10, iPick_f, OP_some, IfP_false]
    exact rest t hlt htl

end Go.Proofs.Ytjdlcokhlphmhaa
