/-
  Part 8 of the texts behind a statement of this seat: Mk15, Mk27.
-/
import Derived.Test.YthplaillblmgfaaDoorPlain7
namespace Go.Proofs.YthplaillblmgfaaDoor
open Go.Sim

theorem own_ex {b : Nat} {g g' : Heap} {v : Value} {xs : List Value} (x : EX g g') (o : OwnS b g 3 v xs) : OwnS b g' 3 v xs := o.keep fun d _ hv _ => x.2 d (o.lt hv).2.1

end Go.Proofs.YthplaillblmgfaaDoor


namespace Go.Proofs.YthplaillblmgfaaDoor
open Go.Sim

theorem noRc {W : List Tx} (nb : NoBeg W) {a t : Tx} (r : Rc W a t) : False := by
  induction r with
  | @init v w hv hw hne hp =>
    obtain ⟨i, hi, rfl⟩ := List.getElem_of_mem hv
    obtain ⟨j, hj, rfl⟩ := List.getElem_of_mem hw
    exact nb i j hi hj (by rintro rfl; exact hne rfl) hp
  | fwd _ _ _ _ ih => exact ih
  | bwd _ _ _ _ ih => exact ih

theorem chk_len {W : List Tx} (ok : Ok W) : lenOk (W.map List.length) := fun l hl => by
  obtain ⟨w, hw, rfl⟩ := List.mem_map.1 hl
  exact ⟨List.length_pos_iff.2 (ok.ne w hw), ok.le w hw⟩

section
variable {K : Value → Heap → Prop}

theorem end8 (hk : ∀ h', K (B true) h') (g : Heap) : p8z48 Tryd.prog K (.slice none 0 0) (S []) (I 5) g := by
  have e1 : iBin .eql (S []) (.string ⟨#[]⟩) = some (B true) := rfl
  have l0 : iLenSl (.slice none 0 0) = some (I 0) := rfl
  rw [q8z48]
  simp only [bin_eql, decide_true, OP_some, q8z51, GdP_tt, e1, q8z53, iPick_t, q8z55, l0, q8z57, q8z59]
  refine C13 ?_
  rw [q8z61]
  simp only [iPick_t, OP_some]
  exact hk _

theorem riseL (hk : ∀ h', K (B true) h') {r : Value} {ws : List Tx} {g : Heap} (hv : SS g r ws) (hl : ws.length ≤ 12) (hr : ∀ i (hi : i < ws.length), 0 < i → Op.bytesLess ws[i - 1] ws[i] = true) :
    LoopP [(.int .i64 (1))] g fun L1 xs hx => p8z41 Tryd.prog K (.slice none 0 0) (S []) (I 5) r L1 xs hx := by
  refine loopL (σ := Nat) (fun i => [I i]) (fun _ => g) (fun i => 0 < i) (fun i => ws.length - i) 1 rfl rfl (by omega) ?_
  intro i h0 L hL
  rw [q8z41]
  simp only [hv.len, OP_some, bin_lss, IfP_dec]
  refine ⟨fun hlt => ?_, fun _ => end8 hk g⟩
  have hlt : i < ws.length := by omega
  have w : IntKind.wrap .i64 ((i : Int) - 1) = ((i - 1 : Nat) : Int) := by rw [wrap64 (by omega) (by omega)]; omega
  obtain ⟨b, o, a1, a2⟩ := hv.get (i - 1) (by omega)
  obtain ⟨b', o', a3, a4⟩ := hv.get i hlt
  have e : iBin .geq (S ws[i - 1]) (S ws[i]) = some (B (!Op.bytesLess ws[i - 1] ws[i])) := by simp [iBin, iStr, S]
  simp only [bin_sub, w, OP_some, a1, a2, a3, a4, true_and, e, hr i hlt h0, Bool.not_true, IfP_false, bin_add, incM i (show i < maxLen by simp [maxLen]; omega)]
  exact hL (i + 1) (by omega) (by omega)

/-- After the lengths: the code that rises. -/
theorem afterL (hk : ∀ h', K (B true) h') {k : Value} {W : List Tx} {ris : Bool} {b : Nat} {g : Heap} (ok : Ok W) (h0 : W ≠ []) (own : OwnS b g 3 k ((W.map List.length).map fun n : Nat => I n))
    (hr : ris = true → (risL 0 (W.map List.length)).isSome = true) : p8z17 Tryd.prog K (.slice none 0 0) (S []) (I 5) k (B ris) g := by
  have few := ok.few
  have len := chk_len ok
  have hl : (W.map List.length).length ≤ 12 := by rw [List.length_map]; exact few
  have hp : 0 < (W.map List.length).length := by rw [List.length_map]; exact List.length_pos_iff.2 h0
  generalize W.map List.length = ls at own hr len hl hp
  have hk2 := own_ns own (by omega)
  rw [q8z17]
  -- what comes where words do not rise
  have skip : ∀ (r x : Value) (ws : List Tx) (g' : Heap), SS g' r ws → ws.length ≤ 12 → (∀ i (hi : i < ws.length), 0 < i → Op.bytesLess ws[i - 1] ws[i] = true) → p8z22 Tryd.prog K (.slice none 0 0) (S []) (I 5) k r x (B false) g' := by
    intro r x ws g' hv hl hr
    simp only [q8z22, GdP_ft, q8z24, GdP_undef, q8z26, q8z28, q8z30, q8z32, q8z34, q8z36, iPick_f, OP_some, IfP_false]
    exact riseL hk hv hl hr
  refine C25 hk2 hl hp len (fun hn g' x' => ?_) (fun ws u g' hs x' own' => ?_)
  · simp only [ext_tuple, pair0, pair1, OP_some]
    cases ris with
    | true => have := hr rfl; rw [hn] at this; cases this
    | false => exact skip _ _ [] g' ⟨rfl, fun k hk => by simp at hk⟩ (by simp) (fun i hi => by simp at hi)
  · obtain ⟨ok', nb, hm, hri⟩ := rises len hl hs
    have hv := own_ss own'
    have hwl := ok'.few
    simp only [ext_tuple, pair0, pair1, OP_some]
    cases ris with
    | false => exact skip _ _ ws g' hv hwl hri
    | true =>
      have h0' : ws ≠ [] := by rintro rfl; simp at hm; rw [hm] at hp; simp at hp
      simp only [q8z22, GdP_tt, bin_neq, OP_some, decide_true, Bool.not_true, q8z24, GdP_ff]
      refine C21 hv (by omega) (ok_len ok').2 ?_
      rw [chk0 ok' h0']
      simp only [bin_neq, OP_some, decide_true, Bool.not_true, q8z26, GdP_tt, iPick_f, q8z28, GdP_ff]
      refine C22 hv (by omega) (fun _ => ?_) fun i j f => (f.no nb).elim
      have en : iEqnil true (.slice none 0 0) (.slice none 0 0) = some (B false) := rfl
      simp only [en, OP_some, q8z30, GdP_tt, iPick_f, q8z32, GdP_ff]
      refine C26 hv (by omega) ?_
      intro u2 g2 x2 own2
      rw [hm] at own2
      refine C15 (own_ns own2 (by omega)) (hk2.mono (x'.trans x2)) (by rw [List.length_map]; omega) ?_
      simp only [un_not, OP_some, Bool.not_true, q8z34, GdP_tt, iPick_f, q8z36, iPick_t, IfP_false]
      exact riseL hk (hv.mono x2) hwl hri

theorem loop8 (hk : ∀ h', K (B true) h') {v : Value} {W : List Tx} {g : Heap} (ok : Ok W) (h0 : W ≠ []) (nb : NoBeg W) (hv : SS g v W) :
    OH (iMkSl 3 0 [(.int .i64 (0))] g []) fun x28 h_4 => LoopP [x28, (.bool true), (.int .i64 (0))] h_4 fun L1 xs hx => p8z11 Tryd.prog K v (.slice none 0 0) (S []) (I 5) L1 xs hx := by
  have few := ok.few
  simp only [mk0, OH_some]
  refine loopL (σ := Nat × Bool × Value × Heap) (fun q => [q.2.2.1, B q.2.1, I q.1]) (fun q => q.2.2.2) (fun q => q.1 ≤ W.length ∧ EX g q.2.2.2 ∧ OwnS g.length q.2.2.2 3 q.2.2.1 (((W.take q.1).map List.length).map fun n : Nat => I n) ∧ (q.2.1 = true → ∀ i (hi : i < W.length), 0 < i → i < q.1 → Op.bytesLess W[i - 1] W[i] = true)) (fun q => W.length - q.1)
    (0, true, sl 3 g.length 0 0, g ++ [.arr 3 []]) rfl rfl ⟨Nat.zero_le _, EX.append _ _, .inr ⟨g.length, Nat.le_refl _, rfl, get_last⟩, fun _ i _ _ hi => absurd hi (Nat.not_lt_zero _)⟩ ?_
  rintro ⟨i, ris, vo, g1⟩ ⟨hi, xg, own, hr⟩ L hL
  simp only at hi xg own hr hL ⊢
  have hs := hv.mono xg
  rw [q8z11]
  simp only [hs.len, OP_some, bin_lss, IfP_dec]
  refine ⟨fun hlt => ?_, fun hge => ?_⟩
  · have hlt : i < W.length := by omega
    obtain ⟨b, o, a1, a20⟩ := hv.get i hlt
    have a2 := EX.load xg a20
    simp only [a1, a2, OP_some, lenS_S]
    refine app1 own xg (by simp; omega) (by simp [maxLen]; omega) rfl rfl ?_
    intro v' g' x' own'
    have w1 := incM i (show i < maxLen by simp [maxLen]; omega)
    have hs' := hv.mono x'
    have a2 := EX.load x' a20
    have own2 : OwnS g.length g' 3 v' (((W.take (i + 1)).map List.length).map fun n : Nat => I n) := by
      rw [List.take_succ_eq_append_getElem hlt, List.map_append, List.map_append]
      exact own'
    have next : ∀ ris' : Bool, (ris' = true → ris = true ∧ (0 < i → Op.bytesLess W[i - 1] W[i] = true)) → L [v', B ris', I ((i + 1 : Nat) : Int)] g' := fun ris' hc =>
      hL (i + 1, ris', v', g') ⟨hlt, x', own2, fun ht j hj h0 hji => by
        obtain ⟨c1, c2⟩ := hc ht
        have hji : j < i + 1 := hji
        rcases Nat.lt_succ_iff_lt_or_eq.1 hji with h' | h'
        · exact hr c1 j hj h0 h'
        · subst h'; exact c2 h0⟩ (by show W.length - (i + 1) < W.length - i; omega)
    cases ris with
    | false =>
      simp only [GdP_ft, GdP_undef, iPick_f, OP_some, bin_add, w1, true_and]
      exact next false fun h => by cases h
    | true =>
      simp only [GdP_tt, bin_eql, OP_some]
      by_cases hi0 : i = 0
      · rw [decide_eq_true (show (i : Int) = 0 by omega)]
        simp only [GdP_tf, GdP_tt, iPick_t, OP_some, bin_add, w1, true_and]
        exact next true fun _ => ⟨rfl, fun h => by omega⟩
      · rw [decide_eq_false (show ¬ (i : Int) = 0 by omega)]
        have w : IntKind.wrap .i64 ((i : Int) - 1) = ((i - 1 : Nat) : Int) := by rw [wrap64 (by omega) (by omega)]; omega
        obtain ⟨b', o', a3, a4⟩ := hs'.get (i - 1) (by omega)
        have e : iBin .lss (S W[i - 1]) (S W[i]) = some (B (Op.bytesLess W[i - 1] W[i])) := by simp [iBin, iStr, S]
        simp only [GdP_ff, GdP_tt, bin_sub, w, a1, a2, a3, a4, true_and, e, iPick_t, iPick_f, OP_some, bin_add, w1]
        exact next _ fun h => ⟨rfl, fun _ => h⟩
  · have : i = W.length := by omega
    subst this
    rw [List.take_length] at own
    refine afterL hk ok h0 own fun ht => risL_fits (fun w hw => ⟨ok.le w hw, List.length_pos_iff.2 (ok.ne w hw), ok.bt w hw, Nat.zero_le _⟩) (ahead_of ok nb fun i hi h => hr ht i hi h hi)

/-- Where a word begins another. -/
theorem part8 (hk : ∀ h', K (B true) h') {v p : Value} {W : List Tx} {i j b : Nat} {g : Heap} (hv : SS g v W) (hp : OwnS b g 3 p [I i, I j]) (f : Fst W i j) : p8z62 Tryd.prog K v p (I 0) g := by
  obtain ⟨hi, hj, hne, hpre, _⟩ := f
  rcases hp with ⟨_, e⟩ | ⟨d, _, rfl, hg⟩
  · cases e
  have l2 : iLenSl (sl 3 d 0 [I (i : Int), I (j : Int)].length) = some (I 2) := rfl
  have A0 : iAdrSl 1 (sl 3 d 0 [I (i : Int), I (j : Int)].length) (.int .i64 (0)) = some (pt d 0) := adr_sl (j := 0) (by simp)
  have A1 : iAdrSl 1 (sl 3 d 0 [I (i : Int), I (j : Int)].length) (.int .i64 (1)) = some (pt d 1) := adr_sl (j := 1) (by simp)
  have L0 : iLoad false 1 g (pt d 0) = some (I i) := by simp [iLoad, objCells, hg, iPart]
  have L1 : iLoad false 1 g (pt d 1) = some (I j) := by simp [iLoad, objCells, hg, iPart]
  obtain ⟨b1, o1, a1, a2⟩ := hv.get i hi
  obtain ⟨b2, o2, a3, a4⟩ := hv.get j hj
  have q1 : iBin .geq (I i) (.int .i64 (0)) = some (B true) := by rw [bin_geq]; rw [decide_eq_true (by omega)]
  have q2 : iBin .geq (I j) (.int .i64 (0)) = some (B true) := by rw [bin_geq]; rw [decide_eq_true (by omega)]
  have q3 : iBin .lss (I i) (I W.length) = some (B true) := by rw [bin_lss]; rw [decide_eq_true (by omega)]
  have q4 : iBin .lss (I j) (I W.length) = some (B true) := by rw [bin_lss]; rw [decide_eq_true (by omega)]
  have q5 : iBin .neq (I i) (I j) = some (B true) := by rw [bin_neq]; rw [decide_eq_false (by omega)]; rfl
  have q6 : iBin .leq (I W[i].length) (I W[j].length) = some (B true) := by rw [bin_leq]; rw [decide_eq_true (by have := hpre.length_le; omega)]
  have q7 : iBin .eql (S (W[j].take W[i].length)) (S W[i]) = some (B true) := by
    rw [bin_eqlS, decide_eq_true (List.prefix_iff_eq_take.1 hpre).symm]
  have pk : ∀ a b : Value, iPick (.bool true) a b = some a := fun _ _ => rfl
  rw [q8z62]
  refine OP_of (v := B true) rfl (GdP_tt.2 ?_)
  refine OP_of l2 (OP_of (v := B true) rfl (OP_of (pk _ _) (GdP_tt.2 ?_)))
  refine OP_of A0 (OP_of L0 ⟨trivial, OP_of q1 (OP_of (pk _ _) (GdP_tt.2 ?_))⟩)
  refine OP_of A0 (OP_of L0 ⟨trivial, OP_of hv.len (OP_of q3 (OP_of (pk _ _) (GdP_tt.2 ?_)))⟩)
  refine OP_of A1 (OP_of L1 ⟨trivial, OP_of q2 (OP_of (pk _ _) (GdP_tt.2 ?_))⟩)
  refine OP_of A1 (OP_of L1 ⟨trivial, OP_of hv.len (OP_of q4 (OP_of (pk _ _) (GdP_tt.2 ?_)))⟩)
  refine OP_of A0 (OP_of L0 ⟨trivial, OP_of A1 (OP_of L1 ⟨trivial, OP_of q5 (OP_of (pk _ _) (GdP_tt.2 ?_))⟩)⟩)
  refine OP_of A0 (OP_of L0 ⟨trivial, OP_of a1 (OP_of a2 ⟨trivial, OP_of (lenS_S _) ?_⟩)⟩)
  refine OP_of A1 (OP_of L1 ⟨trivial, OP_of a3 (OP_of a4 ⟨trivial, OP_of (lenS_S _) (OP_of q6 (OP_of (pk _ _) (GdP_tt.2 ?_)))⟩)⟩)
  refine OP_of A1 (OP_of L1 ⟨trivial, OP_of a3 (OP_of a4 ⟨trivial, ?_⟩)⟩)
  refine OP_of A0 (OP_of L0 ⟨trivial, OP_of a1 (OP_of a2 ⟨trivial, OP_of (lenS_S _) (OP_of (slS_hi (a := W[j]) hpre.length_le .i64) ?_)⟩)⟩)
  refine OP_of A0 (OP_of L0 ⟨trivial, OP_of a1 (OP_of a2 ⟨trivial, OP_of q7 (OP_of (pk _ _) (GdP_tt.2 ?_))⟩)⟩)
  refine C13 ⟨trivial, OP_of (pk _ _) (hk _)⟩

end

theorem C8 {v : Value} {ns : List Int} {h : Heap} {K : Value → Heap → Prop} (hv : INS h 58 .u16 v ns) (hnl : ns.length ≤ maxLen) (hns : ∀ x ∈ ns, 0 ≤ x ∧ x < 65536) (hk : ∀ h', K (B true) h') : CallP Tryd.prog 8 [v] h K := by
  refine f8 (C17 hv hnl hns ?_)
  intro W u h1 ok h0 _ own
  have few := ok.few
  refine C20 own (by omega) (ok_len ok).2 (fun hc => absurd (chk0 ok h0) hc) (fun _ nb h2 x2 => ?_) (fun _ i j f p h2 x2 own2 => ?_)
  · simp only [ext_tuple, pair0, pair1, OP_some]
    refine clearC ok h0 (own9 x2 own) (fun _ h3 x3 => ?_) (fun t r => (noRc nb r).elim)
    simp only [ext_tuple, pair0, pair1, OP_some, bin_eql, decide_true, IfP_true]
    exact loop8 hk ok h0 nb ((own_ss own).mono (x2.trans x3))
  · simp only [ext_tuple, pair0, pair1, OP_some]
    have e50 : iBin .eql (I 0) (.int .i64 (5)) = some (B false) := rfl
    refine clearC ok h0 (own9 x2 own) (fun _ h3 x3 => ?_) (fun t r _ h3 x3 => ?_)
    all_goals
      simp only [ext_tuple, pair0, pair1, OP_some, e50, IfP_false]
      exact part8 hk ((own_ss own).mono (x2.trans x3)) (own_ex x3 own2) f

end Go.Proofs.YthplaillblmgfaaDoor

