/-
  Steps as the document has them; the law.
-/
import Derived.Test.YtjdlcokhlphmhaaMg4
namespace Go.Proofs.Ytjdlcokhlphmhaa
open Go.Sim

theorem flat_len {f : Nat → List UInt8} {G : Nat} (h : ∀ a, (f a).length ≤ G) : ∀ b, ((List.range b).flatMap f).length ≤ b * G
  | 0 => by simp
  | b + 1 => by
    have := flat_len h b
    have := h b
    rw [List.range_succ, List.flatMap_append, List.length_append]
    simp only [List.flatMap_cons, List.flatMap_nil, List.append_nil, Nat.add_mul]
    omega

theorem srt_nil {g : List UInt8} (hg : letters 6 g) : srt g = [] ↔ g = [] := by
  have := (srt_perm hg).length_eq
  constructor
  · intro h; rw [h] at this; exact List.length_eq_zero_iff.1 this.symm
  · rintro rfl; exact List.length_eq_zero_iff.1 this

theorem C45 {ps : List (Int × Int)} {pv : Value} {s : List UInt8} {h : Heap} {K : Value → Heap → Prop} (hp : PS h pv ps) (hg : good ps) (hl0 : ps.length ≤ 100) (ls : letters 6 s) (hs : s.length ≤ 1000)
    (hk : ∀ v h', EX h h' → SS h' v (stepsF ps s) → K v h') : CallP Try.prog 45 [pv, S s] h K := by
  refine f45 ?_
  simp only [T45]
  refine C46 hp hg hl0 hs ?_
  intro hv h1 hex1 hns
  have mk : iMkSl 9 0 [.string ⟨#[]⟩] h1 [] = some (sl 9 h1.length 0 0, h1 ++ [.arr 9 []]) := rfl
  simp only [mk, OH_some]
  have hLl : (htsF (freeP ps) s).length = s.length := htsF_length _ _
  have hmax := maxH_le ps s
  have hLs : ∀ i (hi : i < s.length), ∃ st, (htsF (freeP ps) s)[i]? = some (s[i], st) := by
    intro i hi
    refine ⟨((htsF (freeP ps) s)[i]'(by omega)).2, ?_⟩
    have := congrArg (fun l : List UInt8 => l[i]?) (htsF_fst (freeP ps) s)
    simp only [List.getElem?_map, List.getElem?_eq_getElem (show i < (htsF (freeP ps) s).length by omega), Option.map_some, List.getElem?_eq_getElem hi] at this
    rw [List.getElem?_eq_getElem (by omega), ← Option.some.inj this]
  have hst : stepsF ps s = (gsOf (htsF (freeP ps) s)).map srt := rfl
  have hlg := fun n => grp_letters (fr := freeP ps) ls n
  have hsome := fun n => grp_some (fr := freeP ps) (s := s) n
  have hle := htsF_le (freeP ps) s
  have hhl : hl ps s = (htsF (freeP ps) s).map fun p => (p.2 : Int) := rfl
  rw [hhl] at hns
  rw [hst] at hk
  generalize htsF (freeP ps) s = L at *
  refine loopL (σ := Nat × Value × Heap) (fun p => [p.2.1, I ((p.1 + 1 : Nat) : Int)]) (fun p => p.2.2) (fun p => p.1 ≤ maxH L ∧ EX h1 p.2.2 ∧ OwnS h1.length p.2.2 9 p.2.1 ((((gsOf L).take p.1).map srt).map S)) (fun p => maxH L - p.1)
    (0, sl 9 h1.length 0 0, h1 ++ [.arr 9 []]) rfl rfl ⟨by simp, EX.append _ _, .inr ⟨h1.length, Nat.le_refl _, by simp, by simp⟩⟩ ?_
  rintro ⟨m, out, hx⟩ ⟨hm, hex, hown⟩ L1 hL1
  simp only at hm hex hown hL1 ⊢
  rw [q45z5]
  have hnsx := hns.mono hex
  have hgl := grp_length_le L (m + 1)
  have hfl : ∀ a, ((grp L (m + 1)).filter fun c => decide (c = lt a)).length ≤ s.length := fun a => Nat.le_trans (List.length_filter_le _ _) (by omega)
  refine loopL (σ := Nat) (fun b => [S ((List.range b).flatMap fun a => (grp L (m + 1)).filter fun c => decide (c = lt a)), cv (lt b)]) (fun _ => hx) (fun b => b ≤ 6) (fun b => 6 - b) 0 rfl rfl (by omega) ?_
  intro b hb L2 hL2
  rw [q45z12]
  have hpl := flat_len hfl b
  have hpl2 : b * s.length ≤ 6 * 1000 := Nat.mul_le_mul hb hs
  simp only [bin_leq, OP_some, lt_toNat (show b < 100 by omega)]
  by_cases hlt : b < 6
  · rw [decide_eq_true (show ((97 + b : Nat) : Int) ≤ 102 by omega)]
    simp only [IfP_true]
    generalize hpart : (List.range b).flatMap (fun a => (grp L (m + 1)).filter fun c => decide (c = lt a)) = part at hpl
    refine loopL (σ := Nat) (fun i => [S (part ++ (grp (L.take i) (m + 1)).filter fun c => decide (c = lt b)), I i]) (fun _ => hx) (fun i => i ≤ s.length) (fun i => s.length - i) 0 (by simp [grp]) rfl (by omega) ?_
    intro i hi L3 hL3
    rw [q45z19]
    have hil : ((grp (L.take i) (m + 1)).filter fun c => decide (c = lt b)).length ≤ 1000 := by
      have h1 := List.length_filter_le (fun c => decide (c = lt b)) (grp (L.take i) (m + 1))
      have h2 := grp_length_le (L.take i) (m + 1)
      rw [List.length_take] at h2
      omega
    simp only [lenS_S, bin_lss, OP_some, IfP_dec]
    refine ⟨fun hlt2 => ?_, fun hge2 => ?_⟩
    · have hil2 : i < s.length := by omega
      obtain ⟨bb, oo, g1, g2⟩ := hnsx.get i (by simp; omega)
      have hv2 : (L.map fun p => (p.2 : Int))[i]'(by simp; omega) = ((L[i]'(by omega)).2 : Int) := by simp
      rw [hv2] at g2
      obtain ⟨st, hLi⟩ := hLs i hil2
      rw [List.getElem?_eq_getElem (by omega)] at hLi
      have hLi2 := Option.some.inj hLi
      rw [hLi2] at g2
      have hstep : L.take (i + 1) = L.take i ++ [(s[i], st)] := by
        rw [List.take_succ_eq_append_getElem (by omega), hLi2]
      have nx := hL3 (i + 1) (by omega) (by omega)
      rw [hstep, grp_snoc] at nx
      generalize grp (L.take i) (m + 1) = gi at nx hil ⊢
      have skip : (part ++ gi.filter fun c => decide (c = lt b)) = (part ++ (if st = m + 1 then gi ++ [s[i]] else gi).filter fun c => decide (c = lt b)) →
          p45z29 Try.prog K (S s) hv out (I ((m + 1 : Nat) : Int)) (S (part ++ gi.filter fun c => decide (c = lt b))) (cv (lt b)) (I i) L1 L2 L3 hx := by
        intro he
        rw [q45z29]
        simp only [bin_add, OP_some, inc i (by omega), true_and]
        rw [← he] at nx
        exact nx
      simp only [g1, OP_some, g2, bin_eql, q45z26]
      by_cases hst2 : st = m + 1
      · rw [decide_eq_true (show (st : Int) = ((m + 1 : Nat) : Int) by omega)]
        simp only [GdP_tt]
        rw [idxS_S s hil2]
        simp only [OP_some, bin_eql, cv_inj, q45z28, iPick_t, IfP_dec]
        refine ⟨fun hc => ?_, fun hc => skip (by rw [if_pos hst2]; simp [hc])⟩
        simp only [bin_add, OP_some, inc i (by omega)]
        rw [slS_lh s (by omega) (by omega), take_drop_one hil2]
        simp only [OP_some]
        rw [bin_addS _ _ (by simp only [List.length_append, List.length_cons, List.length_nil, maxLen]; omega)]
        simp only [OP_some, q45z29, bin_add, inc i (by omega), true_and]
        rw [if_pos hst2] at nx
        simpa [hc] using nx
      · rw [decide_eq_false (show ¬ (st : Int) = ((m + 1 : Nat) : Int) by omega)]
        simp only [GdP_ft, q45z28, iPick_f, OP_some, IfP_false]
        exact skip (by rw [if_neg hst2])
    · have : i = s.length := by omega
      subst this
      rw [List.take_of_length_le (by omega), q45z30]
      simp only [bin_add, OP_some, lt_succ (show b < 60 by omega), true_and]
      have := hL2 (b + 1) (by omega) (by omega)
      rw [List.range_succ, List.flatMap_append, hpart] at this
      simpa using this
  · have : b = 6 := by omega
    subst this
    rw [decide_eq_false (show ¬ ((97 + 6 : Nat) : Int) ≤ 102 by omega)]
    simp only [IfP_false]
    have e : ((List.range 6).flatMap fun a => (grp L (m + 1)).filter fun c => decide (c = lt a)) = srt (grp L (m + 1)) := rfl
    rw [e] at hpl ⊢
    rw [q45z31, S_nil]
    simp only [bin_eqlS, OP_some, IfP_dec, srt_nil (hlg (m + 1))]
    refine ⟨fun h0 => ?_, fun h0 => ?_⟩
    · have hmm : m = maxH L := by
        apply Classical.byContradiction
        intro hc
        exact hsome (m + 1) (by omega) (by omega) h0
      rw [hmm, List.take_of_length_le (by rw [gsOf_length]; omega)] at hown
      exact hk out hx (hex1.trans hex) hown.ss
    · have hmm : m < maxH L := by
        apply Classical.byContradiction
        intro hc
        exact h0 (grp_none (by omega))
      refine app1 hown hex (by rw [List.length_map, List.length_map, List.length_take]; omega) (by rw [List.length_map, List.length_map, List.length_take]; unfold maxLen; omega) rfl rfl ?_
      intro v' hx' hex' hown'
      have e2 : IntKind.wrap .i64 (((m + 1 : Nat) : Int) + 1) = ((m + 1 + 1 : Nat) : Int) := inc (m + 1) (by omega)
      simp only [q45z35, bin_add, OP_some, e2, true_and]
      refine hL1 (m + 1, v', hx') ⟨by show m + 1 ≤ maxH L; omega, hex', ?_⟩ (by show maxH L - (m + 1) < maxH L - m; omega)
      have hgg := gsOf_get L hmm
      have hmg : m < (gsOf L).length := by rw [gsOf_length]; exact hmm
      rw [List.getElem?_eq_getElem hmg] at hgg
      have : (((gsOf L).take (m + 1)).map srt).map S = (((gsOf L).take m).map srt).map S ++ [S (srt (grp L (m + 1)))] := by
        rw [List.take_succ_eq_append_getElem hmg, Option.some.inj hgg, List.map_append, List.map_append]; rfl
      show OwnS h1.length hx' 9 v' ((((gsOf L).take (m + 1)).map srt).map S)
      rw [this]
      exact hown'

theorem pre_one {s : List UInt8} {qs : List (Int × Int)} {qv : Value} {k : Int} {h : Heap} {K : Value → Heap → Prop} (hp : PS h qv qs) (hl : qs.length ≤ 31) (hs : s.length ≤ 41)
    (hk : ∀ h2, EX h h2 → K (I (whyE k qs [s] 40)) h2) : OH (iMkSl 9 1 [.string ⟨#[]⟩] h [(0, 1, S s)]) fun x35 h_6 => CallP Try.prog 19 [I k, qv, I 40, x35] h_6 K := by
  simp only [mkS1, OH_some]
  have hx : EX h (h ++ [.arr 9 [S s]]) := EX.append _ _
  have hss : SS (h ++ [.arr 9 [S s]]) (sl 9 h.length 0 1) [s] := SS.sl (ls := [s]) (by simp [objCells])
  exact C19 (most := 40) (hp.mono hx) (by omega) hss (by simp) (by simp; omega) (hk _ hx)

theorem stepsF_length (ps : List (Int × Int)) (s : List UInt8) : (stepsF ps s).length ≤ s.length := by
  unfold stepsF
  rw [List.length_map, gsOf_length]
  exact maxH_le ps s

theorem C8 {ps : List (Int × Int)} {pv : Value} {k : Int} {x : List UInt8} {h : Heap} {K : Value → Heap → Prop} (hp : PSl h pv ps) (hk : ∀ h', K (.bool true) h') : CallP Try.prog 8 [.agg #[I k, pv], S x] h K := by
  refine f8 ?_
  refine pre_threads hp ?_
  intro h2 qv qs hps hl
  simp only [ext_tuple, pair0, pair1, OP_some]
  refine C17 (n := 41) ?_
  have hs : (x.take 41).length ≤ 41 := by rw [List.length_take]; omega
  generalize x.take 41 = s at hs ⊢
  by_cases hw : whyE k qs [s] 40 = 0
  · obtain ⟨ht, hse⟩ := whyE_ok hw
    obtain ⟨n, rfl, hn1, hn6⟩ := threadsOk_k ht
    obtain ⟨hlen, hbad⟩ := seamsE_ok hse s (by simp)
    have ls := letters_le hn6 (letters_of hbad)
    have hg := (threadsOk_good ht).1
    refine C42 hps (by omega) (by omega) (fun h0 => absurd hw h0) fun _ v1 h3 x3 ss1 => ?_
    simp only [ext_tuple, pair0, pair1, OP_some]
    refine C41 (hps.mono x3) (by omega) (by omega) (fun h0 => absurd hw h0) fun _ => ?_
    simp only [siV, ext_tuple, pair0, pair1, OP_some]
    refine C43 (hps.mono x3) (by omega) (by omega) (fun h0 => absurd hw h0) fun _ v2 h4 x4 ns2 => ?_
    simp only [ext_tuple, pair0, pair1, OP_some]
    refine pre_one (hps.mono (x3.trans x4)) hl hs fun h5 x5 => ?_
    simp only [hw, bin_neq, OP_some, decide_true, Bool.not_true, IfP_false]
    have hps5 := hps.mono ((x3.trans x4).trans x5)
    refine C45 hps5 hg (by omega) ls (by omega) fun v3 h6 x6 ss3 => ?_
    have hsl := stepsF_length qs s
    refine C44e (ss1.mono ((x4.trans x5).trans x6)) ss3 (by omega) ?_
    simp only [q8z33, GdP_tt, bin_eql, decide_true, OP_some, q8z35, iPick_t, q8z37]
    refine C21 (hps5.mono x6) hg (by omega) (by omega) ls ?_
    have eL : leastF (freeP qs) 6 s.length s = Lst qs s := rfl
    simp only [eL, bin_eqlS, decide_true, OP_some, q8z39, iPick_t, q8z41, GdP_tt, bin_eql, q8z43, q8z45]
    refine C46 (hps5.mono x6) hg (by omega) (by omega) fun v4 h7 x7 ns4 => ?_
    refine C25e (ns2.mono ((x5.trans x6).trans x7)) ns4 (by rw [hl_length]; omega) ?_
    simp only [q8z47, iPick_t, OP_some, q8z49, GdP_tt, bin_eql, decide_true, q8z51, q8z53]
    refine C20 ?_
    simp only [q8z55, iPick_t, OP_some]
    exact hk _
  · refine C42 hps (by omega) (by omega) (fun _ h3 x3 => ?_) fun h0 => absurd h0 hw
    simp only [ext_tuple, pair0, pair1, OP_some]
    refine C41 (hps.mono x3) (by omega) (by omega) (fun _ => ?_) fun h0 => absurd h0 hw
    simp only [siV, ext_tuple, pair0, pair1, OP_some]
    refine C43 (hps.mono x3) (by omega) (by omega) (fun _ h4 x4 => ?_) fun h0 => absurd h0 hw
    simp only [ext_tuple, pair0, pair1, OP_some]
    refine pre_one (hps.mono (x3.trans x4)) hl hs fun h5 x5 => ?_
    have e0 : iLenSl (.slice none 0 0) = some (I 0) := rfl
    have e1 : IntKind.wrap .i64 ((0 : Int) + 0) = 0 := by rw [wrap64 (by omega) (by omega)]; rfl
    simp only [bin_neq, OP_some, decide_eq_false hw, Bool.not_false, IfP_true, e0, bin_add, e1, bin_eql, decide_true, q8z12, GdP_tt, S_nil, bin_eqlS, q8z14, iPick_t, q8z16, q8z18, q8z20, q8z22, q8z24, q8z26, q8z28]
    refine C20 ?_
    simp only [q8z30, iPick_t, OP_some]
    exact hk _

end Go.Proofs.Ytjdlcokhlphmhaa
