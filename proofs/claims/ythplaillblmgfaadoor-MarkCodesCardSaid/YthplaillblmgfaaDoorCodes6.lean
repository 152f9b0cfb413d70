/-
  Part 6 of the texts behind a statement of this seat: Mk29, Mk22, Mk24, DN, Mk15, Mk30, DKs.
-/
import Derived.Test.YthplaillblmgfaaDoorProg
import Derived.KernelRfl
import Derived.Test.YthplaillblmgfaaDoorCodes5
namespace Go.Proofs.YthplaillblmgfaaDoor
open Go.Sim

theorem look_get : ∀ {l : List (Tx × Tx)} {b : Nat} {p : Tx × Tx}, (l.map Prod.fst).Nodup → l[b]? = some p → look p.1 l = some p.2
  | q :: l, 0, p, _, h => by
    simp at h
    subst h
    rw [look, if_pos rfl]
  | q :: l, b + 1, p, hn, h => by
    rw [List.map_cons, List.nodup_cons] at hn
    have h' : l[b]? = some p := by simpa using h
    have hm : p.1 ∈ l.map Prod.fst := List.mem_map.2 ⟨p, List.mem_of_getElem? h', rfl⟩
    rw [look, if_neg (by intro e; exact hn.1 (e ▸ hm))]
    exact look_get hn.2 h'

theorem get_look : ∀ {l : List (Tx × Tx)} {k t : Tx}, look k l = some t → ∃ b : Nat, l[b]? = some (k, t)
  | [], k, t, h => by simp [look] at h
  | q :: l, k, t, h => by
    rw [look] at h
    split at h
    · rename_i e
      cases h
      exact ⟨0, by rw [e]; rfl⟩
    · obtain ⟨b, hb⟩ := get_look h
      exact ⟨b + 1, by simpa using hb⟩

section
variable {W : List Tx} (ok : Ok W) {h : Heap} {v : Value} {im : Nat} {K : Value → Heap → Prop}
include ok

theorem iniU (i1 : h.length ≤ im) (hv : SS h v W) {g : Heap} (st : Sm h im [] g)
    (hk : ∀ l g', Sm h im l g' → Good W l → Ini W l → p23z21 Tryd.prog K v (.map (some im)) g') : LoopP [I 0] g fun L1 xs hx => p23z6 Tryd.prog K v (.map (some im)) L1 xs hx := by
  have few := ok.few
  refine loopL (σ := Nat × List (Tx × Tx) × Heap) (fun q => [I q.1]) (fun q => q.2.2) (fun q => q.1 ≤ W.length ∧ Sm h im q.2.1 q.2.2 ∧ Good W q.2.1 ∧ ∀ i (hi : i < W.length), i < q.1 → ∀ w ∈ W, W[i] ≠ w → W[i] <+: w → ∃ t', look (w.drop W[i].length) q.2.1 = some t' ∧ rk t' ≤ rk w) (fun q => W.length - q.1) (0, [], g) rfl rfl ⟨Nat.zero_le _, st, Good.nil W, fun i _ hi => absurd hi (Nat.not_lt_zero _)⟩ ?_
  rintro ⟨i, l, g1⟩ ⟨hi, s1, gd, done⟩ L hL
  simp only at hi s1 gd done hL ⊢
  rw [q23z6]
  simp only [(hv.mono s1.ex).len, bin_lss, OP_some, IfP_dec]
  refine ⟨fun hlt => ?_, fun hge => ?_⟩
  · have hlt : i < W.length := by omega
    obtain ⟨b, o, a1, a2⟩ := hv.get i hlt
    refine loopL (σ := Nat × List (Tx × Tx) × Heap) (fun q => [I q.1]) (fun q => q.2.2) (fun q => q.1 ≤ W.length ∧ Sm h im q.2.1 q.2.2 ∧ Good W q.2.1 ∧ Dn l q.2.1 ∧ ∀ j (hj : j < W.length), j < q.1 → W[i] ≠ W[j] → W[i] <+: W[j] → ∃ t', look (W[j].drop W[i].length) q.2.1 = some t' ∧ rk t' ≤ rk W[j]) (fun q => W.length - q.1) (0, l, g1) rfl rfl ⟨Nat.zero_le _, s1, gd, Dn.refl l, fun j _ hj => absurd hj (Nat.not_lt_zero _)⟩ ?_
    rintro ⟨j, l2, g2⟩ ⟨hj, s2, gd2, dn, done2⟩ L2 hL2
    simp only at hj s2 gd2 dn done2 hL2 ⊢
    rw [q23z13]
    simp only [(hv.mono s2.ex).len, bin_lss, OP_some, IfP_dec]
    refine ⟨fun hlt2 => ?_, fun hge2 => ?_⟩
    · have hlt2 : j < W.length := by omega
      obtain ⟨b2, o2, c1, c2⟩ := hv.get j hlt2
      have step : ∀ l3 g3, Sm h im l3 g3 → Good W l3 → Dn l2 l3 → (W[i] ≠ W[j] → W[i] <+: W[j] → ∃ t', look (W[j].drop W[i].length) l3 = some t' ∧ rk t' ≤ rk W[j]) → p23z19 Tryd.prog K v (.map (some im)) (I i) (I j) L L2 g3 := by
        intro l3 g3 s3 gd3 dn3 new
        rw [q23z19]
        simp only [bin_add, OP_some, true_and]
        rw [incM j (by simp [maxLen]; omega)]
        refine hL2 (j + 1, l3, g3) ⟨hlt2, s3, gd3, dn.trans dn3, fun j' hj' hlt' h1 h2 => ?_⟩ (by show W.length - (j + 1) < W.length - j; omega)
        have hlt' : j' < j + 1 := hlt'
        rcases Nat.lt_succ_iff_lt_or_eq.1 hlt' with h' | h'
        · obtain ⟨t', e1, e2⟩ := done2 j' hj' h' h1 h2
          obtain ⟨t2, f1, f2⟩ := dn3 _ _ e1
          exact ⟨t2, f1, Nat.le_trans f2 e2⟩
        · subst h'; exact new h1 h2
      simp only [bin_neq, OP_some]
      by_cases hij : i = j
      · rw [decide_eq_true (show (i : Int) = j by omega)]
        simp only [Bool.not_true, GdP_ft, true_and, iPick_f, OP_some, IfP_false]
        exact step l2 g2 s2 gd2 (Dn.refl _) fun h => absurd (by subst hij; rfl) h
      · rw [decide_eq_false (show ¬ (i : Int) = j by omega)]
        simp only [Bool.not_false, GdP_tt, a1, EX.load s2.ex a2, c1, EX.load s2.ex c2, OP_some, true_and]
        refine C41 ?_
        simp only [iPick_t, OP_some, IfP_dec, lenS_S, true_and]
        refine ⟨fun hp => ?_, fun hp => step l2 g2 s2 gd2 (Dn.refl _) fun _ h => absurd h hp⟩
        simp only [EX.load s2.ex a2, EX.load s2.ex c2, lenS_S, slS_lo (a := W[j]) hp.length_le .i64, OP_some]
        have hne : W[i] ≠ W[j] := fun e => by
          rcases Nat.lt_or_gt_of_ne hij with h' | h'
          · exact (List.pairwise_iff_getElem.1 ok.nd) i j hlt hlt2 h' e
          · exact (List.pairwise_iff_getElem.1 ok.nd) j i hlt2 hlt h' e.symm
        have r := Rc.init (List.getElem_mem hlt) (List.getElem_mem hlt2) hne hp
        refine keepS ok i1 s2 gd2 r (by have := ok.le _ (List.getElem_mem hlt2); omega) ?_
        intro _ l3 g3 s3 _ _ gd3 dn3 _ new _ _
        exact step l3 g3 s3 gd3 dn3 fun _ _ => new
    · rw [q23z20]
      simp only [bin_add, OP_some, true_and]
      rw [incM i (by simp [maxLen]; omega)]
      refine hL (i + 1, l2, g2) ⟨hlt, s2, gd2, fun i' hi' hlt' w hw h1 h2 => ?_⟩ (by show W.length - (i + 1) < W.length - i; omega)
      have hlt' : i' < i + 1 := hlt'
      rcases Nat.lt_succ_iff_lt_or_eq.1 hlt' with h' | h'
      · obtain ⟨t', e1, e2⟩ := done i' hi' h' w hw h1 h2
        obtain ⟨t2, f1, f2⟩ := dn _ _ e1
        exact ⟨t2, f1, Nat.le_trans f2 e2⟩
      · subst h'
        obtain ⟨j', hj', rfl⟩ := List.getElem_of_mem hw
        exact done2 j' hj' (by omega) h1 h2
  · refine hk l g1 s1 gd fun w1 hw1 w hw h1 h2 => ?_
    obtain ⟨j', hj', rfl⟩ := List.getElem_of_mem hw1
    exact done j' hj' (by omega) w hw h1 h2

/-- One entry, all words. -/
theorem entU (i1 : h.length ≤ im) (hv : SS h v W) {l0 l1 : List (Tx × Tx)} {a t : Tx} {more : Bool} {x58 : Value} {L1 L2 : List Value → Heap → Prop} {g : Heap} (ha : look a l1 = some t) (h0 : a ≠ []) (st : Sm h im l1 g) (gd : Good W l1) (h1 : more = true → mu W l1 < mu W l0) (h2 : more = false → l1 = l0)
    (hk : ∀ more' l' g', Sm h im l' g' → (∀ d, d ≠ im → g'[d]? = g[d]?) → g'.length = g.length → Good W l' → Dn l1 l' → l1.length ≤ l'.length → (more' = true → mu W l' < mu W l0) → (more' = false → more = false ∧ l' = l0 ∧ ∀ w ∈ W, Clo l0 a w) → L2 [B more'] g') :
    LoopP [B more, I 0] g fun L3 xs hx => p23z41 Tryd.prog K v (.map (some im)) (S a) (S t) x58 L1 L2 L3 xs hx := by
  have few := ok.few
  have rc := gd.rc a t ha
  have tl := gd.ln a t ha
  have fw := gd.few ok
  refine loopL (σ := Bool × Nat × List (Tx × Tx) × Heap) (fun q => [B q.1, I q.2.1]) (fun q => q.2.2.2) (fun q => q.2.1 ≤ W.length ∧ Sm h im q.2.2.1 q.2.2.2 ∧ ((∀ d, d ≠ im → q.2.2.2[d]? = g[d]?) ∧ q.2.2.2.length = g.length) ∧ Good W q.2.2.1 ∧ Dn l1 q.2.2.1 ∧ l1.length ≤ q.2.2.1.length ∧ (q.1 = true → mu W q.2.2.1 < mu W l0) ∧ (q.1 = false → more = false ∧ q.2.2.1 = l0 ∧ ∀ j (hj : j < W.length), j < q.2.1 → Clo l0 a W[j])) (fun q => W.length - q.2.1) (more, 0, l1, g) rfl rfl ⟨Nat.zero_le _, st, ⟨fun _ _ => rfl, rfl⟩, gd, Dn.refl l1, Nat.le_refl _, h1, fun hm => ⟨hm, h2 hm, fun j _ hj => absurd hj (Nat.not_lt_zero _)⟩⟩ ?_
  rintro ⟨m, j, l, g1⟩ ⟨hj, s1, ⟨kp, kl⟩, gd1, dn, ll, h3, h4⟩ L hL
  simp only at hj s1 kp kl gd1 dn ll h3 h4 hL ⊢
  rw [q23z41]
  simp only [(hv.mono s1.ex).len, bin_lss, OP_some, IfP_dec]
  refine ⟨fun hlt => ?_, fun hge => ⟨trivial, ?_⟩⟩
  · have hlt : j < W.length := by omega
    obtain ⟨b, o, a1, a2⟩ := hv.get j hlt
    have mem := List.getElem_mem hlt
    have wl := ok.le _ mem
    have fw1 := gd1.few ok
    have step : ∀ m' l2 g2, Sm h im l2 g2 → (∀ d, d ≠ im → g2[d]? = g1[d]?) → g2.length = g1.length → Good W l2 → Dn l l2 → l.length ≤ l2.length → (m' = true → mu W l2 < mu W l0) → (m' = false → m = false ∧ l2 = l ∧ Clo l2 a W[j]) → p23z53 Tryd.prog K v (.map (some im)) (B m') (S a) (S t) (I j) x58 L1 L2 L g2 := by
      intro m' l2 g2 s2 kp2 kl2 gd2 dn2 ll2 q1 q2
      rw [q23z53]
      simp only [bin_add, OP_some, true_and]
      rw [incM j (by simp [maxLen]; omega)]
      refine hL (m', j + 1, l2, g2) ⟨hlt, s2, ⟨fun d hd => (kp2 d hd).trans (kp d hd), kl2.trans kl⟩, gd2, dn.trans dn2, Nat.le_trans ll ll2, q1, fun hm => ?_⟩ (by show W.length - (j + 1) < W.length - j; omega)
      obtain ⟨r1, r2, r3⟩ := q2 hm
      obtain ⟨r4, r5, r6⟩ := h4 r1
      have el : l2 = l0 := r2.trans r5
      refine ⟨r4, el, fun j' hj' hlt' => ?_⟩
      have hlt' : j' < j + 1 := hlt'
      rcases Nat.lt_succ_iff_lt_or_eq.1 hlt' with h' | h'
      · exact r6 j' hj' h'
      · subst h'; exact el ▸ r3
    have same : (Clo l a W[j]) → p23z53 Tryd.prog K v (.map (some im)) (B m) (S a) (S t) (I j) x58 L1 L2 L g1 := fun hc => step m l g1 s1 (fun _ _ => rfl) rfl gd1 (Dn.refl l) (Nat.le_refl _) h3 fun hm => ⟨hm, rfl, hc⟩
    -- with nothing changed the text is the one of the map
    have cur : ∀ {l' : List (Tx × Tx)} {t' : Tx}, m = false → l' = l → look a l' = some t' → t' = t := fun hm e ht => by
      obtain ⟨hm', e', _⟩ := h4 hm
      rw [e, e', ← h2 hm', ha] at ht
      cases ht; rfl
    simp only [a1, EX.load s1.ex a2, OP_some]
    refine C41 ?_
    simp only [IfP_dec]
    refine ⟨fun hq => ?_, fun hq => ?_⟩
    · simp only [a1, EX.load s1.ex a2, lenS_S, OP_some, slS_lo (a := a) hq.length_le .i64]
      refine keepS ok i1 s1 gd1 (Rc.bwd rc h0 mem hq) (by omega) ?_
      intro bb l2 g2 s2 kp2 kl2 gd2 dn2 ll2 new q1 q2
      rw [q23z49]
      cases bb with
      | true =>
        simp only [GdP_tf, q23z51, iPick_t, OP_some]
        refine step true l2 g2 s2 kp2 kl2 gd2 dn2 ll2 (fun _ => ?_) fun h => by cases h
        have := q1 rfl
        cases m with
        | true => have := h3 rfl; omega
        | false => rw [(h4 rfl).2.1] at this; exact this
      | false =>
        simp only [GdP_ff, q23z51, iPick_f, OP_some]
        have el := q2 rfl
        refine step m l2 g2 s2 kp2 kl2 gd2 dn2 ll2 (el ▸ h3) fun hm => ⟨hm, el, fun _ t' ht' => ⟨fun hp => ?_, fun _ _ => ?_⟩⟩
        · have : a = W[j] := hp.eq_of_length (Nat.le_antisymm hp.length_le hq.length_le)
          have et := cur hm el ht'
          rw [← this, List.drop_length] at new ⊢
          rw [et, List.append_nil]
          exact new
        · rw [cur hm el ht']; exact new
    · simp only [a1, EX.load s1.ex a2, OP_some]
      refine C41 ?_
      simp only [IfP_dec]
      refine ⟨fun hp => ?_, fun hp => same fun _ t' _ => ⟨fun h => absurd h hp, fun _ h => absurd h hq⟩⟩
      have dl : (W[j].drop a.length).length ≤ 10 := by rw [List.length_drop]; omega
      simp only [a1, EX.load s1.ex a2, lenS_S, OP_some, slS_lo (a := W[j]) hp.length_le .i64, bin_addS (a := t) (b := W[j].drop a.length) (by simp only [maxLen]; omega), true_and]
      refine keepS ok i1 s1 gd1 (Rc.fwd rc h0 mem hp) (by rw [List.length_append]; omega) ?_
      intro bb l2 g2 s2 kp2 kl2 gd2 dn2 ll2 new q1 q2
      cases bb with
      | true =>
        simp only [GdP_tf, iPick_t, OP_some]
        refine step true l2 g2 s2 kp2 kl2 gd2 dn2 ll2 (fun _ => ?_) fun h => by cases h
        have := q1 rfl
        cases m with
        | true => have := h3 rfl; omega
        | false => rw [(h4 rfl).2.1] at this; exact this
      | false =>
        simp only [GdP_ff, iPick_f, OP_some]
        have el := q2 rfl
        refine step m l2 g2 s2 kp2 kl2 gd2 dn2 ll2 (el ▸ h3) fun hm => ⟨hm, el, fun _ t' ht' => ⟨fun _ => ?_, fun hn => absurd hp hn⟩⟩
        rw [cur hm el ht']; exact new
  · refine hk m l g1 s1 kp kl gd1 dn ll h3 fun hm => ?_
    obtain ⟨r1, r2, r3⟩ := h4 hm
    refine ⟨r1, r2, fun w hw => ?_⟩
    obtain ⟨j', hj', rfl⟩ := List.getElem_of_mem hw
    exact r3 j' hj' (by omega)

/-- One pass, in what order ever. -/
theorem passU (i1 : h.length ≤ im) (hv : SS h v W) {l0 : List (Tx × Tx)} {L1 : List Value → Heap → Prop} {g : Heap} (st : Sm h im l0 g) (gd : Good W l0)
    (hk : ∀ more' l' g', Sm h im l' g' → Good W l' → Dn l0 l' → (more' = true → mu W l' < mu W l0) → (more' = false → l' = l0 ∧ ∀ a t, look a l0 = some t → ∀ w ∈ W, Clo l0 a w) → L1 [B more'] g') :
    OH (iRangeG g (.map (some im))) fun x58 h_1 => LoopP [(.bool false)] h_1 fun L2 xs hx => p23z32 Tryd.prog K v (.map (some im)) x58 L1 L2 xs hx := by
  have rg : iRangeG g (.map (some im)) = some (pt g.length 0, g ++ [.iter im l0.length [] l0.length]) := by simp only [iRangeG, st.hm]
  simp only [rg, OH_some]
  have hig : im < g.length := (List.getElem?_eq_some_iff.1 st.hm).1
  have st1 : Sm h im l0 (g ++ [.iter im l0.length [] l0.length]) := ⟨st.ex.trans (EX.append _ _), (EX.append _ _).get st.hm⟩
  have it1 : (g ++ [IObj.iter im l0.length [] l0.length])[g.length]? = some (.iter im l0.length [] l0.length) := get_last
  refine loopL (σ := Bool × List Nat × Nat × List (Tx × Tx) × Heap) (fun q => [B q.1]) (fun q => q.2.2.2.2) (fun q => Sm h im q.2.2.2.1 q.2.2.2.2 ∧ q.2.2.2.2[g.length]? = some (.iter im l0.length q.2.1 q.2.2.1) ∧ (q.2.1 = [] ∨ 1 ≤ q.2.2.1) ∧ Good W q.2.2.2.1 ∧ Dn l0 q.2.2.2.1 ∧ (q.2.1.Nodup ∧ ∀ b ∈ q.2.1, b < q.2.2.2.1.length) ∧ (q.1 = true → mu W q.2.2.2.1 < mu W l0) ∧ (q.1 = false → q.2.2.2.1 = l0 ∧ ∀ b ∈ q.2.1, ∀ p, l0[b]? = some p → ∀ w ∈ W, Clo l0 p.1 w)) (fun q => 133 - q.2.1.length)
    (false, [], l0.length, l0, g ++ [.iter im l0.length [] l0.length]) rfl rfl ⟨st1, it1, .inl rfl, gd, Dn.refl l0, ⟨List.nodup_nil, fun b hb => by simp at hb⟩, fun h => (by cases h), fun _ => ⟨rfl, fun b hb => by simp at hb⟩⟩ ?_
  rintro ⟨m, seen, last, l, g1⟩ ⟨s1, hit, hs, gd1, dn, ⟨nd, hlt⟩, h3, h4⟩ L hL
  simp only at s1 hit hs gd1 dn nd hlt h3 h4 hL ⊢
  have few := gd1.few ok
  obtain ⟨lst, e1, e2⟩ := nexts_grow s1.hm hit hs
  rw [q23z32, e1]
  simp only [NxP_some]
  intro pr hpr
  rcases e2 pr hpr with ⟨rfl, hall⟩ | ⟨b, p, hb, hns, rfl⟩
  · have x0 : iExt 0 (.tuple #[Value.bool false]) = some (.bool false) := rfl
    simp only [x0, OP_some, IfP_false, true_and]
    refine hk m l g1 s1 gd1 dn h3 fun hm => ?_
    obtain ⟨el, hc⟩ := h4 hm
    refine ⟨el, fun a t ht => ?_⟩
    obtain ⟨b, hb⟩ := get_look ht
    have hbl := (List.getElem?_eq_some_iff.1 hb).1
    exact hc b (hall b hbl (by rw [el]; exact hbl)) _ hb
  · have x1 : iExt 0 (.tuple #[.bool true, S p.1, S p.2]) = some (.bool true) := rfl
    have hbl := (List.getElem?_eq_some_iff.1 hb).1
    have hgl := (List.getElem?_eq_some_iff.1 hit).1
    have hit2 : (g1.set g.length (.iter im l0.length (seen ++ [b]) l.length))[g.length]? = some (.iter im l0.length (seen ++ [b]) l.length) := List.getElem?_set_self hgl
    have s2 : Sm h im l (g1.set g.length (.iter im l0.length (seen ++ [b]) l.length)) := ⟨s1.ex.set (by have := st.ex.1; omega) _, by rw [List.getElem?_set_ne (by omega)]; exact s1.hm⟩
    have en : iEntry (g1.set g.length (.iter im l0.length (seen ++ [b]) l.length)) (pt g.length 0) = some (.tuple #[S p.1, S p.2]) := by
      simp only [iEntry, pt, hit2, s2.hm, List.getLast?_concat, if_true, tmap_find hb, Option.map_some]
    have x2 : iExt 0 (.tuple #[S p.1, S p.2]) = some (S p.1) := rfl
    have x3 : iExt 1 (.tuple #[S p.1, S p.2]) = some (S p.2) := rfl
    have e3 : ∀ s : List UInt8, iBin .eql (S s) (.string ⟨#[]⟩) = some (B (decide (s = []))) := fun s => by show iBin .eql (S s) (S []) = _; rw [bin_eqlS]
    simp only [x1, OP_some, IfP_true, en, x2, x3, e3, IfP_dec, true_and]
    have nd2 : (seen ++ [b]).Nodup := List.nodup_append.2 ⟨nd, by simp, by simpa using fun a ha (h : a = b) => hns (h ▸ ha)⟩
    have hlt2 : ∀ c ∈ seen ++ [b], c < l.length := fun c hc => by
      rcases List.mem_append.1 hc with hc | hc
      · exact hlt c hc
      · rw [List.mem_singleton.1 hc]; exact hbl
    have sn : seen.length + 1 ≤ l.length := by
      have := nodup_le nd2 (m := List.range l.length) fun c hc => List.mem_range.2 (hlt2 c hc)
      simpa using this
    have lk := look_get gd1.nd hb
    refine ⟨fun h0 => ?_, fun h0 => ?_⟩
    · refine hL (m, seen ++ [b], l.length, l, _) ⟨s2, hit2, .inr (by show 1 ≤ l.length; omega), gd1, dn, ⟨nd2, hlt2⟩, h3, fun hm => ?_⟩ (by show 133 - (seen ++ [b]).length < 133 - seen.length; simp; omega)
      obtain ⟨el, hc⟩ := h4 hm
      refine ⟨el, fun c hc' q hq w hw => ?_⟩
      rcases List.mem_append.1 hc' with hc' | hc'
      · exact hc c hc' q hq w hw
      · rw [List.mem_singleton.1 hc', ← el, hb] at hq
        cases hq
        exact fun hn => absurd h0 hn
    · refine entU ok i1 hv lk h0 s2 gd1 h3 (fun hm => (h4 hm).1) ?_
      intro m' l2 g3 s3 kp kl gd2 dn2 ll q1 q2
      refine hL (m', seen ++ [b], l.length, l2, g3) ⟨s3, by rw [kp _ (by omega)]; exact hit2, .inr (by show 1 ≤ l.length; omega), gd2, dn.trans dn2, ⟨nd2, fun c hc => by have := hlt2 c hc; show c < l2.length; omega⟩, q1, fun hm => ?_⟩ (by show 133 - (seen ++ [b]).length < 133 - seen.length; simp; omega)
      obtain ⟨r1, r2, r3⟩ := q2 hm
      obtain ⟨el, hc⟩ := h4 r1
      refine ⟨r2, fun c hc' q hq w hw => ?_⟩
      rcases List.mem_append.1 hc' with hc' | hc'
      · exact hc c hc' q hq w hw
      · rw [List.mem_singleton.1 hc', ← el, hb] at hq
        cases hq
        exact r3 w hw

end

open Classical in
/-- The answer. -/
noncomputable def uncV (W : List Tx) : Value := if hx : ∃ t, Rc W [] t ∧ ∀ t', Rc W [] t' → rk t ≤ rk t' then .tuple #[S hx.choose, B true] else .tuple #[S [], B false]

theorem uncV_yes {W : List Tx} (ok : Ok W) {t : Tx} (r : Rc W [] t) (hl : ∀ t', Rc W [] t' → rk t ≤ rk t') : uncV W = .tuple #[S t, B true] := by
  have hx : ∃ t, Rc W [] t ∧ ∀ t', Rc W [] t' → rk t ≤ rk t' := ⟨t, r, hl⟩
  rw [uncV, dif_pos hx]
  have h1 := hx.choose_spec
  have : hx.choose = t := rk_inj ((h1.1.key ok).2) ((r.key ok).2) (Nat.le_antisymm (h1.2 t r) (hl _ h1.1))
  rw [this]

theorem uncV_no {W : List Tx} (hn : ∀ t, ¬ Rc W [] t) : uncV W = .tuple #[S [], B false] := by
  rw [uncV, dif_neg]
  rintro ⟨t, r, _⟩
  exact hn t r

theorem C23 {v : Value} {W : List Tx} {h : Heap} {K : Value → Heap → Prop} (ok : Ok W) (hv : SS h v W)
    (hno : (∀ t, ¬ Rc W [] t) → K (.tuple #[S [], B false]) h)
    (hyes : ∀ t, Rc W [] t → (∀ t', Rc W [] t' → rk t ≤ rk t') → K (.tuple #[S t, B true]) h) : CallP Tryd.prog 23 [v] h K := by
  have hk : K (uncV W) h := by
    by_cases hc : ∃ t, Rc W [] t
    · obtain ⟨t, r⟩ := hc
      obtain ⟨t, r, hl⟩ := exLeast r
      rw [uncV_yes ok r hl]
      exact hyes t r hl
    · have hc : ∀ t, ¬ Rc W [] t := fun t r => hc ⟨t, r⟩
      rw [uncV_no hc]
      exact hno hc
  have ren : Ren fun _ => uncV W := by
    have : ∀ (s : Tx) (b : Bool), Ren fun _ => .tuple #[S s, B b] := fun s b => Ren.tuple (l := [fun _ => S s, fun _ => B b]) (.cons (Ren.scal rfl) (.cons (Ren.scal rfl) .nil))
    by_cases hc : ∃ t, Rc W [] t
    · obtain ⟨t, r⟩ := hc
      obtain ⟨t, r, hl⟩ := exLeast r
      rw [uncV_yes ok r hl]
      exact this _ _
    · rw [uncV_no fun t r => hc ⟨t, r⟩]
      exact this _ _
  refine callN_gc ren (f23 ?_) hk
  unfold T23
  simp only [iMkMapG, OH_some]
  refine iniU ok (Nat.le_refl _) hv ⟨EX.append _ _, get_last⟩ ?_
  intro l g st gd hi
  rw [q23z21]
  refine loopL (σ := Bool × List (Tx × Tx) × Heap) (fun q => [B q.1]) (fun q => q.2.2) (fun q => Sm h h.length q.2.1 q.2.2 ∧ Good W q.2.1 ∧ Ini W q.2.1 ∧ (q.1 = false → ∀ a t, look a q.2.1 = some t → ∀ w ∈ W, Clo q.2.1 a w)) (fun q => 2 * mu W q.2.1 + (if q.1 then 1 else 0)) (true, l, g) rfl rfl ⟨st, gd, hi, fun h => by cases h⟩ ?_
  rintro ⟨m, l1, g1⟩ ⟨s1, gd1, in1, cl⟩ L hL
  simp only at s1 gd1 in1 cl hL ⊢
  rw [q23z25]
  cases m with
  | true =>
    simp only [IfP_true]
    refine passU ok (Nat.le_refl _) hv s1 gd1 ?_
    intro m' l2 g3 s3 gd3 dn q1 q2
    refine hL (m', l2, g3) ⟨s3, gd3, in1.dn dn, fun hm a t ht w hw => ?_⟩ ?_
    · obtain ⟨r1, r2⟩ := q2 hm
      simp only at r1 ht ⊢
      rw [r1] at ht ⊢
      exact r2 a t ht w hw
    · show 2 * mu W l2 + (if m' = true then 1 else 0) < 2 * mu W l1 + 1
      cases m' with
      | true => have := q1 rfl; simp only [if_true]; omega
      | false => rw [(q2 rfl).1]; simp
  | false =>
    simp only [IfP_false]
    rw [q23z54]
    have e2 : iLookupG .str true (.string ⟨#[]⟩) g1 (.map (some h.length)) (.string ⟨#[]⟩) = some (.tuple #[((look [] l1).map S).getD (S []), B (look [] l1).isSome]) := by
      have e2 : iLookupG .str true (.string ⟨#[]⟩) g1 (.map (some h.length)) (S []) = some (.tuple #[((look [] l1).map S).getD (S []), B (look [] l1).isSome]) := by
        simp only [iLookupG, s1.hm, findG_tmap]
        cases look [] l1 <;> rfl
      exact e2
    simp only [OP_some, e2, ext_tuple, pair0, pair1]
    have key : ∀ {t : Tx}, Rc W [] t → ∃ t', look [] l1 = some t' ∧ rk t' ≤ rk t := fun r => least in1 (cl rfl) r
    cases hl : look [] l1 with
    | none =>
      refine ⟨?_, s1.ex⟩
      rw [uncV_no fun t r => by obtain ⟨t', e, _⟩ := key r; rw [hl] at e; cases e]
      rfl
    | some t =>
      refine ⟨?_, s1.ex⟩
      rw [uncV_yes ok (gd1.rc _ _ hl) fun t' r => by
        obtain ⟨u, e, hle⟩ := key r
        rw [hl] at e
        cases e
        exact hle]
      rfl

end Go.Proofs.YthplaillblmgfaaDoor


namespace Go.Proofs.YthplaillblmgfaaDoor
open Go.Sim

def Rows' (W : List Tx) (x : List Tx) : Prop := ∀ w ∈ x, w ∈ W
def Amb (W : List Tx) (s : Tx) : Prop := ∃ x y, Rows' W x ∧ Rows' W y ∧ x ≠ y ∧ x.flatten = s ∧ y.flatten = s

theorem Rows'.snoc {W x : List Tx} (h : Rows' W x) {w : Tx} (hw : w ∈ W) : Rows' W (x ++ [w]) := fun v hv => by
  rcases List.mem_append.1 hv with hv | hv
  · exact h v hv
  · rw [List.mem_singleton.1 hv]; exact hw

theorem Rc.two {W : List Tx} {a t : Tx} (r : Rc W a t) : ∃ v w x y, v ≠ w ∧ Rows' W (v :: x) ∧ Rows' W (w :: y) ∧ (v :: x).flatten = t ∧ (w :: y).flatten ++ a = t := by
  induction r with
  | @init v w hv hw hne hp =>
    obtain ⟨r, rfl⟩ := hp
    exact ⟨_, v, [], [], Ne.symm hne, fun u hu => by rw [List.mem_singleton.1 hu]; exact hw, fun u hu => by rw [List.mem_singleton.1 hu]; exact hv, by simp, by simp⟩
  | @fwd a t u _ _ hu hp ih =>
    obtain ⟨v, w, x, y, hne, h1, h2, e1, e2⟩ := ih
    obtain ⟨r, rfl⟩ := hp
    refine ⟨w, v, y ++ [a ++ r], x, Ne.symm hne, h2.snoc hu, h1, ?_, ?_⟩
    · rw [← e2]; simp
    · rw [e1]
  | @bwd a t u _ _ hu hp ih =>
    obtain ⟨v, w, x, y, hne, h1, h2, e1, e2⟩ := ih
    obtain ⟨r, rfl⟩ := hp
    refine ⟨v, w, x, y ++ [u], hne, h1, h2.snoc hu, e1, ?_⟩
    rw [← e2]; simp

theorem Rows'.tail {W x : List Tx} {v : Tx} (h : Rows' W (v :: x)) : Rows' W x := fun w hw => h w (List.mem_cons_of_mem _ hw)

theorem run {W : List Tx} : ∀ (n : Nat) {a t : Tx} {x y : List Tx}, x.length + y.length ≤ n → Rc W a t → a ≠ [] → Rows' W x → Rows' W y → a ++ x.flatten = y.flatten → ∃ t', Rc W [] t' ∧ t' <+: t ++ x.flatten := by
  intro n
  induction n with
  | zero =>
    intro a t x y hn r ha hx hy e
    have : y = [] := List.length_eq_zero_iff.1 (by omega)
    subst this
    simp at e
    exact absurd e.1 ha
  | succ n ih =>
    intro a t x y hn r ha hx hy e
    cases y with
    | nil => simp at e; exact absurd e.1 ha
    | cons w y =>
      have hw := hy w List.mem_cons_self
      rw [List.flatten_cons] at e
      simp only [List.length_cons] at hn
      rcases List.prefix_or_prefix_of_prefix (show a <+: a ++ x.flatten from List.prefix_append _ _) (show w <+: a ++ x.flatten from e ▸ List.prefix_append _ _) with hp | hp
      · have r' := Rc.fwd r ha hw hp
        obtain ⟨q, rfl⟩ := hp
        rw [List.drop_left] at r'
        rw [List.append_assoc] at e
        have e' := List.append_cancel_left e
        by_cases hq : q = []
        · subst hq
          exact ⟨_, r', by simp⟩
        · obtain ⟨t', h1, h2⟩ := ih (by omega) r' hq hy.tail hx e'.symm
          refine ⟨t', h1, ?_⟩
          rw [e']
          simpa using h2
      · have r' := Rc.bwd r ha hw hp
        obtain ⟨q, rfl⟩ := hp
        rw [List.drop_left] at r'
        rw [List.append_assoc] at e
        have e' := List.append_cancel_left e
        by_cases hq : q = []
        · subst hq
          exact ⟨_, r', List.prefix_append _ _⟩
        · exact ih (by omega) r' hq hx hy.tail e'

theorem start {W : List Tx} {v w : Tx} {x y : List Tx} (hne : v ≠ w) (hx : Rows' W (v :: x)) (hy : Rows' W (w :: y)) (e : (v :: x).flatten = (w :: y).flatten) : ∃ t', Rc W [] t' ∧ t' <+: (v :: x).flatten := by
  have key : ∀ {v w : Tx} {x y : List Tx}, v ≠ w → Rows' W (v :: x) → Rows' W (w :: y) → v ++ x.flatten = w ++ y.flatten → v <+: w → ∃ t', Rc W [] t' ∧ t' <+: w ++ y.flatten := by
    intro v w x y hne hx hy e hp
    have r := Rc.init (hx v List.mem_cons_self) (hy w List.mem_cons_self) hne hp
    obtain ⟨q, rfl⟩ := hp
    rw [List.drop_left] at r
    rw [List.append_assoc] at e
    have e' := List.append_cancel_left e
    exact run _ (Nat.le_refl _) r (by rintro rfl; simp at hne) hy.tail hx.tail e'.symm
  rw [List.flatten_cons, List.flatten_cons] at e
  rw [List.flatten_cons]
  rcases List.prefix_or_prefix_of_prefix (show v <+: v ++ x.flatten from List.prefix_append _ _) (show w <+: v ++ x.flatten from e ▸ List.prefix_append _ _) with hp | hp
  · rw [e]; exact key hne hx hy e hp
  · exact key (Ne.symm hne) hy hx e.symm hp

theorem Amb.rc {W : List Tx} (hn : ∀ w ∈ W, w ≠ []) {s : Tx} : Amb W s → ∃ t, Rc W [] t ∧ t.length ≤ s.length := by
  rintro ⟨x, y, hx, hy, hne, e1, e2⟩
  induction x generalizing y s with
  | nil =>
    cases y with
    | nil => exact absurd rfl hne
    | cons w y =>
      subst e1
      have := hn w (hy w List.mem_cons_self)
      simp at e2
      exact absurd e2.1 this
  | cons v x ih =>
    cases y with
    | nil =>
      subst e2
      have := hn v (hx v List.mem_cons_self)
      simp at e1
      exact absurd e1.1 this
    | cons w y =>
      by_cases hvw : v = w
      · subst hvw
        rw [List.flatten_cons] at e1 e2
        have e : x.flatten = y.flatten := List.append_cancel_left (e1.trans e2.symm)
        obtain ⟨t, h1, h2⟩ := ih y hx.tail hy.tail (fun h => hne (by rw [h])) rfl e.symm
        exact ⟨t, h1, by rw [← e1, List.length_append]; omega⟩
      · obtain ⟨t, h1, h2⟩ := start hvw hx hy (e1.trans e2.symm)
        exact ⟨t, h1, by rw [← e1]; exact h2.length_le⟩

theorem chk0 {W : List Tx} (ok : Ok W) (h0 : W ≠ []) : chkE W [] = 0 := by
  have := ok.few
  unfold chkE
  rw [if_neg (by simp; omega), if_neg (by simp [h0, bitsB]), if_pos ⟨ok.nd, fun w hw => ⟨ok.ne w hw, ok.le w hw, ok.bt w hw⟩⟩]

end Go.Proofs.YthplaillblmgfaaDoor


namespace Go.Proofs.YthplaillblmgfaaDoor
open Go.Sim

theorem ok_len {W : List Tx} (ok : Ok W) : W.length < 1000000 ∧ ∀ w ∈ W, w.length < 4611686018427387904 := ⟨by have := ok.few; omega, fun w hw => by have := ok.le w hw; omega⟩

/-- Clear of a code. -/
theorem clearC {b : Nat} {v : Value} {W : List Tx} {h : Heap} {K : Value → Heap → Prop} (ok : Ok W) (h0 : W ≠ []) (hv : OwnS b h 9 v (W.map S))
    (hno : (∀ t, ¬ Rc W [] t) → ∀ h', EX h h' → K (.tuple #[S [], I 5]) h')
    (hyes : ∀ t, Rc W [] t → (∀ t', Rc W [] t' → rk t ≤ rk t') → ∀ h', EX h h' → K (.tuple #[S t, I 0]) h') : CallP Tryd.prog 18 [v] h K :=
  C18 hv (ok_len ok).1 (ok_len ok).2 (fun hc => absurd (chk0 ok h0) hc) (fun _ => hno) fun _ => hyes

end Go.Proofs.YthplaillblmgfaaDoor


namespace Go.Proofs.YthplaillblmgfaaDoor
open Go.Sim
variable (P : Program) (K : VK)
/-! F8: pommel/pommellaw08.MarkPlain -/
noncomputable def c8z11 : ICode := .seq (.seq (.ops none [⟨(some 29), .p (.mv (.tmp 10))⟩,
 ⟨(some 30), .p (.mv (.tmp 3))⟩,
 ⟨(some 31), .p (.lenSl (.tmp 30))⟩,
 ⟨(some 32), .p (.bin .lss (.tmp 29) (.tmp 31))⟩])
 (.cond (.tmp 32) (.skip)
 (.exit 0)))
 (.seq (.block 1 (.seq (.ops none [⟨(some 35), .p (.mv (.tmp 8))⟩,
 ⟨(some 36), .p (.mv (.tmp 3))⟩,
 ⟨(some 37), .p (.mv (.tmp 10))⟩,
 ⟨(some 38), .p (.adrSl 1 (.tmp 36) (.tmp 37))⟩,
 ⟨(some 39), .l (.load false 1 (.tmp 38))⟩,
 ⟨(some 40), .p (.lenS (.tmp 39))⟩,
 ⟨(some 41), .e (.mkSl 3 1 [(.int .i64 (0))] [(0, 1, (.tmp 40))])⟩,
 ⟨(some 42), .e (.app 3 1 8 (.tmp 35) (.tmp 41))⟩,
 ⟨(some 8), .p (.mv (.tmp 42))⟩])
 (.dops [(none, [⟨(some 43), .p (.mv (.tmp 9)), 0⟩,
 ⟨(some 44), .p (.mv (.tmp 43)), 1⟩]),
 ((some (44, true)), [⟨(some 45), .p (.mv (.tmp 10)), 3⟩,
 ⟨(some 46), .p (.bin .eql (.tmp 45) (.const (.int .i64 (0)))), 7⟩,
 ⟨(some 47), .p (.mv (.tmp 46)), 15⟩]),
 ((some (47, false)), [⟨(some 48), .p (.mv (.tmp 3)), 31⟩,
 ⟨(some 49), .p (.mv (.tmp 10)), 31⟩,
 ⟨(some 50), .p (.bin .sub (.tmp 49) (.const (.int .i64 (1)))), 95⟩,
 ⟨(some 51), .p (.adrSl 1 (.tmp 48) (.tmp 50)), 255⟩,
 ⟨(some 52), .l (.load false 1 (.tmp 51)), 511⟩,
 ⟨(some 53), .p (.mv (.tmp 3)), 31⟩,
 ⟨(some 54), .p (.mv (.tmp 10)), 31⟩,
 ⟨(some 55), .p (.adrSl 1 (.tmp 53) (.tmp 54)), 3103⟩,
 ⟨(some 56), .l (.load false 1 (.tmp 55)), 7199⟩,
 ⟨(some 57), .p (.bin .lss (.tmp 52) (.tmp 56)), 16383⟩]),
 ((some (44, true)), [⟨(some 58), .p (.pick (.tmp 47) (.const (.bool true)) (.tmp 57)), 32767⟩]),
 (none, [⟨(some 59), .p (.pick (.tmp 44) (.tmp 58) (.const (.bool false))), 65535⟩,
 ⟨(some 9), .p (.mv (.tmp 59)), 131071⟩])])))
 (.ops none [⟨(some 33), .p (.mv (.tmp 10))⟩,
 ⟨(some 34), .p (.bin .add (.tmp 33) (.const (.int .i64 (1))))⟩,
 ⟨(some 10), .p (.mv (.tmp 34))⟩]))
noncomputable def c8z36 : ICode := .ops none [⟨(some 86), .p (.pick (.tmp 66) (.tmp 85) (.const (.bool false)))⟩]
noncomputable def c8z34 : ICode := .seq (.ops (some (66, true)) [⟨(some 85), .p (.pick (.tmp 79) (.const (.bool true)) (.tmp 84))⟩])
 (.cut [4, 6, 7, 11, 66, 85] c8z36)
noncomputable def c8z32 : ICode := .seq (.ops (some (79, false)) [⟨(some 80), .p (.mv (.tmp 11))⟩,
 ⟨(some 81), .call 26 [(.tmp 80)]⟩,
 ⟨(some 82), .p (.mv (.tmp 8))⟩,
 ⟨(some 83), .call 15 [(.tmp 81), (.tmp 82)]⟩,
 ⟨(some 84), .p (.un .not (.tmp 83))⟩])
 (.cut [4, 6, 7, 11, 66, 79, 84] c8z34)
noncomputable def c8z30 : ICode := .seq (.ops (some (66, true)) [⟨(some 78), .p (.pick (.tmp 74) (.const (.bool true)) (.tmp 77))⟩,
 ⟨(some 79), .p (.mv (.tmp 78))⟩])
 (.cut [4, 6, 7, 8, 11, 66, 79] c8z32)
noncomputable def c8z28 : ICode := .seq (.ops (some (74, false)) [⟨(some 75), .p (.mv (.tmp 11))⟩,
 ⟨(some 76), .call 22 [(.tmp 75)]⟩,
 ⟨(some 77), .p (.eqnil true (.tmp 76) (.const (.slice none 0 0)))⟩])
 (.cut [4, 6, 7, 8, 11, 66, 74, 77] c8z30)
noncomputable def c8z26 : ICode := .seq (.ops (some (66, true)) [⟨(some 73), .p (.pick (.tmp 69) (.const (.bool true)) (.tmp 72))⟩,
 ⟨(some 74), .p (.mv (.tmp 73))⟩])
 (.cut [4, 6, 7, 8, 11, 66, 74] c8z28)
noncomputable def c8z24 : ICode := .seq (.ops (some (69, false)) [⟨(some 70), .p (.mv (.tmp 11))⟩,
 ⟨(some 71), .call 21 [(.tmp 70)]⟩,
 ⟨(some 72), .p (.bin .neq (.tmp 71) (.const (.int .i64 (0))))⟩])
 (.cut [4, 6, 7, 8, 11, 66, 69, 72] c8z26)
noncomputable def c8z22 : ICode := .seq (.ops (some (66, true)) [⟨(some 67), .p (.mv (.tmp 12))⟩,
 ⟨(some 68), .p (.bin .neq (.tmp 67) (.const (.int .i64 (0))))⟩,
 ⟨(some 69), .p (.mv (.tmp 68))⟩])
 (.cut [4, 6, 7, 8, 11, 66, 69] c8z24)
noncomputable def c8z20 : ICode := .cond (.tmp 86) (.seq (.ops none [⟨(some 2), .p (.mv (.const (.bool false)))⟩])
 (.ret))
 (.skip)
noncomputable def c8z41 : ICode := .seq (.seq (.ops none [⟨(some 87), .p (.mv (.tmp 13))⟩,
 ⟨(some 88), .p (.mv (.tmp 11))⟩,
 ⟨(some 89), .p (.lenSl (.tmp 88))⟩,
 ⟨(some 90), .p (.bin .lss (.tmp 87) (.tmp 89))⟩])
 (.cond (.tmp 90) (.skip)
 (.exit 2)))
 (.seq (.block 3 (.seq (.dops [(none, [⟨(some 93), .p (.mv (.tmp 11)), 0⟩,
 ⟨(some 94), .p (.mv (.tmp 13)), 0⟩,
 ⟨(some 95), .p (.bin .sub (.tmp 94) (.const (.int .i64 (1)))), 2⟩,
 ⟨(some 96), .p (.adrSl 1 (.tmp 93) (.tmp 95)), 7⟩,
 ⟨(some 97), .l (.load false 1 (.tmp 96)), 15⟩,
 ⟨(some 98), .p (.mv (.tmp 11)), 0⟩,
 ⟨(some 99), .p (.mv (.tmp 13)), 0⟩,
 ⟨(some 100), .p (.adrSl 1 (.tmp 98) (.tmp 99)), 96⟩,
 ⟨(some 101), .l (.load false 1 (.tmp 100)), 224⟩,
 ⟨(some 102), .p (.bin .geq (.tmp 97) (.tmp 101)), 511⟩])])
 (.cond (.tmp 102) (.seq (.ops none [⟨(some 2), .p (.mv (.const (.bool false)))⟩])
 (.ret))
 (.skip))))
 (.ops none [⟨(some 91), .p (.mv (.tmp 13))⟩,
 ⟨(some 92), .p (.bin .add (.tmp 91) (.const (.int .i64 (1))))⟩,
 ⟨(some 13), .p (.mv (.tmp 92))⟩]))
noncomputable def c8z61 : ICode := .ops none [⟨(some 116), .p (.pick (.tmp 114) (.tmp 115) (.const (.bool false)))⟩,
 ⟨(some 2), .p (.mv (.tmp 116))⟩]
noncomputable def c8z59 : ICode := .seq (.ops (some (114, true)) [⟨(some 115), .call 13 []⟩])
 (.cut [114, 115] c8z61)
noncomputable def c8z57 : ICode := .seq (.ops none [⟨(some 113), .p (.pick (.tmp 109) (.tmp 112) (.const (.bool false)))⟩,
 ⟨(some 114), .p (.mv (.tmp 113))⟩])
 (.cut [114] c8z59)
noncomputable def c8z55 : ICode := .seq (.ops (some (109, true)) [⟨(some 110), .p (.mv (.tmp 4))⟩,
 ⟨(some 111), .p (.lenSl (.tmp 110))⟩,
 ⟨(some 112), .p (.bin .eql (.tmp 111) (.const (.int .i64 (0))))⟩])
 (.cut [109, 112] c8z57)
noncomputable def c8z53 : ICode := .seq (.ops none [⟨(some 108), .p (.pick (.tmp 105) (.tmp 107) (.const (.bool false)))⟩,
 ⟨(some 109), .p (.mv (.tmp 108))⟩])
 (.cut [4, 109] c8z55)
noncomputable def c8z51 : ICode := .seq (.ops (some (105, true)) [⟨(some 106), .p (.mv (.tmp 6))⟩,
 ⟨(some 107), .p (.bin .eql (.tmp 106) (.const (.string ⟨#[]⟩)))⟩])
 (.cut [4, 105, 107] c8z53)
noncomputable def c8z49 : ICode := .ret
noncomputable def c8z48 : ICode := .seq (.seq (.ops none [⟨(some 103), .p (.mv (.tmp 7))⟩,
 ⟨(some 104), .p (.bin .eql (.tmp 103) (.const (.int .i64 (5))))⟩,
 ⟨(some 105), .p (.mv (.tmp 104))⟩])
 (.cut [4, 6, 105] c8z51)) c8z49
noncomputable def c8z38 : ICode := .cut [4, 6, 7] c8z48
noncomputable def c8z19 : ICode := .seq (.seq (.ops none [⟨(some 13), .p (.mv (.const (.int .i64 (1))))⟩])
 (.block 2 (.loop [4, 6, 7, 11] [13] c8z41))) c8z38
noncomputable def c8z17 : ICode := .seq (.ops none [⟨(some 61), .p (.mv (.tmp 8))⟩,
 ⟨(some 62), .call 25 [(.tmp 61)]⟩,
 ⟨(some 60), .p (.mv (.tmp 62))⟩,
 ⟨(some 63), .p (.ext (.tmp 60) 0)⟩,
 ⟨(some 64), .p (.ext (.tmp 60) 1)⟩,
 ⟨(some 11), .p (.mv (.tmp 63))⟩,
 ⟨(some 12), .p (.mv (.tmp 64))⟩])
 (.seq (.seq (.seq (.ops none [⟨(some 65), .p (.mv (.tmp 9))⟩,
 ⟨(some 66), .p (.mv (.tmp 65))⟩])
 (.cut [4, 6, 7, 8, 11, 12, 66] c8z22)) c8z20) c8z19)
noncomputable def c8z8 : ICode := .cut [4, 6, 7, 8, 9] c8z17
noncomputable def c8z62 : ICode := .seq (.dops [(none, [⟨(some 117), .p (.mv (.tmp 5)), 0⟩,
 ⟨(some 118), .p (.bin .eql (.tmp 117) (.const (.int .i64 (0)))), 1⟩,
 ⟨(some 119), .p (.mv (.tmp 118)), 3⟩]),
 ((some (119, true)), [⟨(some 120), .p (.mv (.tmp 4)), 7⟩,
 ⟨(some 121), .p (.lenSl (.tmp 120)), 15⟩,
 ⟨(some 122), .p (.bin .eql (.tmp 121) (.const (.int .i64 (2)))), 31⟩]),
 (none, [⟨(some 123), .p (.pick (.tmp 119) (.tmp 122) (.const (.bool false))), 63⟩,
 ⟨(some 124), .p (.mv (.tmp 123)), 127⟩]),
 ((some (124, true)), [⟨(some 125), .p (.mv (.tmp 4)), 255⟩,
 ⟨(some 126), .p (.adrSl 1 (.tmp 125) (.const (.int .i64 (0)))), 511⟩,
 ⟨(some 127), .l (.load false 1 (.tmp 126)), 1023⟩,
 ⟨(some 128), .p (.bin .geq (.tmp 127) (.const (.int .i64 (0)))), 2047⟩]),
 (none, [⟨(some 129), .p (.pick (.tmp 124) (.tmp 128) (.const (.bool false))), 4095⟩,
 ⟨(some 130), .p (.mv (.tmp 129)), 8191⟩]),
 ((some (130, true)), [⟨(some 131), .p (.mv (.tmp 4)), 16383⟩,
 ⟨(some 132), .p (.adrSl 1 (.tmp 131) (.const (.int .i64 (0)))), 32767⟩,
 ⟨(some 133), .l (.load false 1 (.tmp 132)), 65535⟩,
 ⟨(some 134), .p (.mv (.tmp 3)), 16383⟩,
 ⟨(some 135), .p (.lenSl (.tmp 134)), 147455⟩,
 ⟨(some 136), .p (.bin .lss (.tmp 133) (.tmp 135)), 524287⟩]),
 (none, [⟨(some 137), .p (.pick (.tmp 130) (.tmp 136) (.const (.bool false))), 1048575⟩,
 ⟨(some 138), .p (.mv (.tmp 137)), 2097151⟩]),
 ((some (138, true)), [⟨(some 139), .p (.mv (.tmp 4)), 4194303⟩,
 ⟨(some 140), .p (.adrSl 1 (.tmp 139) (.const (.int .i64 (1)))), 8388607⟩,
 ⟨(some 141), .l (.load false 1 (.tmp 140)), 16777215⟩,
 ⟨(some 142), .p (.bin .geq (.tmp 141) (.const (.int .i64 (0)))), 33554431⟩]),
 (none, [⟨(some 143), .p (.pick (.tmp 138) (.tmp 142) (.const (.bool false))), 67108863⟩,
 ⟨(some 144), .p (.mv (.tmp 143)), 134217727⟩]),
 ((some (144, true)), [⟨(some 145), .p (.mv (.tmp 4)), 268435455⟩,
 ⟨(some 146), .p (.adrSl 1 (.tmp 145) (.const (.int .i64 (1)))), 536870911⟩,
 ⟨(some 147), .l (.load false 1 (.tmp 146)), 1073741823⟩,
 ⟨(some 148), .p (.mv (.tmp 3)), 268435455⟩,
 ⟨(some 149), .p (.lenSl (.tmp 148)), 2415919103⟩,
 ⟨(some 150), .p (.bin .lss (.tmp 147) (.tmp 149)), 8589934591⟩]),
 (none, [⟨(some 151), .p (.pick (.tmp 144) (.tmp 150) (.const (.bool false))), 17179869183⟩,
 ⟨(some 152), .p (.mv (.tmp 151)), 34359738367⟩]),
 ((some (152, true)), [⟨(some 153), .p (.mv (.tmp 4)), 68719476735⟩,
 ⟨(some 154), .p (.adrSl 1 (.tmp 153) (.const (.int .i64 (0)))), 137438953471⟩,
 ⟨(some 155), .l (.load false 1 (.tmp 154)), 274877906943⟩,
 ⟨(some 156), .p (.mv (.tmp 4)), 68719476735⟩,
 ⟨(some 157), .p (.adrSl 1 (.tmp 156) (.const (.int .i64 (1)))), 618475290623⟩,
 ⟨(some 158), .l (.load false 1 (.tmp 157)), 1717986918399⟩,
 ⟨(some 159), .p (.bin .neq (.tmp 155) (.tmp 158)), 4398046511103⟩]),
 (none, [⟨(some 160), .p (.pick (.tmp 152) (.tmp 159) (.const (.bool false))), 8796093022207⟩,
 ⟨(some 161), .p (.mv (.tmp 160)), 17592186044415⟩]),
 ((some (161, true)), [⟨(some 162), .p (.mv (.tmp 3)), 35184372088831⟩,
 ⟨(some 163), .p (.mv (.tmp 4)), 35184372088831⟩,
 ⟨(some 164), .p (.adrSl 1 (.tmp 163) (.const (.int .i64 (0)))), 105553116266495⟩,
 ⟨(some 165), .l (.load false 1 (.tmp 164)), 246290604621823⟩,
 ⟨(some 166), .p (.adrSl 1 (.tmp 162) (.tmp 165)), 562949953421311⟩,
 ⟨(some 167), .l (.load false 1 (.tmp 166)), 1125899906842623⟩,
 ⟨(some 168), .p (.lenS (.tmp 167)), 2251799813685247⟩,
 ⟨(some 169), .p (.mv (.tmp 3)), 35184372088831⟩,
 ⟨(some 170), .p (.mv (.tmp 4)), 35184372088831⟩,
 ⟨(some 171), .p (.adrSl 1 (.tmp 170) (.const (.int .i64 (1)))), 9042383626829823⟩,
 ⟨(some 172), .l (.load false 1 (.tmp 171)), 27056782136311807⟩,
 ⟨(some 173), .p (.adrSl 1 (.tmp 169) (.tmp 172)), 67589178782646271⟩,
 ⟨(some 174), .l (.load false 1 (.tmp 173)), 139646772820574207⟩,
 ⟨(some 175), .p (.lenS (.tmp 174)), 283761960896430079⟩,
 ⟨(some 176), .p (.bin .leq (.tmp 168) (.tmp 175)), 576460752303423487⟩]),
 (none, [⟨(some 177), .p (.pick (.tmp 161) (.tmp 176) (.const (.bool false))), 1152921504606846975⟩,
 ⟨(some 178), .p (.mv (.tmp 177)), 2305843009213693951⟩]),
 ((some (178, true)), [⟨(some 179), .p (.mv (.tmp 3)), 4611686018427387903⟩,
 ⟨(some 180), .p (.mv (.tmp 4)), 4611686018427387903⟩,
 ⟨(some 181), .p (.adrSl 1 (.tmp 180) (.const (.int .i64 (1)))), 13835058055282163711⟩,
 ⟨(some 182), .l (.load false 1 (.tmp 181)), 32281802128991715327⟩,
 ⟨(some 183), .p (.adrSl 1 (.tmp 179) (.tmp 182)), 73786976294838206463⟩,
 ⟨(some 184), .l (.load false 1 (.tmp 183)), 147573952589676412927⟩,
 ⟨(some 185), .p (.mv (.tmp 3)), 4611686018427387903⟩,
 ⟨(some 186), .p (.mv (.tmp 4)), 4611686018427387903⟩,
 ⟨(some 187), .p (.adrSl 1 (.tmp 186) (.const (.int .i64 (0)))), 594907496377133039615⟩,
 ⟨(some 188), .l (.load false 1 (.tmp 187)), 1775499117094544343039⟩,
 ⟨(some 189), .p (.adrSl 1 (.tmp 185) (.tmp 188)), 4431830263708719775743⟩,
 ⟨(some 190), .l (.load false 1 (.tmp 189)), 9154196746578364989439⟩,
 ⟨(some 191), .p (.lenS (.tmp 190)), 18598929712317655416831⟩,
 ⟨(some 192), .p (.slS (.tmp 184) none (some (.tmp 191))), 37778931862957161709567⟩,
 ⟨(some 193), .p (.mv (.tmp 3)), 4611686018427387903⟩,
 ⟨(some 194), .p (.mv (.tmp 4)), 4611686018427387903⟩,
 ⟨(some 195), .p (.adrSl 1 (.tmp 194) (.const (.int .i64 (0)))), 151120339137847074226175⟩,
 ⟨(some 196), .l (.load false 1 (.tmp 195)), 453351794041504367902719⟩,
 ⟨(some 197), .p (.adrSl 1 (.tmp 193) (.tmp 196)), 1133372567574733278674943⟩,
 ⟨(some 198), .l (.load false 1 (.tmp 197)), 2342298387189362453381119⟩,
 ⟨(some 199), .p (.bin .eql (.tmp 192) (.tmp 198)), 4835703278458516698824703⟩]),
 (none, [⟨(some 200), .p (.pick (.tmp 178) (.tmp 199) (.const (.bool false))), 9671406556917033397649407⟩,
 ⟨(some 201), .p (.mv (.tmp 200)), 19342813113834066795298815⟩]),
 ((some (201, true)), [⟨(some 202), .call 13 [], 38685626227668133590597631⟩]),
 (none, [⟨(some 203), .p (.pick (.tmp 201) (.tmp 202) (.const (.bool false))), 77371252455336267181195263⟩,
 ⟨(some 2), .p (.mv (.tmp 203)), 154742504910672534362390527⟩])])
 (.ret)
noncomputable def c8z5 : ICode := .cut [3, 4, 5] c8z62
noncomputable def c8 : ICode := .seq (.ops none [⟨(some 2), .p (.mv (.const (.bool false)))⟩])
 (.seq (.ops none [⟨(some 14), .p (.mv (.tmp 0))⟩,
 ⟨(some 15), .call 17 [(.tmp 14)]⟩,
 ⟨(some 3), .p (.mv (.tmp 15))⟩])
 (.seq (.ops none [⟨(some 17), .p (.mv (.tmp 3))⟩,
 ⟨(some 18), .call 20 [(.tmp 17)]⟩,
 ⟨(some 16), .p (.mv (.tmp 18))⟩,
 ⟨(some 19), .p (.ext (.tmp 16) 0)⟩,
 ⟨(some 20), .p (.ext (.tmp 16) 1)⟩,
 ⟨(some 4), .p (.mv (.tmp 19))⟩,
 ⟨(some 5), .p (.mv (.tmp 20))⟩])
 (.seq (.ops none [⟨(some 22), .p (.mv (.tmp 3))⟩,
 ⟨(some 23), .call 18 [(.tmp 22)]⟩,
 ⟨(some 21), .p (.mv (.tmp 23))⟩,
 ⟨(some 24), .p (.ext (.tmp 21) 0)⟩,
 ⟨(some 25), .p (.ext (.tmp 21) 1)⟩,
 ⟨(some 6), .p (.mv (.tmp 24))⟩,
 ⟨(some 7), .p (.mv (.tmp 25))⟩])
 (.seq (.seq (.ops none [⟨(some 26), .p (.mv (.tmp 5))⟩,
 ⟨(some 27), .p (.bin .eql (.tmp 26) (.const (.int .i64 (5))))⟩])
 (.cond (.tmp 27) (.seq (.ops none [⟨(some 28), .e (.mkSl 3 0 [(.int .i64 (0))] [])⟩,
 ⟨(some 8), .p (.mv (.tmp 28))⟩,
 ⟨(some 9), .p (.mv (.const (.bool true)))⟩])
 (.seq (.seq (.ops none [⟨(some 10), .p (.mv (.const (.int .i64 (0))))⟩])
 (.block 0 (.loop [3, 4, 6, 7] [8, 9, 10] c8z11))) c8z8))
 (.skip))) c8z5))))
def K8z0 (_P : Program) (K : VK) : Kont := bodyP [.tmp 2] K
def K8z5 : Kont := thenK (iwpP P c8z5 (K8z0 P K)) (K8z0 P K)
def K8z8 : Kont := thenK (iwpP P c8z8 (K8z5 P K)) (K8z5 P K)
def K8z10 : Kont := inBlockK 0 (K8z8 P K)
def K8z11 (l3 p4 s6 f7 : Value) (L1 : LK) : Kont := thenK (fun f' h'' => (([3, 4, 6, 7] : List Nat).map f' : List Value) = [l3, p4, s6, f7] ∧ L1 (([8, 9, 10] : List Nat).map f') h'') (K8z10 P K)
def p8z11 (l3 p4 s6 f7 : Value) (L1 : LK) (xs : List Value) (h : Heap) : Prop := CutP (iwpP P c8z11 (K8z11 P K l3 p4 s6 f7 L1)) ([3, 4, 6, 7] ++ [8, 9, 10]) ([l3, p4, s6, f7] ++ xs) h
def p8z62 (l3 p4 e5 : Value) (h : Heap) : Prop := CutP (iwpP P c8z62 (K8z0 P K)) [3, 4, 5] [l3, p4, e5] h
def T8 (x0 : Value) (h : Heap) : Prop :=
 CallP P 17 [x0] h fun x15 h_1 =>
 CallP P 20 [x15] h_1 fun x18 h_2 =>
 OP (iExt 0 x18) fun x19 =>
 OP (iExt 1 x18) fun x20 =>
 CallP P 18 [x15] h_2 fun x23 h_3 =>
 OP (iExt 0 x23) fun x24 =>
 OP (iExt 1 x23) fun x25 =>
 OP (iBin .eql x20 (.int .i64 (5))) fun x27 =>
 IfP x27
 (OH (iMkSl 3 0 [(.int .i64 (0))] h_3 []) fun x28 h_4 =>
 LoopP [x28, (.bool true), (.int .i64 (0))] h_4 fun L1 xs hx =>
 p8z11 P K x15 x19 x24 x25 L1 xs hx)
 (p8z62 P K x15 x19 x20 h_3)
theorem e8 (x0 : Value) (h : Heap) : iwpP P c8 (bodyP [.tmp 2] K) (frame0 [x0]) h = T8 P K x0 h := by kernel_rfl
end Go.Proofs.YthplaillblmgfaaDoor

namespace Go.Proofs.YthplaillblmgfaaDoor
open Go.Sim

theorem own_ex {b : Nat} {g g' : Heap} {v : Value} {xs : List Value} (x : EX g g') (o : OwnS b g 3 v xs) : OwnS b g' 3 v xs := o.keep fun d _ hv _ => x.2 d (o.lt hv).2.1

end Go.Proofs.YthplaillblmgfaaDoor


namespace Go.Proofs.YthplaillblmgfaaDoor
open Go.Sim

/-- Words cut to what the law looks at. -/
def cutW (xs : List Tx) : List Tx := (xs.take 13).map fun x => x.take 11

theorem cutW_len (xs : List Tx) : (cutW xs).length ≤ 13 ∧ ∀ w ∈ cutW xs, w.length < 4611686018427387904 := by
  refine ⟨by simp [cutW]; omega, fun w hw => ?_⟩
  obtain ⟨x, _, rfl⟩ := List.mem_map.1 hw
  rw [List.length_take]; omega

theorem C19 {v : Value} {xs : List Tx} {h : Heap} {K : Value → Heap → Prop} (hv : SS h v xs) (hk : ∀ u h', EX h h' → OwnS h.length h' 9 u ((cutW xs).map S) → K u h') : CallP Tryd.prog 19 [v] h K := by
  refine f19 ?_
  unfold T19
  simp only [mkW0, OH_some]
  refine loopL (σ := Nat × Value × Heap) (fun q => [q.2.1, I q.1]) (fun q => q.2.2) (fun q => (q.1 ≤ xs.length ∧ q.1 ≤ 13) ∧ EX h q.2.2 ∧ OwnS h.length q.2.2 9 q.2.1 (((xs.take q.1).map fun x => x.take 11).map S)) (fun q => 13 - q.1)
    (0, sl 9 h.length 0 0, h ++ [.arr 9 []]) rfl rfl ⟨⟨Nat.zero_le _, Nat.zero_le _⟩, EX.append _ _, .inr ⟨h.length, Nat.le_refl _, rfl, get_last⟩⟩ ?_
  rintro ⟨i, vo, g⟩ ⟨⟨hi, hi13⟩, xg, own⟩ L hL
  simp only at hi hi13 xg own hL ⊢
  have hs := hv.mono xg
  have done : (i = xs.length ∨ i = 13) → p19z15 Tryd.prog K vo g := fun he => by
    rw [q19z15]
    refine hk vo g xg ?_
    unfold cutW
    have : xs.take 13 = xs.take i := by
      rcases he with rfl | rfl
      · rw [List.take_length, List.take_of_length_le hi13]
      · rfl
    rw [this]; exact own
  rw [q19z6]
  simp only [hs.len, OP_some, bin_lss]
  rw [q19z10]
  by_cases h1 : i < xs.length
  · rw [decide_eq_true (show (i : Int) < xs.length by omega)]
    simp only [GdP_tt, bin_leq, OP_some]
    rw [q19z12]
    by_cases h2 : i < 13
    · obtain ⟨b, o, a1, a2⟩ := hs.get i h1
      rw [decide_eq_true (show (i : Int) ≤ 12 by omega)]
      have mm : iMinmax false [I xs[i].length, (.int .i64 (11))] = some (I ((min xs[i].length 11 : Nat) : Int)) := by
        rw [min2]; congr 2; omega
      have tk : xs[i].take (min xs[i].length 11) = xs[i].take 11 := by
        by_cases hc : xs[i].length ≤ 11
        · rw [Nat.min_eq_left hc, List.take_length, List.take_of_length_le hc]
        · rw [Nat.min_eq_right (by omega)]
      simp only [iPick_t, OP_some, IfP_true, a1, a2, lenS_S, mm, slS_hi (a := xs[i]) (n := min xs[i].length 11) (Nat.min_le_left _ _) .i64, tk, true_and]
      refine app1 own xg (by simp; omega) (by simp [maxLen]; omega) rfl rfl ?_
      intro v' g' x' own'
      simp only [bin_add, OP_some, inc i (by omega), true_and]
      refine hL (i + 1, v', g') ⟨⟨by show i + 1 ≤ _; omega, by show i + 1 ≤ 13; omega⟩, x', ?_⟩ (by show 13 - (i + 1) < 13 - i; omega)
      show OwnS h.length g' 9 v' (((xs.take (i + 1)).map fun x => x.take 11).map S)
      rw [List.take_succ_eq_append_getElem h1, List.map_append, List.map_append]
      exact own'
    · rw [decide_eq_false (show ¬ (i : Int) ≤ 12 by omega)]
      simp only [iPick_t, OP_some, IfP_false]
      exact done (.inr (by omega))
  · rw [decide_eq_false (show ¬ (i : Int) < xs.length by omega)]
    simp only [GdP_ft]
    rw [q19z12]
    simp only [iPick_f, OP_some, IfP_false]
    exact done (.inl (by omega))

theorem C6 {v : Value} {xs : List Tx} {h : Heap} {K : Value → Heap → Prop} (hv : SS h v xs) (hk : ∀ h', K (B true) h') : CallP Tryd.prog 6 [v] h K := by
  refine f6 (C19 hv ?_)
  intro u h1 _ own
  obtain ⟨l1, l2⟩ := cutW_len xs
  generalize cutW xs = W at own l1 l2
  have l0 : iLenSl (.slice none 0 0) = some (I 0) := rfl
  have e1 : iBin .eql (S []) (.string ⟨#[]⟩) = some (B true) := rfl
  have last : ∀ g, p6z57 Tryd.prog K (B true) g := fun g => by
    rw [q6z57]
    simp only [GdP_tt]
    refine C13 ?_
    rw [q6z59]
    simp only [iPick_t, OP_some]
    exact hk _
  have noC : chkE W [] ≠ 0 → ∀ g, p6z10 Tryd.prog K (I (chkE W [])) (S []) (I (chkE W [])) (I (chkE W [])) (B true) g := fun _ g => by
    simp only [q6z10, GdP_tt, bin_eql, decide_true, OP_some, q6z12, iPick_t, q6z14, e1, q6z16, q6z18, q6z20, q6z22]
    refine C13 ?_
    rw [q6z24]
    simp only [iPick_t, OP_some]
    exact hk _
  -- the two texts
  have texts : ∀ (e5 want : Value) (s : Tx) (is : Bool) (g : Heap), (e5 = I 0 ∧ iEqnil true want (.slice none 0 0) = some (B true) ∨ e5 = I 5 ∧ iEqnil true want (.slice none 0 0) = some (B false)) →
      p6z29 Tryd.prog K e5 (S s) (I (if is then 0 else 5)) want (S s) (B is) (B true) g := fun e5 want s is g hc => by
    rw [q6z29]
    have b1 : ∀ a : Bool, iEqb false (B a) (B a) = some (B true) := fun a => by cases a <;> rfl
    have tail : ∀ g, p6z39 Tryd.prog K (S s) (I (if is then 0 else 5)) (S s) (B is) (B true) (B true) g := fun g => by
      simp only [q6z39, iPick_t, OP_some, q6z41, GdP_tt, bin_eqlS, decide_true, q6z43, q6z45, bin_eql]
      have : decide ((if is = true then (0 : Int) else 5) = 0) = is := by cases is <;> rfl
      rw [this]
      simp only [b1, OP_some, q6z47, iPick_t, q6z49, GdP_tt]
      cases is with
      | true =>
        simp only [q6z51, GdP_tf, q6z53, GdP_tt, iPick_t, OP_some, q6z55]
        exact last g
      | false =>
        simp only [q6z51, GdP_ff, Bool.false_eq_true, if_false, bin_eql, decide_true, OP_some, q6z53, GdP_tt, iPick_f, q6z55, iPick_t]
        exact last g
    rcases hc with ⟨rfl, hn⟩ | ⟨rfl, hn⟩
    · simp only [GdP_tt, bin_eql, decide_true, OP_some, hn, b1, q6z31, iPick_t, q6z33, q6z35, GdP_tf, q6z37]
      exact tail g
    · simp only [GdP_tt, bin_eql, show decide ((5 : Int) = 0) = false from rfl, OP_some, hn, b1, q6z31, iPick_t, q6z33, q6z35, GdP_ff, decide_true, q6z37, iPick_f]
      exact tail g
  by_cases hc : chkE W [] = 0
  · obtain ⟨h0, ok⟩ := codeOk_Ok hc
    have few := ok.few
    -- the rest, once IsPlain and Begins agree
    have rest : ∀ (p e5 : Value) (g : Heap), EX h1 g → (∀ g' (k : Value → Heap → Prop), EX g g' → (∀ want g'', EX g' g'' → (∀ q, q (B true) g'' → CallP Tryd.prog 15 [p, want] g'' q) → (e5 = I 0 ∧ iEqnil true want (.slice none 0 0) = some (B true) ∨ e5 = I 5 ∧ iEqnil true want (.slice none 0 0) = some (B false)) → k want g'') → CallP Tryd.prog 22 [u] g' k) →
        CallP Tryd.prog 18 [u] g fun x21 h_3 => OP (iExt 0 x21) fun x22 => OP (iExt 1 x21) fun x23 => CallP Tryd.prog 21 [u] h_3 fun x25 h_4 => OP (iBin .neq x25 (.int .i64 (0))) fun x27 => IfP x27 (OP (iLenSl p) fun x29 => OP (iBin .eql x29 (.int .i64 (0))) fun x30 => p6z10 Tryd.prog K e5 x22 x23 x25 x30 h_4) (CallP Tryd.prog 22 [u] h_4 fun x49 h_5 => CallP Tryd.prog 23 [u] h_5 fun x52 h_6 => OP (iExt 0 x52) fun x53 => OP (iExt 1 x52) fun x54 => CallP Tryd.prog 15 [p, x49] h_6 fun x57 h_7 => p6z29 Tryd.prog K e5 x22 x23 x49 x53 x54 x57 h_7) := by
      intro p e5 g xg hb
      have go : ∀ (s : Tx) (is : Bool) (g' : Heap), EX g g' → (∀ K' : Value → Prop, K' (.tuple #[S s, B is]) → ∀ g'', EX g' g'' → CallP Tryd.prog 23 [u] g'' fun x h => h = g'' ∧ K' x) →
          CallP Tryd.prog 21 [u] g' fun x25 h_4 => OP (iBin .neq x25 (.int .i64 (0))) fun x27 => IfP x27 (OP (iLenSl p) fun x29 => OP (iBin .eql x29 (.int .i64 (0))) fun x30 => p6z10 Tryd.prog K e5 (S s) (I (if is then 0 else 5)) x25 x30 h_4) (CallP Tryd.prog 22 [u] h_4 fun x49 h_5 => CallP Tryd.prog 23 [u] h_5 fun x52 h_6 => OP (iExt 0 x52) fun x53 => OP (iExt 1 x52) fun x54 => CallP Tryd.prog 15 [p, x49] h_6 fun x57 h_7 => p6z29 Tryd.prog K e5 (S s) (I (if is then 0 else 5)) x49 x53 x54 x57 h_7) := by
        intro s is g' x' h23
        refine C21 ((own_ss own).mono (xg.trans x')) (by omega) l2 ?_
        rw [hc]
        simp only [bin_neq, OP_some, decide_true, Bool.not_true, IfP_false]
        refine hb g' _ x' fun want g'' x'' h15 hw => ?_
        refine (h23 (fun x => x = .tuple #[S s, B is]) rfl g'' x'').mono ?_
        rintro _ _ ⟨rfl, rfl⟩
        simp only [ext_tuple, pair0, pair1, OP_some]
        exact h15 _ (texts e5 want s is _ hw)
      refine clearC ok h0 (own9 xg own) (fun hno g' x' => ?_) (fun t r hl g' x' => ?_)
      · simp only [ext_tuple, pair0, pair1, OP_some]
        exact go [] false g' x' fun K' hK g'' x'' => C23 ok ((own_ss own).mono (xg.trans (x'.trans x''))) (fun _ => ⟨rfl, hK⟩) fun t r => absurd r (hno t)
      · simp only [ext_tuple, pair0, pair1, OP_some]
        refine go t true g' x' fun K' hK g'' x'' => C23 ok ((own_ss own).mono (xg.trans (x'.trans x''))) (fun hno => absurd r (hno t)) fun t' r' hl' => ⟨rfl, ?_⟩
        have : t' = t := rk_inj ((r'.key ok).2) ((r.key ok).2) (Nat.le_antisymm (hl' t r) (hl t' r'))
        rw [this]; exact hK
    refine C20 own (by omega) l2 (fun hc' => absurd hc hc') (fun _ nb h2 x2 => ?_) (fun _ i j f p h2 x2 own2 => ?_)
    · simp only [ext_tuple, pair0, pair1, OP_some]
      refine rest _ _ h2 x2 fun g' k x' hk2 => C22 ((own_ss own).mono (x2.trans x')) (by omega) (fun _ => ?_) fun i j f => (f.no nb).elim
      exact hk2 _ _ (EX.refl _) (fun q hq => C15 (l := []) (NS.nil _ _) (NS.nil _ _) (by simp) hq) (.inr ⟨rfl, rfl⟩)
    · simp only [ext_tuple, pair0, pair1, OP_some]
      refine rest _ _ h2 x2 fun g' k x' hk2 => C22 ((own_ss own).mono (x2.trans x')) (by omega) (fun nb => (f.no nb).elim) fun i' j' f' u' g'' x'' own3 => ?_
      obtain ⟨rfl, rfl⟩ := f.uniq f'
      refine hk2 u' g'' x'' (fun q hq => C15 (l := [(i : Int), (j : Int)]) ?_ ?_ (by simp) hq) (.inl ⟨rfl, ?_⟩)
      · exact own_ns (l := [i, j]) (own_ex (x'.trans x'') own2) (by simp)
      · exact own_ns (l := [i, j]) own3 (by simp)
      · rcases own3 with ⟨_, e⟩ | ⟨d, _, rfl, _⟩
        · cases e
        · rfl
  · refine C20 own (by omega) l2 (fun _ h2 x2 => ?_) (fun hc' => absurd hc' hc) (fun hc' => absurd hc' hc)
    simp only [ext_tuple, pair0, pair1, OP_some]
    refine C18 (own9 x2 own) (by omega) l2 (fun _ h3 x3 => ?_) (fun hc' => absurd hc' hc) (fun hc' => absurd hc' hc)
    simp only [ext_tuple, pair0, pair1, OP_some]
    refine C21 ((own_ss own).mono (x2.trans x3)) (by omega) l2 ?_
    simp only [bin_neq, OP_some, decide_eq_false hc, Bool.not_false, IfP_true, l0, bin_eql, decide_true]
    exact noC hc _

end Go.Proofs.YthplaillblmgfaaDoor


namespace Go.Proofs.YthplaillblmgfaaDoor
open Go.Sim Go.ChangeShapes Go.WideShapes Go.ChangeAt Go.RowKit

set_option maxRecDepth 100000
theorem cells9 : Tryd.prog.cellsOf 9 = 1 := by kernel_rfl

section
variable {H : Type} {enc : TypeId × Value → H} {W : World} {ρ : RMap} {h : Heap}

theorem trod_str_flat {e : TypeId} (he : Tryd.prog.underlying e = some .string) (hc : Tryd.prog.cellsOf e = 1) : ∀ n cs y, DataW.trod enc Tryd.prog W 0 (fun _ => true) true n e cs = some y → cs.length = Tryd.prog.cellsOf e ∧ ∀ x ∈ cs, scal x = true := by
  intro n cs y h
  obtain ⟨s, rfl, _, _⟩ := DataW.trod_string he h
  exact ⟨by rw [hc]; rfl, by simp [scal]⟩

theorem strs_of {e : TypeId} (he : Tryd.prog.underlying e = some .string) : ∀ {n : Nat} {xs : List Value}, xs.length = n * 1 → (∀ i, i < n → ∃ m y, DataW.trod enc Tryd.prog W 0 (fun _ => true) true m e ((xs.drop (i * 1)).take 1) = some y) → ∃ ls : List Tx, ls.length = n ∧ xs = ls.map S := by
  intro n
  induction n with
  | zero => intro xs hx _; exact ⟨[], rfl, by simpa using hx⟩
  | succ n ih =>
    intro xs hx hy
    cases xs with
    | nil => simp at hx
    | cons x xs =>
      obtain ⟨m, y, h0⟩ := hy 0 (by omega)
      obtain ⟨s, e1, _⟩ := DataW.trod_string he h0
      have ex : x = .string s := by simpa using e1
      obtain ⟨ls, l1, l2⟩ := ih (xs := xs) (by simpa using hx) fun i hi => by
        obtain ⟨m, y, h1⟩ := hy (i + 1) (by omega)
        refine ⟨m, y, ?_⟩
        simpa using h1
      refine ⟨Go.Sim.bytes s :: ls, by simp [l1], ?_⟩
      rw [List.map_cons, S_bytes, ← ex, ← l2]

theorem emb_strs {t : TypeId} (ht : Tryd.prog.underlying t = some (.slice 9)) (h9 : Tryd.prog.underlying 9 = some .string) {b : Nat} {v : Value} {d : DataW H} {ps : List MemPlace} (hok : Value.okWide Tryd.prog W .any b t v) (hd : DataW.Trod enc Tryd.prog W 0 (fun _ => true) true t v d ps) (HR : HRel Tryd.prog ρ h W) (hro : roH h) :
    ∃ (ρ' : RMap) (g : Heap) (v' : Value) (ls : List Tx), ρ.le ρ' ∧ HRel Tryd.prog ρ' (h ++ g) W ∧ roH (h ++ g) ∧ VRel ρ' v' v ∧ SS (h ++ g) v' ls := by
  simp only [Value.okWide, ht] at hok
  obtain ⟨fuel, hf⟩ := hd
  rw [slice_one ht hok] at hf
  obtain ⟨ρ', g, v', n, xs, e1, e2, e3, e4, e5, e6, e7, e8, e9⟩ := emb_slice (P := Tryd.prog) (W := W) (enc := enc) (ρ := ρ) (h := h) ht (by rw [cells9]; omega) (trod_str_flat h9 cells9) hf hok HR hro
  rw [cells9] at e7 e9
  obtain ⟨ls, q1, rfl⟩ := strs_of h9 e7 e9
  subst q1
  refine ⟨ρ', g, v', ls, e1, e2, e3, e4, ?_⟩
  rcases e6 with ⟨rfl, h0⟩ | ⟨i, rfl, h0⟩
  · have : ls = [] := List.length_eq_zero_iff.1 h0
    subst this
    exact ⟨rfl, fun k hk => by simp at hk⟩
  · rcases h0 with h0 | h0
    · have : ls = [] := List.length_eq_zero_iff.1 h0
      subst this
      exact ⟨rfl, fun k hk => by simp at hk⟩
    · exact SS.sl h0

end

end Go.Proofs.YthplaillblmgfaaDoor

