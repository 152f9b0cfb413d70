/-
  Part 5 of the texts behind a statement of this seat: HMk20, HMk21, HDD, HDE, Sp6, Sp13, HMk10, Mp3, HMk11, HDF, HMk12, HDM, HMk23, HMk14, HMk25, HMk26, Kr2, HZU, HZN1, HZN2, HCt28, HCt29, HCt30.
-/
import Derived.Test.YthplaillblmgfaaGreatDoorProg
import Derived.KernelRfl
import Derived.Test.YthplaillblmgfaaGreatDoorKr4
namespace Go.Proofs.YthplaillblmgfaaGreatDoor
open Go.Sim

theorem SS.monoC {h h' : Heap} {v : Value} {ls : List Tx} (k : CX h h') (p : SS h v ls) : SS h' v ls :=
  ⟨p.len, fun j hj => let ⟨i, o, a, b⟩ := p.get j hj; ⟨i, o, a, CX.load k b⟩⟩

structure St (h : Heap) (im ic : Nat) (l : List (Tx × Tx)) (g : Heap) : Prop where
  ex : EX h g
  hm : g[im]? = some (.gmap .str l.length (tmap l))
  hc : g[ic]? = some (.arr 74 [.map (some im)])

theorem St.push {h : Heap} {im ic : Nat} {l : List (Tx × Tx)} {g g' : Heap} (s : St h im ic l g) (x : EX g g') : St h im ic l g' := ⟨s.ex.trans x, x.get s.hm, x.get s.hc⟩

def rchV (ic : Nat) : Value := .func (.func 41) #[] #[pt ic 0]

theorem reachS {W : List Tx} (ok : Ok W) {h : Heap} {im ic : Nat} (i1 : h.length ≤ im) (i2 : ic ≠ im) {l : List (Tx × Tx)} {g : Heap} {k t : Tx} {K : Value → Heap → Prop} (st : St h im ic l g) (gd : Good W l) (r : Rc W k t) (hl : t.length ≤ 10 * l.length + 10)
    (hk : ∀ b l' g', St h im ic l' g' → CX g g' → Good W l' → Dn l l' → (∃ t', look k l' = some t' ∧ rk t' ≤ rk t) → (b = true → mu W l' < mu W l) → (b = false → l' = l) → K (B b) g') : CallVP Tryz.prog (rchV ic) [S k, S t] g K := by
  have hf := gd.few ok
  refine callVP_fn (by kernel_rfl) ?_
  show CallP Tryz.prog 41 [S k, S t, pt ic 0] g K
  refine C41 st.hc st.hm ⟨(r.key ok).2, by omega⟩ (fun o ho => ⟨((gd.rc k o ho).key ok).2, by have := gd.ln k o ho; omega⟩) (fun hb => ?_) fun hb => ?_
  · refine hk false l g st (CX.refl g) gd (Dn.refl l) ?_ (fun h => by cases h) fun _ => rfl
    cases ho : look k l with
    | none => simp [bet, ho] at hb
    | some o =>
      simp only [bet, ho, decide_eq_false_iff_not] at hb
      exact ⟨o, rfl, by omega⟩
  · refine hk true (put k t l) _ ⟨st.ex.set i1 _, set_get st.hm, ?_⟩ (CX.setG st.hm) (good_put gd r hl hb) (Dn.put hb) ⟨t, by rw [look_put, if_pos rfl], Nat.le_refl _⟩ (fun _ => mu_put ok gd r hl hb) fun h => by cases h
    rw [List.getElem?_set_ne (Ne.symm i2)]
    exact st.hc

theorem C45 {i : Nat} {a b : Tx} {h : Heap} {K : Value → Heap → Prop} (hl : a.length + b.length ≤ 1000000) (hg : h[i]? = some (.arr 9 [S a, S b])) (hk : K (S (a ++ b)) h) : CallP Tryz.prog 45 [sl 9 i 0 2] h K := by
  refine f45 ?_
  have e : Lib.join [a, b] [] = a ++ b := by simp [Lib.join]
  refine C81 (ls := [a, b]) (sep := []) (by simp) (by simp) (by rw [e]; simp; omega) hg ?_
  rw [e]
  exact hk

theorem keysC {im : Nat} {l : List (Tx × Tx)} {h : Heap} {K : Value → Heap → Prop} (hm : h[im]? = some (.gmap .str l.length (tmap l))) (hl : l.length ≤ 1000000) (hk : ∀ v g, EX h g → SS g v (sortS (l.map Prod.fst)) → K v g) : CallP Tryz.prog 44 [.map (some im)] h K := by
  by_cases h0 : l = []
  · subst h0
    refine C44n hm (hk _ _ (EX.refl h) ?_)
    have : sortS (([] : List (Tx × Tx)).map Prod.fst) = [] := List.perm_nil.1 (sortS_perm [])
    rw [this]
    exact ⟨rfl, fun k hk => by simp at hk⟩
  · refine C44 hm (Nat.le_refl _) h0 hl (hk _ _ (EX.append _ _) ?_)
    have : l.length = (sortS (l.map Prod.fst)).length := by rw [(sortS_perm _).length_eq, List.length_map]
    rw [this]
    exact SS.sl (by simp [objCells])

theorem iniC {W : List Tx} (ok : Ok W) {h : Heap} {v : Value} {im ic : Nat} (hv : SS h v W) (i1 : h.length ≤ im) (i2 : ic ≠ im) {g : Heap} {K : Value → Heap → Prop} (st : St h im ic [] g)
    (hk : ∀ l g', St h im ic l g' → Good W l → Ini W l → p9z32 Tryz.prog K v (pt ic 0) (rchV ic) g') : LoopP [I 0] g fun L1 xs hx => p9z11 Tryz.prog K v (pt ic 0) (rchV ic) v (I W.length) L1 xs hx := by
  have few := ok.few
  refine loopL (σ := Nat × List (Tx × Tx) × Heap) (fun q => [I q.1]) (fun q => q.2.2) (fun q => q.1 ≤ W.length ∧ St h im ic q.2.1 q.2.2 ∧ Good W q.2.1 ∧ ∀ i (hi : i < W.length), i < q.1 → ∀ w ∈ W, W[i] ≠ w → W[i] <+: w → ∃ t', look (w.drop W[i].length) q.2.1 = some t' ∧ rk t' ≤ rk w) (fun q => W.length - q.1) (0, [], g) rfl rfl ⟨Nat.zero_le _, st, Good.nil W, fun i _ hi => absurd hi (Nat.not_lt_zero _)⟩ ?_
  rintro ⟨i, l, g1⟩ ⟨hi, s1, gd, done⟩ L hL
  simp only at hi s1 gd done hL ⊢
  rw [q9z11]
  simp only [bin_lss, OP_some, IfP_dec]
  refine ⟨fun hlt => ?_, fun hge => ?_⟩
  · have hlt : i < W.length := by omega
    obtain ⟨b, o, a1, a2⟩ := (hv.mono s1.ex).get i hlt
    simp only [a1, a2, OP_some, hv.len]
    refine loopL (σ := Nat × List (Tx × Tx) × Heap) (fun q => [I q.1]) (fun q => q.2.2) (fun q => q.1 ≤ W.length ∧ St h im ic q.2.1 q.2.2 ∧ Good W q.2.1 ∧ Dn l q.2.1 ∧ ∀ j (hj : j < W.length), j < q.1 → W[i] ≠ W[j] → W[i] <+: W[j] → ∃ t', look (W[j].drop W[i].length) q.2.1 = some t' ∧ rk t' ≤ rk W[j]) (fun q => W.length - q.1) (0, l, g1) rfl rfl ⟨Nat.zero_le _, s1, gd, Dn.refl l, fun j _ hj => absurd hj (Nat.not_lt_zero _)⟩ ?_
    rintro ⟨j, l2, g2⟩ ⟨hj, s2, gd2, dn, done2⟩ L2 hL2
    simp only at hj s2 gd2 dn done2 hL2 ⊢
    rw [q9z19]
    simp only [bin_lss, OP_some, IfP_dec]
    refine ⟨fun hlt2 => ?_, fun hge2 => ?_⟩
    · have hlt2 : j < W.length := by omega
      obtain ⟨b2, o2, c1, c2⟩ := (hv.mono s2.ex).get j hlt2
      have step : ∀ l3 g3, St h im ic l3 g3 → Good W l3 → Dn l2 l3 → (W[i] ≠ W[j] → W[i] <+: W[j] → ∃ t', look (W[j].drop W[i].length) l3 = some t' ∧ rk t' ≤ rk W[j]) → p9z30 Tryz.prog K v (pt ic 0) (rchV ic) (I i) (S W[i]) v (I W.length) (I i) v (I W.length) (I j) L L2 g3 := by
        intro l3 g3 s3 gd3 dn3 new
        rw [q9z30]
        simp only [bin_add, OP_some, true_and]
        rw [incM j (by simp [maxLen]; omega)]
        refine hL2 (j + 1, l3, g3) ⟨hlt2, s3, gd3, dn.trans dn3, fun j' hj' hlt' h1 h2 => ?_⟩ (by show W.length - (j + 1) < W.length - j; omega)
        have hlt' : j' < j + 1 := hlt'
        rcases Nat.lt_succ_iff_lt_or_eq.1 hlt' with h' | h'
        · obtain ⟨t', e1, e2⟩ := done2 j' hj' h' h1 h2
          obtain ⟨t2, f1, f2⟩ := dn3 _ _ e1
          exact ⟨t2, f1, Nat.le_trans f2 e2⟩
        · subst h'; exact new h1 h2
      simp only [c1, c2, OP_some, bin_neq]
      rw [q9z27]
      by_cases hij : i = j
      · rw [decide_eq_true (show (i : Int) = j by omega)]
        simp only [Bool.not_true, GdP_ft, q9z29, iPick_f, OP_some, IfP_false]
        exact step l2 g2 s2 gd2 (Dn.refl _) fun h => absurd (by subst hij; rfl) h
      · rw [decide_eq_false (show ¬ (i : Int) = j by omega)]
        simp only [Bool.not_false, GdP_tt]
        refine C43 ?_
        rw [q9z29]
        simp only [iPick_t, OP_some, IfP_dec, lenS_S]
        refine ⟨fun hp => ?_, fun hp => step l2 g2 s2 gd2 (Dn.refl _) fun _ h => absurd h hp⟩
        rw [slS_lo (a := W[j]) hp.length_le .i64]
        simp only [OP_some]
        have hne : W[i] ≠ W[j] := fun e => by
          rcases Nat.lt_or_gt_of_ne hij with h' | h'
          · exact (List.pairwise_iff_getElem.1 ok.nd) i j hlt hlt2 h' e
          · exact (List.pairwise_iff_getElem.1 ok.nd) j i hlt2 hlt h' e.symm
        have r := Rc.init (List.getElem_mem hlt) (List.getElem_mem hlt2) hne hp
        refine reachS ok i1 i2 s2 gd2 r (by have := ok.le _ (List.getElem_mem hlt2); omega) ?_
        intro _ l3 g3 s3 _ gd3 dn3 new _ _
        exact step l3 g3 s3 gd3 dn3 fun _ _ => new
    · rw [q9z31]
      simp only [bin_add, OP_some, true_and]
      rw [incM i (by simp [maxLen]; omega)]
      refine hL (i + 1, l2, g2) ⟨hlt, s2, gd2, fun i' hi' hlt' w hw h1 h2 => ?_⟩ (by show W.length - (i + 1) < W.length - i; omega)
      have hlt' : i' < i + 1 := hlt'
      rcases Nat.lt_succ_iff_lt_or_eq.1 hlt' with h' | h'
      · obtain ⟨t', e1, e2⟩ := done i' hi' h' w hw h1 h2
        obtain ⟨t2, f1, f2⟩ := dn _ _ e1
        exact ⟨t2, f1, Nat.le_trans f2 e2⟩
      · subst h'
        obtain ⟨j', hj', rfl⟩ := List.getElem_of_mem hw
        exact done2 j' hj' (by omega) h1 h2
  · refine hk l g1 s1 gd fun w1 hw1 w hw h1 h2 => ?_
    obtain ⟨j', hj', rfl⟩ := List.getElem_of_mem hw1
    exact done j' hj' (by omega) w hw h1 h2

end Go.Proofs.YthplaillblmgfaaGreatDoor


namespace Go.Proofs.YthplaillblmgfaaGreatDoor
open Go.Sim

theorem mk2 (g : Heap) (a b : Tx) : iMkSl 9 2 [(.string ⟨#[]⟩)] g [(0, 1, S a), (1, 1, S b)] = some (sl 9 g.length 0 2, g ++ [.arr 9 [S a, S b]]) := by
  have va : vcells (S a) = [S a] := rfl
  have vb : vcells (S b) = [S b] := rfl
  have na : noTuple (S a) = true := rfl
  have nb : noTuple (S b) = true := rfl
  simp [iMkSl, fillL, zrep, setAt, va, vb, na, nb]

section
variable {W : List Tx} (ok : Ok W) {h : Heap} {v kv : Value} {im ic : Nat} {K : Value → Heap → Prop}
include ok

theorem keyC (i1 : h.length ≤ im) (i2 : ic ≠ im) {l0 l1 : List (Tx × Tx)} {a : Tx} {more : Bool} {kn : Nat} {idx : Value} {L1 L2 : List Value → Heap → Prop} {g : Heap} (hv : SS h v W) (ha : ∃ t, look a l1 = some t) (st : St h im ic l1 g) (gd : Good W l1) (h1 : more = true → mu W l1 < mu W l0) (h2 : more = false → l1 = l0)
    (hk : ∀ more' l' g', St h im ic l' g' → CX g g' → Good W l' → Dn l1 l' → (more' = true → mu W l' < mu W l0) → (more' = false → more = false ∧ l' = l0 ∧ ∀ w ∈ W, Clo l0 a w) → p9z67 Tryz.prog K v (pt ic 0) (rchV ic) (B more') kv (I kn) idx L1 L2 g') :
    LoopP [B more, I 0] g fun L3 xs hx => p9z51 Tryz.prog K v (pt ic 0) (rchV ic) (S a) kv (I kn) idx v (I W.length) L1 L2 L3 xs hx := by
  have few := ok.few
  have e1 : ∀ s : List UInt8, iBin .eql (S s) (.string ⟨#[]⟩) = some (B (decide (s = []))) := fun s => by show iBin .eql (S s) (S []) = _; rw [bin_eqlS]
  refine loopL (σ := Bool × Nat × List (Tx × Tx) × Heap) (fun q => [B q.1, I q.2.1]) (fun q => q.2.2.2) (fun q => q.2.1 ≤ W.length ∧ St h im ic q.2.2.1 q.2.2.2 ∧ CX g q.2.2.2 ∧ Good W q.2.2.1 ∧ Dn l1 q.2.2.1 ∧ (q.1 = true → mu W q.2.2.1 < mu W l0) ∧ (q.1 = false → more = false ∧ q.2.2.1 = l0 ∧ ∀ j (hj : j < W.length), j < q.2.1 → Clo l0 a W[j])) (fun q => W.length - q.2.1) (more, 0, l1, g) rfl rfl ⟨Nat.zero_le _, st, CX.refl g, gd, Dn.refl l1, h1, fun hm => ⟨hm, h2 hm, fun j _ hj => absurd hj (Nat.not_lt_zero _)⟩⟩ ?_
  rintro ⟨m, j, l, g1⟩ ⟨hj, s1, cx, gd1, dn, h3, h4⟩ L hL
  simp only at hj s1 cx gd1 dn h3 h4 hL ⊢
  rw [q9z51]
  simp only [bin_lss, OP_some, IfP_dec]
  refine ⟨fun hlt => ?_, fun hge => ?_⟩
  · have hlt : j < W.length := by omega
    obtain ⟨b, o, a1, a2⟩ := (hv.mono s1.ex).get j hlt
    have mem := List.getElem_mem hlt
    have wl := ok.le _ mem
    -- the step ends: a new map, what it has of this word
    have step : ∀ m' l2 g2, St h im ic l2 g2 → CX g1 g2 → Good W l2 → Dn l l2 → (m' = true → mu W l2 < mu W l0) → (m' = false → m = false ∧ l2 = l ∧ Clo l2 a W[j]) → p9z66 Tryz.prog K v (pt ic 0) (rchV ic) (B m') (S a) kv (I kn) idx v (I W.length) (I j) L1 L2 L g2 := by
      intro m' l2 g2 s2 cx2 gd2 dn2 q1 q2
      rw [q9z66]
      simp only [bin_add, OP_some, true_and]
      rw [incM j (by simp [maxLen]; omega)]
      refine hL (m', j + 1, l2, g2) ⟨hlt, s2, cx.trans cx2, gd2, dn.trans dn2, q1, fun hm => ?_⟩ (by show W.length - (j + 1) < W.length - j; omega)
      obtain ⟨r1, r2, r3⟩ := q2 hm
      obtain ⟨r4, r5, r6⟩ := h4 r1
      have el : l2 = l0 := r2.trans r5
      refine ⟨r4, el, fun j' hj' hlt' => ?_⟩
      have hlt' : j' < j + 1 := hlt'
      rcases Nat.lt_succ_iff_lt_or_eq.1 hlt' with h' | h'
      · exact r6 j' hj' h'
      · subst h'; exact el ▸ r3
    have same : (Clo l a W[j]) → p9z66 Tryz.prog K v (pt ic 0) (rchV ic) (B m) (S a) kv (I kn) idx v (I W.length) (I j) L1 L2 L g1 := fun hc => step m l g1 s1 (CX.refl g1) gd1 (Dn.refl l) h3 fun hm => ⟨hm, rfl, hc⟩
    simp only [a1, a2, OP_some, e1, IfP_dec]
    refine ⟨fun h0 => same fun hn => absurd h0 hn, fun h0 => ?_⟩
    obtain ⟨t0, ht0⟩ := ha
    obtain ⟨t, ht, _⟩ := dn _ _ ht0
    have rc := gd1.rc a t ht
    have tl := gd1.ln a t ht
    have fw := gd1.few ok
    have ld : ∀ g', St h im ic l g' → iLoad false 1 g' (pt ic 0) = some (.map (some im)) := fun g' s => by simp [iLoad, objCells, s.hc, iPart]
    have lk : ∀ g', St h im ic l g' → iLookupG .str false (.string ⟨#[]⟩) g' (.map (some im)) (S a) = some (S t) := fun g' s => by
      simp only [iLookupG, s.hm, findG_tmap, ht]
      rfl
    refine C43 ?_
    simp only [IfP_dec]
    refine ⟨fun hp => ?_, fun hp => C43 ?_⟩
    · simp only [lenS_S, OP_some, slS_lo (a := W[j]) hp.length_le .i64, ld g1 s1, lk g1 s1, mk2, OH_some]
      have dl : (W[j].drop a.length).length ≤ 10 := by rw [List.length_drop]; omega
      refine C45 (by omega) get_last ?_
      refine reachS ok i1 i2 (s1.push (EX.append _ _)) gd1 (Rc.fwd rc h0 mem hp) (by rw [List.length_append]; omega) ?_
      intro bb l2 g2 s2 cx2 gd2 dn2 new q1 q2
      have cx3 : CX g1 g2 := (CX.ex (EX.append _ _)).trans cx2
      rw [q9z62]
      cases bb with
      | true =>
        simp only [GdP_tf, q9z64, iPick_t, OP_some]
        refine step true l2 g2 s2 cx3 gd2 dn2 (fun _ => ?_) fun h => by cases h
        have := q1 rfl
        cases m with
        | true => have := h3 rfl; omega
        | false => rw [(h4 rfl).2.1] at this; exact this
      | false =>
        simp only [GdP_ff, q9z64, iPick_f, OP_some]
        have el := q2 rfl
        subst el
        refine step m l2 g2 s2 cx3 gd2 dn2 h3 fun hm => ⟨hm, rfl, fun _ t' ht' => ⟨fun _ => ?_, fun hn => absurd hp hn⟩⟩
        rw [ht] at ht'
        cases ht'
        exact new
    · simp only [IfP_dec]
      refine ⟨fun hq => ?_, fun hq => same fun _ t' _ => ⟨fun h => absurd h hp, fun _ h => absurd h hq⟩⟩
      simp only [lenS_S, OP_some, slS_lo (a := a) hq.length_le .i64, ld g1 s1, lk g1 s1, true_and]
      refine reachS ok i1 i2 s1 gd1 (Rc.bwd rc h0 mem hq) (by omega) ?_
      intro bb l2 g2 s2 cx3 gd2 dn2 new q1 q2
      cases bb with
      | true =>
        simp only [GdP_tf, iPick_t, OP_some]
        refine step true l2 g2 s2 cx3 gd2 dn2 (fun _ => ?_) fun h => by cases h
        have := q1 rfl
        cases m with
        | true => have := h3 rfl; omega
        | false => rw [(h4 rfl).2.1] at this; exact this
      | false =>
        simp only [GdP_ff, iPick_f, OP_some]
        have el := q2 rfl
        subst el
        refine step m l2 g2 s2 cx3 gd2 dn2 h3 fun hm => ⟨hm, rfl, fun _ t' ht' => ⟨fun h => absurd h hp, fun _ _ => ?_⟩⟩
        rw [ht] at ht'
        cases ht'
        exact new
  · refine hk m l g1 s1 cx gd1 dn h3 fun hm => ?_
    obtain ⟨r1, r2, r3⟩ := h4 hm
    refine ⟨r1, r2, fun w hw => ?_⟩
    obtain ⟨j', hj', rfl⟩ := List.getElem_of_mem hw
    exact r3 j' hj' (by omega)

theorem passC (i1 : h.length ≤ im) (i2 : ic ≠ im) {l0 : List (Tx × Tx)} {ks : List Tx} {L1 : List Value → Heap → Prop} {g : Heap} (hv : SS h v W) (hkv : SS g kv ks) (hks : ∀ a ∈ ks, ∃ t, look a l0 = some t) (hln : ks.length ≤ 1000000) (st : St h im ic l0 g) (gd : Good W l0)
    (hk : ∀ more' l' g', St h im ic l' g' → Good W l' → Dn l0 l' → (more' = true → mu W l' < mu W l0) → (more' = false → l' = l0 ∧ ∀ a ∈ ks, ∀ w ∈ W, Clo l0 a w) → L1 [B more'] g') :
    LoopP [B false, I 0] g fun L2 xs hx => p9z43 Tryz.prog K v (pt ic 0) (rchV ic) kv (I ks.length) L1 L2 xs hx := by
  refine loopL (σ := Bool × Nat × List (Tx × Tx) × Heap) (fun q => [B q.1, I q.2.1]) (fun q => q.2.2.2) (fun q => q.2.1 ≤ ks.length ∧ St h im ic q.2.2.1 q.2.2.2 ∧ CX g q.2.2.2 ∧ Good W q.2.2.1 ∧ Dn l0 q.2.2.1 ∧ (q.1 = true → mu W q.2.2.1 < mu W l0) ∧ (q.1 = false → q.2.2.1 = l0 ∧ ∀ j (hj : j < ks.length), j < q.2.1 → ∀ w ∈ W, Clo l0 ks[j] w)) (fun q => ks.length - q.2.1) (false, 0, l0, g) rfl rfl ⟨Nat.zero_le _, st, CX.refl g, gd, Dn.refl l0, fun h => (by cases h), fun _ => ⟨rfl, fun j _ hj => absurd hj (Nat.not_lt_zero _)⟩⟩ ?_
  rintro ⟨m, j, l, g1⟩ ⟨hj, s1, cx, gd1, dn, h3, h4⟩ L hL
  simp only at hj s1 cx gd1 dn h3 h4 hL ⊢
  rw [q9z43]
  simp only [bin_lss, OP_some, IfP_dec]
  refine ⟨fun hlt => ?_, fun hge => ⟨trivial, ?_⟩⟩
  · have hlt : j < ks.length := by omega
    obtain ⟨b, o, a1, a2⟩ := (SS.monoC cx hkv).get j hlt
    simp only [a1, a2, OP_some, hv.len]
    obtain ⟨t0, ht0⟩ := hks _ (List.getElem_mem hlt)
    obtain ⟨t1, ht1, _⟩ := dn _ _ ht0
    refine keyC ok i1 i2 hv ⟨t1, ht1⟩ s1 gd1 h3 (fun hm => (h4 hm).1) ?_
    intro m' l2 g2 s2 cx2 gd2 dn2 q1 q2
    rw [q9z67]
    simp only [bin_add, OP_some, true_and]
    rw [incM j (by simp [maxLen]; omega)]
    refine hL (m', j + 1, l2, g2) ⟨hlt, s2, cx.trans cx2, gd2, dn.trans dn2, q1, fun hm => ?_⟩ (by show ks.length - (j + 1) < ks.length - j; omega)
    obtain ⟨r1, r2, r3⟩ := q2 hm
    refine ⟨r2, fun j' hj' hlt' => ?_⟩
    have hlt' : j' < j + 1 := hlt'
    rcases Nat.lt_succ_iff_lt_or_eq.1 hlt' with h' | h'
    · exact (h4 r1).2 j' hj' h'
    · subst h'; exact r3
  · refine hk m l g1 s1 gd1 dn h3 fun hm => ⟨(h4 hm).1, fun a ha => ?_⟩
    obtain ⟨j', hj', rfl⟩ := List.getElem_of_mem ha
    exact (h4 hm).2 j' hj' (by omega)

theorem loopC (i1 : h.length ≤ im) (i2 : ic ≠ im) {l : List (Tx × Tx)} {g : Heap} (hv : SS h v W) (st : St h im ic l g) (gd : Good W l) (hi : Ini W l)
    (hno : (∀ t, ¬ Rc W [] t) → ∀ h', EX h h' → K (.tuple #[S [], I 5]) h')
    (hyes : ∀ t, Rc W [] t → (∀ t', Rc W [] t' → rk t ≤ rk t') → ∀ h', EX h h' → K (.tuple #[S t, I 0]) h') : p9z32 Tryz.prog K v (pt ic 0) (rchV ic) g := by
  rw [q9z32]
  have ld : ∀ l g', St h im ic l g' → iLoad false 1 g' (pt ic 0) = some (.map (some im)) := fun l g' s => by simp [iLoad, objCells, s.hc, iPart]
  refine loopL (σ := Bool × List (Tx × Tx) × Heap) (fun q => [B q.1]) (fun q => q.2.2) (fun q => St h im ic q.2.1 q.2.2 ∧ Good W q.2.1 ∧ Ini W q.2.1 ∧ (q.1 = false → ∀ a t, look a q.2.1 = some t → ∀ w ∈ W, Clo q.2.1 a w)) (fun q => 2 * mu W q.2.1 + (if q.1 then 1 else 0)) (true, l, g) rfl rfl ⟨st, gd, hi, fun h => by cases h⟩ ?_
  rintro ⟨m, l1, g1⟩ ⟨s1, gd1, in1, cl⟩ L hL
  simp only at s1 gd1 in1 cl hL ⊢
  have few := gd1.few ok
  rw [q9z36]
  cases m with
  | true =>
    simp only [IfP_true, ld _ _ s1, OP_some]
    refine keysC s1.hm (by omega) ?_
    intro kv g2 x2 hkv
    simp only [hkv.len, OP_some]
    have mem : ∀ a, a ∈ sortS (l1.map Prod.fst) ↔ a ∈ l1.map Prod.fst := fun a => (sortS_perm _).mem_iff
    refine passC ok i1 i2 hv hkv (fun a ha => mem_look ((mem a).1 ha)) (by rw [(sortS_perm _).length_eq, List.length_map]; omega) (s1.push x2) gd1 ?_
    intro m' l2 g3 s3 gd3 dn q1 q2
    refine hL (m', l2, g3) ⟨s3, gd3, in1.dn dn, fun hm a t ht w hw => ?_⟩ ?_
    · obtain ⟨r1, r2⟩ := q2 hm
      simp only at r1 ht ⊢
      rw [r1] at ht ⊢
      exact r2 a ((mem a).2 (List.mem_map.2 ⟨_, look_mem ht, rfl⟩)) w hw
    · show 2 * mu W l2 + (if m' = true then 1 else 0) < 2 * mu W l1 + 1
      cases m' with
      | true => have := q1 rfl; simp only [if_true]; omega
      | false => rw [(q2 rfl).1]; simp
  | false =>
    simp only [IfP_false]
    rw [q9z68]
    have e2 : iLookupG .str true (.string ⟨#[]⟩) g1 (.map (some im)) (S []) = some (.tuple #[((look [] l1).map S).getD (S []), B (look [] l1).isSome]) := by
      simp only [iLookupG, s1.hm, findG_tmap]
      cases look [] l1 <;> rfl
    have e2' : iLookupG .str true (.string ⟨#[]⟩) g1 (.map (some im)) (.string ⟨#[]⟩) = some (.tuple #[((look [] l1).map S).getD (S []), B (look [] l1).isSome]) := e2
    simp only [ld _ _ s1, OP_some, e2', ext_tuple, pair0, pair1, un_not]
    have key : ∀ {t : Tx}, Rc W [] t → ∃ t', look [] l1 = some t' ∧ rk t' ≤ rk t := fun r => least in1 (cl rfl) r
    cases hl : look [] l1 with
    | none =>
      simp only [Option.isSome_none, Bool.not_false, IfP_true]
      refine hno (fun t r => ?_) _ s1.ex
      obtain ⟨t', e, _⟩ := key r
      rw [hl] at e
      cases e
    | some t =>
      simp only [Option.isSome_some, Bool.not_true, IfP_false, Option.map_some, Option.getD_some]
      refine hyes t (gd1.rc _ _ hl) (fun t' r => ?_) _ s1.ex
      obtain ⟨u, e, hle⟩ := key r
      rw [hl] at e
      cases e
      exact hle

end

theorem codeOk_Ok {ls : List Tx} (h : chkE ls [] = 0) : ls ≠ [] ∧ Ok ls := by
  unfold chkE at h
  split at h
  · cases h
  · rename_i h1
    split at h
    · cases h
    · rename_i h2
      split at h
      · rename_i h3
        exact ⟨fun e => h2 (.inl e), ⟨h3.1, fun w hw => (h3.2 w hw).1, fun w hw => (h3.2 w hw).2.1, fun w hw => (h3.2 w hw).2.2, by omega⟩⟩
      · cases h

theorem C9 {b : Nat} {v : Value} {ls : List Tx} {h : Heap} {K : Value → Heap → Prop} (hv : OwnS b h 9 v (ls.map S)) (hl : ls.length < 1000000) (hw : ∀ w ∈ ls, w.length < 4611686018427387904)
    (he : chkE ls [] ≠ 0 → ∀ h', EX h h' → K (.tuple #[S [], I (chkE ls [])]) h')
    (hno : chkE ls [] = 0 → (∀ t, ¬ Rc ls [] t) → ∀ h', EX h h' → K (.tuple #[S [], I 5]) h')
    (hyes : chkE ls [] = 0 → ∀ t, Rc ls [] t → (∀ t', Rc ls [] t' → rk t ≤ rk t') → ∀ h', EX h h' → K (.tuple #[S t, I 0]) h') : CallP Tryz.prog 9 [v] h K := by
  refine f9 ?_
  unfold T9
  have nilS : (.string ⟨#[]⟩ : Value) = S [] := rfl
  rw [nilS]
  refine C40 (s := []) hv hl hw (by simp) ?_
  intro h1 x1
  simp only [bin_neq, OP_some, IfP_ndec]
  refine ⟨fun hc => he hc h1 x1, fun hc => ?_⟩
  have ok := (codeOk_Ok hc).2
  have hs := (own_ss hv).mono x1
  have n1 : h1.length + 1 = (h1 ++ [IObj.gmap .str 0 []]).length := by simp
  have e1 : iAlloc 74 [(.map none)] (h1 ++ [IObj.gmap .str 0 []]) = some (pt (h1.length + 1) 0, h1 ++ [IObj.gmap .str 0 []] ++ [.arr 74 [.map none]]) := by
    rw [n1]; rfl
  have e2 : oStore 1 (h1 ++ [IObj.gmap .str 0 []] ++ [.arr 74 [.map none]]) (pt (h1.length + 1) 0) (.map (some h1.length)) = some (undef, h1 ++ [IObj.gmap .str 0 []] ++ [.arr 74 [.map (some h1.length)]]) := by
    have hg : (h1 ++ [IObj.gmap .str 0 []] ++ [IObj.arr 74 [.map none]])[h1.length + 1]? = some (.arr 74 [.map none]) := by rw [n1]; exact get_last
    rw [store_at hg (by simp) rfl rfl, n1]
    simp
  simp only [iMkMapG, OH_some, e1, e2, hs.len, OP_some]
  have ex : EX h1 (h1 ++ [IObj.gmap .str 0 []] ++ [.arr 74 [.map (some h1.length)]]) := (EX.append _ _).trans (EX.append _ _)
  refine iniC ok hs (Nat.le_refl _) (by omega) ⟨ex, ?_, ?_⟩ ?_
  · have : (h1 ++ [IObj.gmap .str 0 []])[h1.length]? = some (.gmap .str 0 []) := get_last
    exact (EX.append _ _).get this
  · rw [n1]; exact get_last
  · intro l g s gd hi
    exact loopC ok (Nat.le_refl _) (by omega) hs s gd hi (fun q h' x => hno hc q h' (x1.trans x)) fun t r q h' x => hyes hc t r q h' (x1.trans x)

end Go.Proofs.YthplaillblmgfaaGreatDoor


namespace Go.Proofs.YthplaillblmgfaaGreatDoor
open Go.Sim
end Go.Proofs.YthplaillblmgfaaGreatDoor


namespace Go.Proofs.YthplaillblmgfaaGreatDoor
open Go.Sim
variable (P : Program) (K : VK)
/-! F29: pommel/mark.Plain -/
noncomputable def oc29 := compFn Tryz.prog 29 [[], [], [], [], [], [], [], [], [0, 5], [6, 7], [], [], [], [0, 5, 7, 22, 23], [6, 24], [], [], [], [], [], [], [], [], [], [], [0, 5, 6, 7, 22, 23, 24], [0, 5, 6, 7], [5], []]
@[irreducible] noncomputable def c29 : ICode := icOf oc29
@[irreducible] noncomputable def c29z11 : ICode := c29.r.r.r.r.l.r.l.l
@[irreducible] noncomputable def c29z8 : ICode := c29.r.r.r.r.r
@[irreducible] noncomputable def c29z18 : ICode := c29z11.r.l.l.r.l.l
@[irreducible] noncomputable def c29z14 : ICode := c29z11.r.r
@[irreducible] noncomputable def c29z33 : ICode := c29z8.l
@[irreducible] noncomputable def c29z31 : ICode := c29z18.r.r.r.l
@[irreducible] noncomputable def c29z32 : ICode := c29z14.l
theorem k29 : oc29 = some (52, c29, [.tmp 2, .tmp 3]) := by kernel_rfl
def K29z0 (_P : Program) (K : VK) : Kont := bodyP [.tmp 2, .tmp 3] K
def K29z8 : Kont := thenK (iwpP P c29z8 (K29z0 P K)) (K29z0 P K)
def K29z10 : Kont := inBlockK 0 (K29z8 P K)
def K29z11 (lengths0 out5 : Value) (L1 : LK) : Kont := thenK (fun f' h'' => (([0, 5] : List Nat).map f' : List Value) = [lengths0, out5] ∧ L1 (([6, 7] : List Nat).map f') h'') (K29z10 P K)
def K29z14 (lengths0 out5 : Value) (L1 : LK) : Kont := thenK (iwpP P c29z14 (K29z11 P K lengths0 out5 L1)) (K29z11 P K lengths0 out5 L1)
def K29z15 (lengths0 out5 : Value) (L1 : LK) : Kont := inBlockK 1 (K29z14 P K lengths0 out5 L1)
def K29z17 (lengths0 out5 : Value) (L1 : LK) : Kont := inBlockK 2 (K29z15 P K lengths0 out5 L1)
def K29z18 (lengths0 out5 length7 x22 x23 : Value) (L1 L2 : LK) : Kont := thenK (fun f' h'' => (([0, 5, 7, 22, 23] : List Nat).map f' : List Value) = [lengths0, out5, length7, x22, x23] ∧ L2 (([6, 24] : List Nat).map f') h'') (K29z17 P K lengths0 out5 L1)
def p29z11 (lengths0 out5 : Value) (L1 : LK) (xs : List Value) (h : Heap) : Prop := CutP (iwpP P c29z11 (K29z11 P K lengths0 out5 L1)) ([0, 5] ++ [6, 7]) ([lengths0, out5] ++ xs) h
def p29z18 (lengths0 out5 length7 x22 x23 : Value) (L1 L2 : LK) (xs : List Value) (h : Heap) : Prop := CutP (iwpP P c29z18 (K29z18 P K lengths0 out5 length7 x22 x23 L1 L2)) ([0, 5, 7, 22, 23] ++ [6, 24]) ([lengths0, out5, length7, x22, x23] ++ xs) h
def p29z31 (lengths0 out5 at6 length7 x22 x23 x24 : Value) (L1 L2 : LK) (h : Heap) : Prop := CutP (iwpP P c29z31 (K29z18 P K lengths0 out5 length7 x22 x23 L1 L2)) [0, 5, 6, 7, 22, 23, 24] [lengths0, out5, at6, length7, x22, x23, x24] h
def p29z32 (lengths0 out5 at6 length7 : Value) (L1 : LK) (h : Heap) : Prop := CutP (iwpP P c29z32 (K29z11 P K lengths0 out5 L1)) [0, 5, 6, 7] [lengths0, out5, at6, length7] h
def p29z33 (out5 : Value) (h : Heap) : Prop := CutP (iwpP P c29z33 (K29z0 P K)) [5] [out5] h
theorem q29z31 (lengths0 out5 at6 length7 x22 x23 x24 : Value) (L1 L2 : LK) (h : Heap) : p29z31 P K lengths0 out5 at6 length7 x22 x23 x24 L1 L2 h =
 (OP (iBin .add x24 (.int .i64 (1))) fun x50 =>
 ([lengths0, out5, length7, x22, x23] : List Value) = [lengths0, out5, length7, x22, x23] ∧ L2 [at6, x50] h) := (CutP_def _ _ _ _).trans (by kernel_rfl)
theorem q29z18 (lengths0 out5 length7 x22 x23 : Value) (L1 L2 : LK) (at6 x24 : Value) (h : Heap) : p29z18 P K lengths0 out5 length7 x22 x23 L1 L2 [at6, x24] h =
 (OP (iBin .lss x24 x23) fun x25 =>
 IfP x25
 (OP (iAdrSl 1 x22 x24) fun x27 =>
 OP (iLoad false 1 h x27) fun x28 =>
 OP (iBin .neq x28 length7) fun x31 =>
 IfP x31
 (p29z31 P K lengths0 out5 at6 length7 x22 x23 x24 L1 L2 h)
 (CallP P 69 [at6, x28] h fun x34 h_1 =>
 CallP P 66 [x28] h_1 fun x37 h_2 =>
 OP (iBin .add x34 x37) fun x38 =>
 OP (iBin .gtr x38 (.int .i64 (1024))) fun x39 =>
 IfP x39
 (K (.tuple #[(.slice none 0 0), (.int .i64 (5))]) h_2)
 (CallP P 70 [x34, x28] h_2 fun x44 h_3 =>
 OP (iAdrSl 1 out5 x24) fun x45 =>
 OH (oStore 1 h_3 x45 x44) fun _ h_4 =>
 CallP P 66 [x28] h_4 fun x48 h_5 =>
 OP (iBin .add x34 x48) fun x49 =>
 p29z31 P K lengths0 out5 x49 length7 x22 x23 x24 L1 L2 h_5)))
 (p29z32 P K lengths0 out5 at6 length7 L1 h)) := (CutP_def _ _ _ _).trans (by kernel_rfl)
theorem q29z32 (lengths0 out5 at6 length7 : Value) (L1 : LK) (h : Heap) : p29z32 P K lengths0 out5 at6 length7 L1 h =
 (OP (iBin .add length7 (.int .i64 (1))) fun x21 =>
 ([lengths0, out5] : List Value) = [lengths0, out5] ∧ L1 [at6, x21] h) := (CutP_def _ _ _ _).trans (by kernel_rfl)
theorem q29z11 (lengths0 out5 : Value) (L1 : LK) (at6 length7 : Value) (h : Heap) : p29z11 P K lengths0 out5 L1 [at6, length7] h =
 (OP (iBin .leq length7 (.int .i64 (10))) fun x19 =>
 IfP x19
 (OP (iLenSl lengths0) fun x23 =>
 LoopP [at6, (.int .i64 (0))] h fun L2 xs hx =>
 p29z18 P K lengths0 out5 length7 lengths0 x23 L1 L2 xs hx)
 (p29z33 P K out5 h)) := (CutP_def _ _ _ _).trans (by kernel_rfl)
theorem q29z33 (out5 : Value) (h : Heap) : p29z33 P K out5 h =
 (K (.tuple #[out5, (.int .i64 (0))]) h) := (CutP_def _ _ _ _).trans (by kernel_rfl)
def T29 (lengths0 : Value) (h : Heap) : Prop :=
 CallP P 65 [lengths0] h fun x11 h_1 =>
 OP (iBin .neq x11 (.int .i64 (0))) fun x13 =>
 IfP x13
 (K (.tuple #[(.slice none 0 0), x11]) h_1)
 (OP (iLenSl lengths0) fun x16 =>
 OH (iMake 9 16 [(.string ⟨#[]⟩)] h_1 x16 x16) fun x17 h_2 =>
 LoopP [(.int .i64 (0)), (.int .i64 (1))] h_2 fun L1 xs hx =>
 p29z11 P K lengths0 x17 L1 xs hx)
theorem e29 (lengths0 : Value) (h : Heap) : iwpP P c29 (bodyP [.tmp 2, .tmp 3] K) (frame0 [lengths0]) h = T29 P K lengths0 h := by kernel_rfl
theorem f29 {K : VK} {lengths0 : Value} {h : Heap} (H : T29 Tryz.prog K lengths0 h) : CallP Tryz.prog 29 [lengths0] h K :=
 callP_intro k29 (Nat.le_of_ble_eq_true rfl) ((e29 Tryz.prog K lengths0 h).mpr H)
/-! F65: pommel/mark.lengthy -/
noncomputable def oc65 := compFn Tryz.prog 65 [[], [], [], [0, 11], [0, 11, 14], [0, 16], [16, 19], [], [], [], []]
@[irreducible] noncomputable def c65 : ICode := icOf oc65
@[irreducible] noncomputable def c65z8 : ICode := c65.r.l.l.r.r.l.r.l
@[irreducible] noncomputable def c65z6 : ICode := c65.r.l.l.r.r.r
@[irreducible] noncomputable def c65z2 : ICode := c65.r.r
@[irreducible] noncomputable def c65z10 : ICode := c65z8.r.l
@[irreducible] noncomputable def c65z12 : ICode := c65z10.r.l
@[irreducible] noncomputable def c65z14 : ICode := c65z12.r.l
theorem k65 : oc65 = some (21, c65, [.tmp 2]) := by kernel_rfl
def K65z0 (_P : Program) (K : VK) : Kont := bodyP [.tmp 2] K
def K65z2 : Kont := thenK (iwpP P c65z2 (K65z0 P K)) (K65z0 P K)
def K65z3 : Kont := inBlockK 0 (K65z2 P K)
def K65z6 : Kont := thenK (iwpP P c65z6 (K65z3 P K)) (K65z3 P K)
def p65z8 (l0 x11 : Value) (h : Heap) : Prop := CutP (iwpP P c65z8 (K65z6 P K)) [0, 11] [l0, x11] h
def p65z10 (l0 x11 x14 : Value) (h : Heap) : Prop := CutP (iwpP P c65z10 (K65z6 P K)) [0, 11, 14] [l0, x11, x14] h
def p65z12 (l0 x16 : Value) (h : Heap) : Prop := CutP (iwpP P c65z12 (K65z6 P K)) [0, 16] [l0, x16] h
def p65z14 (x16 x19 : Value) (h : Heap) : Prop := CutP (iwpP P c65z14 (K65z6 P K)) [16, 19] [x16, x19] h
theorem q65z14 (x16 x19 : Value) (h : Heap) : p65z14 P K x16 x19 h =
 (OP (iPick x16 (.bool true) x19) fun x20 =>
 IfP x20
 (K (.int .i64 (1)) h)
 (K (.int .i64 (0)) h)) := (CutP_def _ _ _ _).trans (by kernel_rfl)
theorem q65z12 (l0 x16 : Value) (h : Heap) : p65z12 P K l0 x16 h =
 (GdP x16 false
 (CallP P 103 [l0] h fun x18 h_1 =>
 OP (iBin .gtr x18 (.int .i64 (10))) fun x19 =>
 p65z14 P K x16 x19 h_1)
 (p65z14 P K x16 undef h)) := (CutP_def _ _ _ _).trans (by kernel_rfl)
theorem q65z10 (l0 x11 x14 : Value) (h : Heap) : p65z10 P K l0 x11 x14 h =
 (OP (iPick x11 (.bool true) x14) fun x15 =>
 p65z12 P K l0 x15 h) := (CutP_def _ _ _ _).trans (by kernel_rfl)
theorem q65z8 (l0 x11 : Value) (h : Heap) : p65z8 P K l0 x11 h =
 (GdP x11 false
 (CallP P 102 [l0] h fun x13 h_1 =>
 OP (iBin .lss x13 (.int .i64 (1))) fun x14 =>
 p65z10 P K l0 x11 x14 h_1)
 (p65z10 P K l0 x11 undef h)) := (CutP_def _ _ _ _).trans (by kernel_rfl)
def T65 (l0 : Value) (h : Heap) : Prop :=
 OP (iLenSl l0) fun x5 =>
 OP (iBin .gtr x5 (.int .i64 (12))) fun x6 =>
 IfP x6
 (K (.int .i64 (3)) h)
 (OP (iLenSl l0) fun x9 =>
 OP (iBin .eql x9 (.int .i64 (0))) fun x10 =>
 p65z8 P K l0 x10 h)
theorem e65 (l0 : Value) (h : Heap) : iwpP P c65 (bodyP [.tmp 2] K) (frame0 [l0]) h = T65 P K l0 h := by kernel_rfl
theorem f65 {K : VK} {l0 : Value} {h : Heap} (H : T65 Tryz.prog K l0 h) : CallP Tryz.prog 65 [l0] h K :=
 callP_intro k65 (Nat.le_of_ble_eq_true rfl) ((e65 Tryz.prog K l0 h).mpr H)
/-! F70: pommel/mark.written -/
noncomputable def oc70 := compFn Tryz.prog 70 [[], [], [], [0, 5, 10], [11], [], [], [], [], [5], []]
@[irreducible] noncomputable def c70 : ICode := icOf oc70
@[irreducible] noncomputable def c70z6 : ICode := c70.r.r.l.r.l.l
@[irreducible] noncomputable def c70z3 : ICode := c70.r.r.r
@[irreducible] noncomputable def c70z12 : ICode := c70z3.l
theorem k70 : oc70 = some (27, c70, [.tmp 4]) := by kernel_rfl
def K70z0 (_P : Program) (K : VK) : Kont := bodyP [.tmp 4] K
def K70z3 : Kont := thenK (iwpP P c70z3 (K70z0 P K)) (K70z0 P K)
def K70z5 : Kont := inBlockK 0 (K70z3 P K)
def K70z6 (at0 out5 x10 : Value) (L1 : LK) : Kont := thenK (fun f' h'' => (([0, 5, 10] : List Nat).map f' : List Value) = [at0, out5, x10] ∧ L1 (([11] : List Nat).map f') h'') (K70z5 P K)
def p70z6 (at0 out5 x10 : Value) (L1 : LK) (xs : List Value) (h : Heap) : Prop := CutP (iwpP P c70z6 (K70z6 P K at0 out5 x10 L1)) ([0, 5, 10] ++ [11]) ([at0, out5, x10] ++ xs) h
def p70z12 (out5 : Value) (h : Heap) : Prop := CutP (iwpP P c70z12 (K70z0 P K)) [5] [out5] h
theorem q70z6 (at0 out5 x10 : Value) (L1 : LK) (x11 : Value) (h : Heap) : p70z6 P K at0 out5 x10 L1 [x11] h =
 (OP (iBin .lss x11 x10) fun x12 =>
 IfP x12
 (OP (iBin .sub (.int .i64 (9)) x11) fun x18 =>
 OP (iBin .shr at0 x18) fun x19 =>
 OP (iBin .and x19 (.int .i64 (1))) fun x20 =>
 OP (iConv .u8 x20) fun x21 =>
 OP (iBin .add (.int .u8 (48)) x21) fun x22 =>
 OP (iAdrSl 1 out5 x11) fun x23 =>
 OH (oStore 1 h x23 x22) fun _ h_1 =>
 OP (iBin .add x11 (.int .i64 (1))) fun x24 =>
 ([at0, out5, x10] : List Value) = [at0, out5, x10] ∧ L1 [x24] h_1)
 (p70z12 P K out5 h)) := (CutP_def _ _ _ _).trans (by kernel_rfl)
theorem q70z12 (out5 : Value) (h : Heap) : p70z12 P K out5 h =
 (OP (iB2s h out5) fun x26 =>
 K x26 h) := (CutP_def _ _ _ _).trans (by kernel_rfl)
def T70 (at0 length1 : Value) (h : Heap) : Prop :=
 OH (iMake 5 1 [(.int .u8 (0))] h length1 length1) fun x8 h_1 =>
 OP (iLenSl x8) fun x10 =>
 LoopP [(.int .i64 (0))] h_1 fun L1 xs hx =>
 p70z6 P K at0 x8 x10 L1 xs hx
theorem e70 (at0 length1 : Value) (h : Heap) : iwpP P c70 (bodyP [.tmp 4] K) (frame0 [at0, length1]) h = T70 P K at0 length1 h := by kernel_rfl
theorem f70 {K : VK} {at0 length1 : Value} {h : Heap} (H : T70 Tryz.prog K at0 length1 h) : CallP Tryz.prog 70 [at0, length1] h K :=
 callP_intro k70 (Nat.le_of_ble_eq_true rfl) ((e70 Tryz.prog K at0 length1 h).mpr H)
end Go.Proofs.YthplaillblmgfaaGreatDoor

namespace Go.Sim

def val (B : Nat) : List Nat → Nat
  | [] => 0
  | d :: ds => d + B * val B ds

def Lim (B : Nat) (xs : List Nat) : Prop := ∀ x ∈ xs, x < B
def Canon (B : Nat) (xs : List Nat) : Prop := Lim B xs ∧ xs.getLast? ≠ some 0

theorem val_append (B : Nat) : ∀ xs ys : List Nat, val B (xs ++ ys) = val B xs + B ^ xs.length * val B ys
  | [], ys => by simp [val]
  | x :: xs, ys => by
    simp only [List.cons_append, val, val_append B xs ys, List.length_cons, Nat.pow_succ]
    grind

theorem val_zeros (B : Nat) : ∀ n, val B (List.replicate n 0) = 0
  | 0 => rfl
  | n + 1 => by rw [List.replicate_succ]; simp [val, val_zeros B n]

theorem val_set (B : Nat) : ∀ (xs : List Nat) (i d : Nat) (hi : i < xs.length), val B (xs.set i d) + B ^ i * xs[i] = val B xs + B ^ i * d
  | [], i, d, hi => by simp at hi
  | x :: xs, 0, d, hi => by simp [val]; omega
  | x :: xs, i + 1, d, hi => by
    have ih := val_set B xs i d (by simpa using hi)
    simp only [List.set_cons_succ, val, List.getElem_cons_succ, Nat.pow_succ]
    grind

theorem val_take_succ (B : Nat) (xs : List Nat) {i : Nat} (hi : i < xs.length) : val B (xs.take (i + 1)) = val B (xs.take i) + B ^ i * xs[i] := by
  rw [List.take_succ_eq_append_getElem hi, val_append]
  simp [val, Nat.min_eq_left (Nat.le_of_lt hi)]

theorem Lim.mono {B : Nat} {xs ys : List Nat} (h : Lim B xs) (hs : ∀ y ∈ ys, y ∈ xs) : Lim B ys := fun y hy => h y (hs y hy)
theorem Lim.append {B : Nat} {xs ys : List Nat} (h : Lim B xs) (k : Lim B ys) : Lim B (xs ++ ys) := fun y hy => (List.mem_append.1 hy).elim (h y) (k y)
theorem Lim.set {B : Nat} {xs : List Nat} (h : Lim B xs) {d : Nat} (hd : d < B) (i : Nat) : Lim B (xs.set i d) := fun y hy => by
  rcases List.mem_or_eq_of_mem_set hy with h1 | h1
  · exact h y h1
  · rw [h1]; exact hd
theorem Lim.zeros {B : Nat} (hB : 0 < B) (n : Nat) : Lim B (List.replicate n 0) := fun y hy => by
  rw [(List.mem_replicate.1 hy).2]; exact hB

theorem val_lt {B : Nat} : ∀ {xs : List Nat}, Lim B xs → val B xs < B ^ xs.length
  | [], _ => by simp [val]
  | x :: xs, h => by
    have h1 := h x (by simp)
    have ih := val_lt (xs := xs) fun y hy => h y (by simp [hy])
    simp only [val, List.length_cons, Nat.pow_succ]
    have : B * (val B xs + 1) ≤ B * B ^ xs.length := Nat.mul_le_mul_left _ ih
    rw [Nat.mul_comm (B ^ xs.length)]
    grind

theorem Canon.cons {B : Nat} {x : Nat} {xs : List Nat} (h : Canon B (x :: xs)) : x < B ∧ Canon B xs ∧ (xs = [] → x ≠ 0) := by
  refine ⟨h.1 x (by simp), ⟨fun y hy => h.1 y (by simp [hy]), ?_⟩, ?_⟩
  · intro hl
    apply h.2
    cases xs with
    | nil => simp at hl
    | cons y ys => simpa [List.getLast?_cons_cons] using hl
  · rintro rfl rfl
    exact h.2 rfl

theorem Canon.zero {B : Nat} (hB : 0 < B) : ∀ {xs : List Nat}, Canon B xs → val B xs = 0 → xs = []
  | [], _, _ => rfl
  | x :: xs, h, h0 => by
    obtain ⟨_, h2, h3⟩ := h.cons
    simp only [val] at h0
    have hx : x = 0 := by omega
    have hv : B * val B xs = 0 := by omega
    have : val B xs = 0 := by
      rcases Nat.mul_eq_zero.1 hv with h | h
      · omega
      · exact h
    exact absurd hx (h3 (Canon.zero hB h2 this))

theorem Canon.unique {B : Nat} (hB : 0 < B) : ∀ {xs ys : List Nat}, Canon B xs → Canon B ys → val B xs = val B ys → xs = ys
  | [], ys, _, hy, h => (Canon.zero hB hy (by simpa [val] using h.symm)).symm
  | x :: xs, [], hx, _, h => Canon.zero hB hx (by simpa [val] using h)
  | x :: xs, y :: ys, hx, hy, h => by
    obtain ⟨a1, a2, _⟩ := hx.cons
    obtain ⟨b1, b2, _⟩ := hy.cons
    simp only [val] at h
    have e1 : x = y := by
      have := congrArg (· % B) h
      simpa [Nat.add_mul_mod_self_left, Nat.mod_eq_of_lt a1, Nat.mod_eq_of_lt b1] using this
    subst e1
    have e2 : val B xs = val B ys := Nat.eq_of_mul_eq_mul_left hB (by omega)
    rw [Canon.unique hB a2 b2 e2]

theorem Canon.low {B : Nat} (hB : 0 < B) : ∀ {xs : List Nat}, Canon B xs → xs ≠ [] → B ^ (xs.length - 1) ≤ val B xs
  | [x], h, _ => by
    have := h.cons.2.2 rfl
    simp [val]
    omega
  | x :: y :: xs, h, _ => by
    have ih := Canon.low hB h.cons.2.1 (by simp)
    simp only [List.length_cons, Nat.add_sub_cancel] at ih ⊢
    rw [show val B (x :: y :: xs) = x + B * val B (y :: xs) from rfl, Nat.pow_succ]
    have : B * B ^ xs.length ≤ B * val B (y :: xs) := Nat.mul_le_mul_left _ ih
    rw [Nat.mul_comm (B ^ xs.length)]
    omega

theorem Canon.len {B k : Nat} (hB : 1 < B) {xs : List Nat} (h : Canon B xs) (hv : val B xs < B ^ k) : xs.length ≤ k := by
  by_cases hx : xs = []
  · subst hx; simp
  · have h1 := Canon.low (by omega) h hx
    have h2 : B ^ (xs.length - 1) < B ^ k := Nat.lt_of_le_of_lt h1 hv
    have := (Nat.pow_lt_pow_iff_right hB).1 h2
    have : 0 < xs.length := List.length_pos_iff.2 hx
    omega

theorem Canon.nil (B : Nat) : Canon B [] := ⟨fun x hx => by simp at hx, by simp⟩

theorem Canon.lt_of_len {B : Nat} (hB : 1 < B) {xs ys : List Nat} (hx : Canon B xs) (hy : Canon B ys) (h : xs.length < ys.length) : val B xs < val B ys := by
  have h1 := val_lt hx.1
  have h2 := Canon.low (by omega) hy (by rintro rfl; simp at h)
  have h3 : B ^ xs.length ≤ B ^ (ys.length - 1) := Nat.pow_le_pow_right (by omega) (by omega)
  omega

theorem can_of_last {B : Nat} {xs : List Nat} (h : Lim B xs) (hl : ∀ h0 : 0 < xs.length, xs[xs.length - 1] ≠ 0) : Canon B xs := by
  refine ⟨h, fun h0 => ?_⟩
  rw [List.getLast?_eq_getElem?] at h0
  obtain ⟨h1, h2⟩ := List.getElem?_eq_some_iff.1 h0
  exact hl (by omega) h2

end Go.Sim


namespace Go.Sim

def SK (k : IntKind) : Prop := k = .u16 ∨ k = .i64

theorem SK.wrap {k : IntKind} (hk : SK k) {n : Int} (h0 : 0 ≤ n) (h1 : n < 32768) : k.wrap n = n := by
  rcases hk with rfl | rfl
  · have e : IntKind.wrap .u16 n = n % 65536 := by simp [IntKind.wrap, IntKind.bits, IntKind.signed]
    rw [e]; omega
  · exact wrap64 (by omega) (by omega)

theorem SK.bits {k : IntKind} (hk : SK k) : 16 ≤ k.bits := by
  rcases hk with rfl | rfl <;> decide

theorem SK.toNat {k : IntKind} (hk : SK k) {a : Nat} (ha : a < 1024) : (BitVec.ofInt k.bits (a : Int)).toNat = a := by
  have h := hk.bits
  have h2 : (2 : Nat) ^ 16 ≤ 2 ^ k.bits := Nat.pow_le_pow_right (by decide) h
  rw [BitVec.toNat_ofInt]
  have h3 : ((2 ^ k.bits : Nat) : Int) = 2 ^ k.bits := by simp
  rw [Int.emod_eq_of_lt (by omega) (by omega)]
  omega

theorem andK {k : IntKind} (hk : SK k) {a b : Nat} (ha : a < 1024) (hb : b < 1024) : iBin .and (.int k (a : Int)) (.int k (b : Int)) = some (.int k ((a &&& b : Nat) : Int)) := by
  have e : iBin .and (.int k (a : Int)) (.int k (b : Int)) = some (Value.int k (k.wrap ((BitVec.ofInt k.bits (a : Int) &&& BitVec.ofInt k.bits (b : Int)).toNat : Int))) := by simp [iBin, iInt]
  rw [e, BitVec.toNat_and, hk.toNat ha, hk.toNat hb]
  have : a &&& b < 2 ^ 10 := Nat.and_lt_two_pow _ hb
  rw [hk.wrap (by omega) (by omega)]

theorem shrK {k : IntKind} (hk : SK k) {s a : Nat} (ha : a < 16) : iBin .shr (.int k (s : Int)) (I a) = some (.int k ((s / 2 ^ a : Nat) : Int)) := by
  have h := hk.bits
  simp only [iBin, iShift]
  rw [if_neg (by omega)]
  have : min ((a : Int).toNat) k.bits = a := by omega
  rw [this, Int.fdiv_eq_ediv_of_nonneg _ (Int.pow_nonneg (by decide))]
  rfl

theorem bit_and (z : Nat) : z &&& 1 = z % 2 := Nat.and_one_is_mod z

end Go.Sim


namespace Go.Proofs.YthplaillblmgfaaGreatDoor
open Go.Sim

theorem skI : SK .i64 := .inr rfl

def wrd (a l : Nat) : List UInt8 := (List.range l).map fun i => if a.testBit (9 - i) then 49 else 48
theorem wrd_len (a l : Nat) : (wrd a l).length = l := by simp [wrd]

theorem C70 {a l : Nat} {h : Heap} {K : Value → Heap → Prop} (ha : a < 1024) (h1 : 1 ≤ l) (h2 : l ≤ 10) (hk : ∀ h', EX h h' → K (S (wrd a l)) h') : CallP Tryz.prog 70 [I a, I l] h K := by
  refine f70 ?_
  have mk : iMake 5 1 [(.int .u8 (0))] h (I l) (I l) = some (sl 5 h.length 0 l, h ++ [.arr 5 (List.replicate l (.int .u8 0))]) := by
    simp only [iMake]
    rw [if_pos (by omega), zrep_one]; rfl
  have ll : iLenSl (sl 5 h.length 0 l) = some (I l) := rfl
  simp only [T70, mk, OH_some, ll, OP_some]
  have x0 : EX h (h ++ [.arr 5 (List.replicate l (.int .u8 0))]) := EX.append _ _
  have k0 : (h ++ [IObj.arr 5 (List.replicate l (.int .u8 0))])[h.length]? = some (.arr 5 (List.replicate l (.int .u8 0))) := get_last
  have hst : h ++ [IObj.arr 5 (List.replicate l (.int .u8 0))] = (h ++ [IObj.arr 5 (List.replicate l (.int .u8 0))]).set h.length (.arr 5 (((wrd a 0).map cv) ++ List.replicate (l - 0) (.int .u8 0))) := by
    apply List.ext_getElem?
    intro j
    by_cases hj : h.length = j
    · subst hj; rw [List.getElem?_set_self (by simp), k0]; simp [wrd]
    · rw [List.getElem?_set_ne hj]
  generalize h ++ [IObj.arr 5 (List.replicate l (.int .u8 0))] = g at x0 k0 hst ⊢
  have hgl := (List.getElem?_eq_some_iff.1 k0).1
  refine loopL (σ := Nat) (fun i => [I i]) (fun i => g.set h.length (.arr 5 (((wrd a i).map cv) ++ List.replicate (l - i) (.int .u8 0)))) (fun i => i ≤ l) (fun i => l - i) 0 rfl hst.symm (Nat.zero_le _) ?_
  intro i hi L hL
  rw [q70z6]
  simp only [bin_lss, OP_some, IfP_dec]
  refine ⟨fun hlt => ?_, fun hge => ?_⟩
  · have hil : i < l := by omega
    have w1 : IntKind.wrap .i64 (9 - (i : Int)) = ((9 - i : Nat) : Int) := by rw [wrap64 (by omega) (by omega)]; omega
    have hdl : a / 2 ^ (9 - i) < 1024 := Nat.lt_of_le_of_lt (Nat.div_le_self _ _) ha
    have an : iBin .and (I (a / 2 ^ (9 - i) : Nat)) (.int .i64 1) = some (I (a / 2 ^ (9 - i) % 2 : Nat)) := by
      have := andK skI hdl (show 1 < 1024 by decide)
      rw [bit_and] at this
      exact this
    have cn : iConv .u8 (I (a / 2 ^ (9 - i) % 2 : Nat)) = some (.int .u8 (a / 2 ^ (9 - i) % 2 : Nat)) := by
      have : a / 2 ^ (9 - i) % 2 < 2 := Nat.mod_lt _ (by decide)
      rw [conv_int, wrapU8 (by omega) (by omega)]
    have ad : IntKind.wrap .u8 (48 + ((a / 2 ^ (9 - i) % 2 : Nat) : Int)) = ((if a.testBit (9 - i) then (49 : UInt8) else 48).toNat : Int) := by
      rw [Nat.testBit_eq_decide_div_mod_eq]
      have : a / 2 ^ (9 - i) % 2 < 2 := Nat.mod_lt _ (by decide)
      rw [wrapU8 (by omega) (by omega)]
      by_cases h0 : a / 2 ^ (9 - i) % 2 = 1
      · rw [h0]; rfl
      · rw [show a / 2 ^ (9 - i) % 2 = 0 by omega]; rfl
    simp only [bin_sub, w1, OP_some, shrK skI (show 9 - i < 16 by omega), an, cn, bin_add, ad, adr_sl hil]
    rw [store_at (List.getElem?_set_self hgl) (by rw [List.length_append, List.length_map, wrd_len, List.length_replicate]; omega) rfl rfl]
    simp only [OH_some, inc i (by omega), true_and, List.set_set]
    have e : ((wrd a i).map cv ++ List.replicate (l - i) (Value.int .u8 0)).set i (.int .u8 ((if a.testBit (9 - i) then (49 : UInt8) else 48).toNat : Int)) = (wrd a (i + 1)).map cv ++ List.replicate (l - (i + 1)) (Value.int .u8 0) := by
      obtain ⟨m, hm⟩ : ∃ m, l - i = m + 1 := ⟨l - i - 1, by omega⟩
      rw [hm, show l - (i + 1) = m by omega, List.set_append_right _ _ (by simp [wrd_len]), List.length_map, wrd_len, Nat.sub_self, List.replicate_succ]
      simp [wrd, List.range_succ]
    rw [e]
    exact hL (i + 1) (by omega) (by omega)
  · have : i = l := by omega
    subst this
    rw [q70z12, Nat.sub_self, List.replicate_zero, List.append_nil]
    have hg := List.getElem?_set_self (l := g) (i := h.length) (a := IObj.arr 5 ((wrd a i).map cv)) hgl
    have own : OwnS h.length (g.set h.length (.arr 5 ((wrd a i).map cv))) 5 (sl 5 h.length 0 i) ((wrd a i).map cv) := .inr ⟨h.length, Nat.le_refl _, by rw [List.length_map, wrd_len], hg⟩
    rw [b2s own]
    exact OP_some.2 (hk _ (x0.set (Nat.le_refl _) _))

def lenE (l : List Int) : Int := if 12 < l.length then 3 else if l.length = 0 ∨ ¬ (∀ x ∈ l, 1 ≤ x ∧ x ≤ 10) then 1 else 0

theorem C65 {v : Value} {l : List Int} {h : Heap} {K : Value → Heap → Prop} (hv : NS h v .i64 l) (hl : l.length ≤ 1000) (hk : K (I (lenE l)) h) : CallP Tryz.prog 65 [v] h K := by
  refine f65 ?_
  unfold T65
  unfold lenE at hk
  simp only [hv.len, OP_some, bin_gtr, IfP_dec]
  refine ⟨fun h1 => by rw [if_pos (by omega)] at hk; exact hk, fun h1 => ?_⟩
  rw [if_neg (by omega)] at hk
  simp only [bin_eql, OP_some]
  rw [q65z8]
  by_cases h0 : l.length = 0
  · simp only [decide_eq_true (show (l.length : Int) = 0 by omega), GdP_tf, q65z10, q65z12, q65z14, iPick_t, OP_some, IfP_true]
    rw [if_pos (.inl h0)] at hk
    exact hk
  simp only [decide_eq_false (show ¬ (l.length : Int) = 0 by omega), GdP_ff]
  refine C102 hv (by omega) hl ?_
  intro m hm hmle
  simp only [bin_lss, OP_some, q65z10, iPick_f]
  by_cases hm1 : m < 1
  · simp only [decide_eq_true hm1, q65z12, GdP_tf, q65z14, iPick_t, OP_some, IfP_true]
    rw [if_pos (.inr fun hc => by have := (hc m hm).1; omega)] at hk
    exact hk
  simp only [decide_eq_false hm1, q65z12, GdP_ff]
  refine C103 hv (by omega) hl ?_
  intro M hM hMle
  simp only [bin_gtr, OP_some]
  rw [q65z14]
  simp only [iPick_f, OP_some, IfP_dec]
  refine ⟨fun hb => ?_, fun hb => ?_⟩
  · rw [if_pos (.inr fun hc => by have := (hc M hM).2; omega)] at hk; exact hk
  · rw [if_neg] at hk
    · exact hk
    · rintro (h | h)
      · exact h0 h
      · exact h fun x hx => ⟨by have := hmle x hx; omega, by have := hMle x hx; omega⟩

end Go.Proofs.YthplaillblmgfaaGreatDoor


namespace Go.Sim

def offF (n i : Nat) : List Nat → Nat → Nat
  | [], _ => 0
  | l :: ls, k => (if l < n ∨ (l = n ∧ k < i) then rmN l else 0) + offF n i ls (k + 1)

theorem offF_low {n : Nat} : ∀ {ls : List Nat} {i k : Nat}, i ≤ k → offF n i ls k = offF n 0 ls k
  | [], _, _, _ => rfl
  | l :: ls, i, k, h => by
    have e : (l < n ∨ (l = n ∧ k < i)) ↔ (l < n ∨ (l = n ∧ k < 0)) := by omega
    simp only [offF, e, offF_low (ls := ls) (show i ≤ k + 1 by omega)]

theorem offF_step {n : Nat} : ∀ {ls : List Nat} {i k : Nat} (h1 : k ≤ i) (h2 : i - k < ls.length), offF n (i + 1) ls k = offF n i ls k + (if ls[i - k] = n then rmN n else 0)
  | [], _, _, _, h => by simp at h
  | l :: ls, i, k, h1, h2 => by
    by_cases he : i = k
    · subst he
      simp only [offF, Nat.sub_self, List.getElem_cons_zero]
      rw [offF_low (ls := ls) (show i + 1 ≤ i + 1 by omega), offF_low (ls := ls) (show i ≤ i + 1 by omega)]
      by_cases hl : l = n
      · subst hl; simp; omega
      · have e : (l < n ∨ (l = n ∧ i < i + 1)) ↔ (l < n ∨ (l = n ∧ i < i)) := by omega
        simp only [e, if_neg hl]; omega
    · have ih := offF_step (n := n) (ls := ls) (i := i) (k := k + 1) (by omega) (by simp at h2; omega)
      have eg : (l :: ls)[i - k] = ls[i - (k + 1)]'(by simp at h2; omega) := by
        obtain ⟨m, hm⟩ : ∃ m, i - k = m + 1 := ⟨i - k - 1, by omega⟩
        simp only [hm, List.getElem_cons_succ]
        congr 1
        omega
      have e : (l < n ∨ (l = n ∧ k < i + 1)) ↔ (l < n ∨ (l = n ∧ k < i)) := by omega
      simp only [offF, ih, eg, e]
      omega

theorem offF_top {n : Nat} : ∀ {ls : List Nat} {i k : Nat}, k + ls.length ≤ i → offF n i ls k = offF (n + 1) 0 ls k
  | [], _, _, _ => rfl
  | l :: ls, i, k, h => by
    simp only [List.length_cons] at h
    have e : (l < n ∨ (l = n ∧ k < i)) ↔ (l < n + 1 ∨ (l = n + 1 ∧ k < 0)) := by omega
    simp only [offF, e, offF_top (ls := ls) (show (k + 1) + ls.length ≤ i by omega)]

theorem offF_all : ∀ {ls : List Nat} {k : Nat}, lenOk ls → offF 11 0 ls k = (ls.map rmN).sum
  | [], _, _ => rfl
  | l :: ls, k, h => by
    have := h l (by simp)
    have ih := offF_all (ls := ls) (k := k + 1) fun x hx => h x (List.mem_cons_of_mem _ hx)
    simp only [offF, List.map_cons, List.sum_cons, ih]
    rw [if_pos (by omega)]

theorem offF_one : ∀ {ls : List Nat} {k : Nat}, lenOk ls → offF 1 0 ls k = 0
  | [], _, _ => rfl
  | l :: ls, k, h => by
    have := h l (by simp)
    simp only [offF, offF_one (ls := ls) (k := k + 1) (fun x hx => h x (by simp [hx]))]
    rw [if_neg (by omega)]

theorem offF_le : ∀ {ls : List Nat} {n i k : Nat}, offF n i ls k ≤ (ls.map rmN).sum
  | [], _, _, _ => Nat.le_refl _
  | l :: ls, n, i, k => by
    have := offF_le (ls := ls) (n := n) (i := i) (k := k + 1)
    simp only [offF, List.map_cons, List.sum_cons]
    split <;> omega

theorem offF_dvd : ∀ {ls : List Nat} {n i k : Nat}, lenOk ls → n ≤ 10 → rmN n ∣ offF n i ls k
  | [], _, _, _, _, _ => Nat.dvd_zero _
  | l :: ls, n, i, k, h, hn => by
    have h1 := h l (by simp)
    simp only [offF]
    refine Nat.dvd_add ?_ (offF_dvd (fun x hx => h x (by simp [hx])) hn)
    split
    · exact rm_dvd h1.1 (by omega) hn
    · exact Nat.dvd_zero _

end Go.Sim


namespace Go.Proofs.YthplaillblmgfaaGreatDoor
open Go.Sim

def outW (ls : List Nat) (n i : Nat) : List (List UInt8) := (List.range ls.length).map fun j => if ls.getD j 0 < n ∨ (ls.getD j 0 = n ∧ j < i) then wrd (offF (ls.getD j 0) j ls 0) (ls.getD j 0) else []
theorem outW_len (ls : List Nat) (n i : Nat) : (outW ls n i).length = ls.length := by simp [outW]

theorem outW_skip {ls : List Nat} {n i : Nat} (h : ls.getD i 0 ≠ n) : outW ls n (i + 1) = outW ls n i := by
  refine List.map_congr_left fun j _ => ?_
  have : (ls.getD j 0 < n ∨ (ls.getD j 0 = n ∧ j < i + 1)) ↔ (ls.getD j 0 < n ∨ (ls.getD j 0 = n ∧ j < i)) := by
    constructor
    · rintro (h1 | ⟨h1, h2⟩)
      · exact .inl h1
      · by_cases e : j = i
        · subst e; exact absurd h1 h
        · exact .inr ⟨h1, by omega⟩
    · rintro (h1 | ⟨h1, h2⟩)
      · exact .inl h1
      · exact .inr ⟨h1, by omega⟩
  simp only [this]

theorem outW_set {ls : List Nat} {n i : Nat} (hi : i < ls.length) (h : ls.getD i 0 = n) : (outW ls n i).set i (wrd (offF n i ls 0) n) = outW ls n (i + 1) := by
  apply List.ext_getElem
  · simp [outW]
  intro j h1 h2
  rw [List.getElem_set]
  simp only [outW, List.getElem_map, List.getElem_range]
  by_cases e : i = j
  · subst e; rw [if_pos rfl, if_pos (.inr ⟨h, by omega⟩), h]
  · rw [if_neg e]
    have : (ls.getD j 0 < n ∨ (ls.getD j 0 = n ∧ j < i + 1)) ↔ (ls.getD j 0 < n ∨ (ls.getD j 0 = n ∧ j < i)) := by omega
    simp only [this]

theorem outW_top {ls : List Nat} {n : Nat} : outW ls n ls.length = outW ls (n + 1) 0 := by
  refine List.map_congr_left fun j hj => ?_
  have hj := List.mem_range.1 hj
  have : (ls.getD j 0 < n ∨ (ls.getD j 0 = n ∧ j < ls.length)) ↔ (ls.getD j 0 < n + 1 ∨ (ls.getD j 0 = n + 1 ∧ j < 0)) := by omega
  simp only [this]

def plainW (ls : List Nat) : List (List UInt8) := outW ls 11 0

theorem lenE_ok {ls : List Nat} (hl : ls.length ≤ 12) (h0 : 0 < ls.length) (hok : lenOk ls) : lenE (ls.map fun l : Nat => (l : Int)) = 0 := by
  unfold lenE
  rw [List.length_map, if_neg (by omega), if_neg]
  rintro (h | h)
  · omega
  · refine h fun x hx => ?_
    obtain ⟨l, hl, rfl⟩ := List.mem_map.1 hx
    have := hok l hl
    omega

set_option maxHeartbeats 1000000 in
theorem C29 {v : Value} {ls : List Nat} {h : Heap} {K : Value → Heap → Prop} (hv : NS h v .i64 (ls.map fun l : Nat => (l : Int))) (hl : ls.length ≤ 12) (h0 : 0 < ls.length) (hok : lenOk ls)
    (hno : 1024 < (ls.map rmN).sum → ∀ h', EX h h' → K (.tuple #[.slice none 0 0, I 5]) h')
    (hk : (ls.map rmN).sum ≤ 1024 → ∀ u h', EX h h' → OwnS h.length h' 9 u ((plainW ls).map S) → K (.tuple #[u, I 0]) h') : CallP Tryz.prog 29 [v] h K := by
  refine f29 (C65 hv (by rw [List.length_map]; omega) ?_)
  have hlen : iLenSl v = some (I ls.length) := by have := hv.len; rwa [List.length_map] at this
  have mk : iMake 9 16 [(.string ⟨#[]⟩)] h (I ls.length) (I ls.length) = some (sl 9 h.length 0 ls.length, h ++ [.arr 9 ((outW ls 1 0).map S)]) := by
    simp only [iMake]
    rw [if_pos (by omega), zrep_one]
    have : List.replicate ls.length (Value.string ⟨#[]⟩) = (outW ls 1 0).map S := by
      apply List.ext_getElem
      · simp [outW]
      intro j h1 h2
      simp at h1
      have hj := hok _ (List.getElem_mem h1)
      simp only [List.getElem_replicate, outW, List.getElem_map, List.getElem_range]
      rw [if_neg]
      · rfl
      · have : ls.getD j 0 = ls[j] := by simp [h1]
        omega
    simp only [Int.toNat_natCast, this]
  simp only [lenE_ok hl h0 hok, bin_neq, OP_some, decide_true, Bool.not_true, IfP_false, hlen, mk, OH_some]
  have x0 : EX h (h ++ [.arr 9 ((outW ls 1 0).map S)]) := EX.append _ _
  have k0 : (h ++ [IObj.arr 9 ((outW ls 1 0).map S)])[h.length]? = some (.arr 9 ((outW ls 1 0).map S)) := get_last
  generalize h ++ [IObj.arr 9 ((outW ls 1 0).map S)] = g0 at x0 k0 ⊢
  refine loopL (σ := Nat × Nat × Heap) (fun q => [I q.2.1, I q.1]) (fun q => q.2.2) (fun q => (1 ≤ q.1 ∧ q.1 ≤ 11) ∧ q.2.1 = offF q.1 0 ls 0 ∧ q.2.1 ≤ 1024 ∧ EX h q.2.2 ∧ q.2.2[h.length]? = some (.arr 9 ((outW ls q.1 0).map S))) (fun q => 11 - q.1)
    (1, 0, g0) rfl rfl ⟨⟨Nat.le_refl _, show (1 : Nat) ≤ 11 by decide⟩, (offF_one hok).symm, Nat.zero_le _, x0, k0⟩ ?_
  rintro ⟨n, a, g⟩ ⟨⟨hn1, hn⟩, haeq, ha, xg, kg⟩ L1 hL1
  simp only at hn1 hn haeq ha xg kg hL1 ⊢
  rw [q29z11]
  simp only [bin_leq, OP_some, IfP_dec]
  refine ⟨fun hle => ?_, fun hgt => ?_⟩
  · have hn10 : n ≤ 10 := by omega
    simp only [hlen, OP_some]
    refine loopL (σ := Nat × Nat × Heap) (fun q => [I q.2.1, I q.1]) (fun q => q.2.2) (fun q => q.1 ≤ ls.length ∧ q.2.1 = offF n q.1 ls 0 ∧ q.2.1 ≤ 1024 ∧ EX h q.2.2 ∧ q.2.2[h.length]? = some (.arr 9 ((outW ls n q.1).map S))) (fun q => ls.length - q.1)
      (0, a, g) rfl rfl ⟨Nat.zero_le _, haeq, ha, xg, kg⟩ ?_
    rintro ⟨i, b, g1⟩ ⟨hi, hbeq, hb, x1, k1⟩ L2 hL2
    simp only at hi hbeq hb x1 k1 hL2 ⊢
    rw [q29z18]
    simp only [bin_lss, OP_some, IfP_dec]
    refine ⟨fun hlt => ?_, fun hge => ?_⟩
    · have hil : i < ls.length := by omega
      have h1 := hok _ (List.getElem_mem hil)
      have hgd : ls.getD i 0 = ls[i] := by simp [hil]
      have hstep := offF_step (n := n) (ls := ls) (i := i) (k := 0) (Nat.zero_le _) (by simpa using hil)
      simp only [Nat.sub_zero] at hstep
      obtain ⟨bb, o, g1', g2'⟩ := NS.getN (hv.mono x1) hil
      simp only [g1', g2', OP_some, bin_neq]
      by_cases hln : ls[i] = n
      · have hd : (!decide (((ls[i] : Nat) : Int) = (n : Int))) = false := by rw [hln]; simp
        rw [hd, hln]
        rw [if_pos hln] at hstep
        simp only [IfP_false]
        have hdv := offF_dvd (n := n) (i := i) (k := 0) hok hn10
        have hfit : fitN b n = b := by
          obtain ⟨k, hk⟩ := hdv
          rw [hbeq, hk, Nat.mul_comm]
          exact fitN_mul hn1 hn10
        have hr := rmN_pos hn1 hn10
        have wr : IntKind.wrap .i64 (((b : Nat) : Int) + (rmN n : Nat)) = ((b + rmN n : Nat) : Int) := by rw [wrap64 (by omega) (by omega)]; omega
        refine C69 hb hn1 hn10 (C66 hn1 hn10 ?_)
        rw [hfit]
        simp only [bin_add, wr, OP_some, bin_gtr, IfP_dec]
        have hle2 := offF_le (ls := ls) (n := n) (i := i + 1) (k := 0)
        refine ⟨fun hbig => hno (by omega) g1 x1, fun hbig => ?_⟩
        refine C70 (by omega) hn1 hn10 ?_
        intro g2 x2
        have k2 := x2.get k1
        simp only [adr_sl hil, OP_some]
        rw [store_at k2 (by simp [outW, hil]) rfl rfl]
        simp only [OH_some]
        refine C66 hn1 hn10 ?_
        simp only [bin_add, wr, OP_some]
        rw [q29z31]
        simp only [bin_add, OP_some, inc i (by omega), true_and]
        have es : ((outW ls n i).map S).set i (S (wrd b n)) = (outW ls n (i + 1)).map S := by
          rw [← List.map_set, hbeq, outW_set hil (by rw [hgd, hln])]
        rw [es]
        exact hL2 (i + 1, b + rmN n, g2.set h.length (.arr 9 ((outW ls n (i + 1)).map S))) ⟨by show i + 1 ≤ _; omega, by show b + rmN n = _; rw [hstep, hbeq], by show b + rmN n ≤ 1024; omega, (x1.trans x2).set (Nat.le_refl _) _, List.getElem?_set_self (List.getElem?_eq_some_iff.1 k2).1⟩ (by show ls.length - (i + 1) < ls.length - i; omega)
      · have hd : (!decide (((ls[i] : Nat) : Int) = (n : Int))) = true := by
          rw [decide_eq_false (by omega)]; rfl
        rw [hd]
        rw [if_neg hln] at hstep
        simp only [IfP_true]
        rw [q29z31]
        simp only [bin_add, OP_some, inc i (by omega), true_and]
        exact hL2 (i + 1, b, g1) ⟨by show i + 1 ≤ _; omega, by show b = _; rw [hstep, hbeq]; rfl, hb, x1, by rw [outW_skip (by rw [hgd]; exact hln)]; exact k1⟩ (by show ls.length - (i + 1) < ls.length - i; omega)
    · have : i = ls.length := by omega
      subst this
      rw [q29z32]
      simp only [bin_add, OP_some, inc n (by omega), true_and]
      refine hL1 (n + 1, b, g1) ⟨⟨by show 1 ≤ n + 1; omega, by show n + 1 ≤ 11; omega⟩, ?_, hb, x1, ?_⟩ (by show 11 - (n + 1) < 11 - n; omega)
      · show b = offF (n + 1) 0 ls 0
        rw [hbeq, offF_top (by omega)]
      · rw [← outW_top]; exact k1
  · have : n = 11 := by omega
    subst this
    rw [q29z33]
    rw [offF_all hok] at haeq
    exact hk (by omega) _ g xg (.inr ⟨h.length, Nat.le_refl _, by rw [List.length_map]; unfold plainW; rw [outW_len], kg⟩)

end Go.Proofs.YthplaillblmgfaaGreatDoor


namespace Go.Proofs.YthplaillblmgfaaGreatDoor
open Go.Sim
end Go.Proofs.YthplaillblmgfaaGreatDoor


namespace Go.Proofs.YthplaillblmgfaaGreatDoor
open Go.Sim

theorem INS.at {h : Heap} {e : TypeId} {k : IntKind} {v : Value} {ns : List Int} (p : INS h e k v ns) {i : Nat} (hi : i < ns.length) : ∃ b o, iAdrSl 1 v (I i) = some (pt b o) ∧ iLoad false 1 h (pt b o) = some (.int k ns[i]) := by
  rcases p.2 with ⟨_, h0⟩ | ⟨j, rfl, hc⟩
  · omega
  · have hc := hc.resolve_left (by omega)
    exact ⟨j, i, adr_sl hi, by simp [iLoad, hc, iPart, hi]⟩

end Go.Proofs.YthplaillblmgfaaGreatDoor


namespace Go.Proofs.YthplaillblmgfaaGreatDoor
open Go.Sim
variable (P : Program) (K : VK)
/-! F8: pommel/pommellaw08.made -/
noncomputable def oc8 := compFn Tryz.prog 8 [[], [], [], [0], [3, 4], [0, 3, 4, 14], [0, 3, 4, 14, 17], [], [], [], [0, 3, 4], [5, 6], [], [], [], [0, 3, 4, 6], [], [], [0, 3, 4, 6], [7, 8], [], [], [0, 3, 4, 6, 8, 47], [0, 3, 4, 6, 8, 47, 53], [], [0, 3, 4, 6, 7], [], [0, 3, 4], [3], [], [3], []]
@[irreducible] noncomputable def c8 : ICode := icOf oc8
@[irreducible] noncomputable def c8z6 : ICode := c8.r.r.l.r.l.l
@[irreducible] noncomputable def c8z3 : ICode := c8.r.r.r
@[irreducible] noncomputable def c8z10 : ICode := c8z6.l.l.r.l
@[irreducible] noncomputable def c8z8 : ICode := c8z6.l.r
@[irreducible] noncomputable def c8z7 : ICode := c8z6.r
@[irreducible] noncomputable def c8z40 : ICode := c8z3.l
@[irreducible] noncomputable def c8z12 : ICode := c8z10.r.l
@[irreducible] noncomputable def c8z18 : ICode := c8z7.l.l.r.l.l.l
@[irreducible] noncomputable def c8z16 : ICode := c8z7.l.l.r.r
@[irreducible] noncomputable def c8z13 : ICode := c8z7.r
@[irreducible] noncomputable def c8z43 : ICode := c8z40.r.l
@[irreducible] noncomputable def c8z23 : ICode := c8z16.l
@[irreducible] noncomputable def c8z39 : ICode := c8z13.l
@[irreducible] noncomputable def c8z28 : ICode := c8z23.r.l.r.l.l
@[irreducible] noncomputable def c8z25 : ICode := c8z23.r.r
@[irreducible] noncomputable def c8z34 : ICode := c8z28.r.l.l.r.l
@[irreducible] noncomputable def c8z31 : ICode := c8z28.r.r
@[irreducible] noncomputable def c8z37 : ICode := c8z25.l
@[irreducible] noncomputable def c8z36 : ICode := c8z34.r.l
theorem k8 : oc8 = some (68, c8, [.tmp 2]) := by kernel_rfl
def K8z0 (_P : Program) (K : VK) : Kont := bodyP [.tmp 2] K
def K8z3 : Kont := thenK (iwpP P c8z3 (K8z0 P K)) (K8z0 P K)
def K8z5 : Kont := inBlockK 0 (K8z3 P K)
def K8z6 (x0 : Value) (L1 : LK) : Kont := thenK (fun f' h'' => (([0] : List Nat).map f' : List Value) = [x0] ∧ L1 (([3, 4] : List Nat).map f') h'') (K8z5 P K)
def K8z7 (x0 : Value) (L1 : LK) : Kont := thenK (iwpP P c8z7 (K8z6 P K x0 L1)) (K8z6 P K x0 L1)
def K8z8 (x0 : Value) (L1 : LK) : Kont := thenK (iwpP P c8z8 (K8z7 P K x0 L1)) (K8z7 P K x0 L1)
def K8z13 (x0 : Value) (L1 : LK) : Kont := thenK (iwpP P c8z13 (K8z6 P K x0 L1)) (K8z6 P K x0 L1)
def K8z14 (x0 : Value) (L1 : LK) : Kont := inBlockK 1 (K8z13 P K x0 L1)
def K8z16 (x0 : Value) (L1 : LK) : Kont := thenK (iwpP P c8z16 (K8z14 P K x0 L1)) (K8z14 P K x0 L1)
def K8z17 (x0 : Value) (L1 : LK) : Kont := inBlockK 2 (K8z16 P K x0 L1)
def K8z18 (x0 l3 i4 : Value) (L1 L2 : LK) : Kont := thenK (fun f' h'' => (([0, 3, 4] : List Nat).map f' : List Value) = [x0, l3, i4] ∧ L2 (([5, 6] : List Nat).map f') h'') (K8z17 P K x0 L1)
def K8z25 (x0 : Value) (L1 : LK) : Kont := thenK (iwpP P c8z25 (K8z14 P K x0 L1)) (K8z14 P K x0 L1)
def K8z27 (x0 : Value) (L1 : LK) : Kont := inBlockK 4 (K8z25 P K x0 L1)
def K8z28 (x0 l3 i4 s6 : Value) (L1 L2 : LK) : Kont := thenK (fun f' h'' => (([0, 3, 4, 6] : List Nat).map f' : List Value) = [x0, l3, i4, s6] ∧ L2 (([7, 8] : List Nat).map f') h'') (K8z27 P K x0 L1)
def K8z31 (x0 l3 i4 s6 : Value) (L1 L2 : LK) : Kont := thenK (iwpP P c8z31 (K8z28 P K x0 l3 i4 s6 L1 L2)) (K8z28 P K x0 l3 i4 s6 L1 L2)
def K8z32 (x0 l3 i4 s6 : Value) (L1 L2 : LK) : Kont := inBlockK 5 (K8z31 P K x0 l3 i4 s6 L1 L2)
def p8z6 (x0 : Value) (L1 : LK) (xs : List Value) (h : Heap) : Prop := CutP (iwpP P c8z6 (K8z6 P K x0 L1)) ([0] ++ [3, 4]) ([x0] ++ xs) h
def p8z10 (x0 l3 i4 x14 : Value) (L1 : LK) (h : Heap) : Prop := CutP (iwpP P c8z10 (K8z8 P K x0 L1)) [0, 3, 4, 14] [x0, l3, i4, x14] h
def p8z12 (x0 l3 i4 x14 x17 : Value) (L1 : LK) (h : Heap) : Prop := CutP (iwpP P c8z12 (K8z8 P K x0 L1)) [0, 3, 4, 14, 17] [x0, l3, i4, x14, x17] h
def p8z18 (x0 l3 i4 : Value) (L1 L2 : LK) (xs : List Value) (h : Heap) : Prop := CutP (iwpP P c8z18 (K8z18 P K x0 l3 i4 L1 L2)) ([0, 3, 4] ++ [5, 6]) ([x0, l3, i4] ++ xs) h
def p8z23 (x0 l3 i4 s6 : Value) (L1 : LK) (h : Heap) : Prop := CutP (iwpP P c8z23 (K8z14 P K x0 L1)) [0, 3, 4, 6] [x0, l3, i4, s6] h
def p8z28 (x0 l3 i4 s6 : Value) (L1 L2 : LK) (xs : List Value) (h : Heap) : Prop := CutP (iwpP P c8z28 (K8z28 P K x0 l3 i4 s6 L1 L2)) ([0, 3, 4, 6] ++ [7, 8]) ([x0, l3, i4, s6] ++ xs) h
def p8z34 (x0 l3 i4 s6 k8 x47 : Value) (L1 L2 : LK) (h : Heap) : Prop := CutP (iwpP P c8z34 (K8z32 P K x0 l3 i4 s6 L1 L2)) [0, 3, 4, 6, 8, 47] [x0, l3, i4, s6, k8, x47] h
def p8z36 (x0 l3 i4 s6 k8 x47 x53 : Value) (L1 L2 : LK) (h : Heap) : Prop := CutP (iwpP P c8z36 (K8z32 P K x0 l3 i4 s6 L1 L2)) [0, 3, 4, 6, 8, 47, 53] [x0, l3, i4, s6, k8, x47, x53] h
def p8z37 (x0 l3 i4 s6 known7 : Value) (L1 : LK) (h : Heap) : Prop := CutP (iwpP P c8z37 (K8z14 P K x0 L1)) [0, 3, 4, 6, 7] [x0, l3, i4, s6, known7] h
def p8z39 (x0 l3 i4 : Value) (L1 : LK) (h : Heap) : Prop := CutP (iwpP P c8z39 (K8z6 P K x0 L1)) [0, 3, 4] [x0, l3, i4] h
def p8z40 (l3 : Value) (h : Heap) : Prop := CutP (iwpP P c8z40 (K8z0 P K)) [3] [l3] h
def p8z43 (l3 : Value) (h : Heap) : Prop := CutP (iwpP P c8z43 (K8z0 P K)) [3] [l3] h
theorem q8z12 (x0 l3 i4 x14 x17 : Value) (L1 : LK) (h : Heap) : p8z12 P K x0 l3 i4 x14 x17 L1 h =
 (OP (iPick x14 x17 (.bool false)) fun x18 =>
 IfP x18
 (OP (iAdrSl 1 x0 i4) fun x23 =>
 OP (iLoad false 1 h x23) fun x24 =>
 OP (iConv .i64 x24) fun x25 =>
 OP (iBin .rem x25 (.int .i64 (2046))) fun x26 =>
 OP (iBin .add x26 (.int .i64 (2))) fun x27 =>
 LoopP [x27, (.string ⟨#[]⟩)] h fun L2 xs hx =>
 p8z18 P K x0 l3 i4 L1 L2 xs hx)
 (p8z40 P K l3 h)) := (CutP_def _ _ _ _).trans (by kernel_rfl)
theorem q8z10 (x0 l3 i4 x14 : Value) (L1 : LK) (h : Heap) : p8z10 P K x0 l3 i4 x14 L1 h =
 (GdP x14 true
 (OP (iLenSl l3) fun x16 =>
 OP (iBin .lss x16 (.int .i64 (12))) fun x17 =>
 p8z12 P K x0 l3 i4 x14 x17 L1 h)
 (p8z12 P K x0 l3 i4 x14 undef L1 h)) := (CutP_def _ _ _ _).trans (by kernel_rfl)
theorem q8z18 (x0 l3 i4 : Value) (L1 L2 : LK) (v5 s6 : Value) (h : Heap) : p8z18 P K x0 l3 i4 L1 L2 [v5, s6] h =
 (OP (iBin .gtr v5 (.int .i64 (1))) fun x29 =>
 IfP x29
 (OP (iBin .rem v5 (.int .i64 (2))) fun x33 =>
 OP (iBin .rem v5 (.int .i64 (2))) fun x35 =>
 OP (iBin .add x35 (.int .i64 (1))) fun x36 =>
 OP (iSlS (.string ⟨#[48, 49]⟩) (some x33) (some x36)) fun x37 =>
 OP (iBin .add x37 s6) fun x39 =>
 OP (iBin .quo v5 (.int .i64 (2))) fun x31 =>
 ([x0, l3, i4] : List Value) = [x0, l3, i4] ∧ L2 [x31, x39] h)
 (p8z23 P K x0 l3 i4 s6 L1 h)) := (CutP_def _ _ _ _).trans (by kernel_rfl)
theorem q8z36 (x0 l3 i4 s6 k8 x47 x53 : Value) (L1 L2 : LK) (h : Heap) : p8z36 P K x0 l3 i4 s6 k8 x47 x53 L1 L2 h =
 (OP (iPick x47 (.bool true) x53) fun x54 =>
 OP (iBin .add k8 (.int .i64 (1))) fun x45 =>
 ([x0, l3, i4, s6] : List Value) = [x0, l3, i4, s6] ∧ L2 [x54, x45] h) := (CutP_def _ _ _ _).trans (by kernel_rfl)
theorem q8z34 (x0 l3 i4 s6 k8 x47 : Value) (L1 L2 : LK) (h : Heap) : p8z34 P K x0 l3 i4 s6 k8 x47 L1 L2 h =
 (GdP x47 false
 (OP (iAdrSl 1 l3 k8) fun x50 =>
 OP (iLoad false 1 h x50) fun x51 =>
 OP (iBin .eql x51 s6) fun x53 =>
 p8z36 P K x0 l3 i4 s6 k8 x47 x53 L1 L2 h)
 (p8z36 P K x0 l3 i4 s6 k8 x47 undef L1 L2 h)) := (CutP_def _ _ _ _).trans (by kernel_rfl)
theorem q8z28 (x0 l3 i4 s6 : Value) (L1 L2 : LK) (known7 k8 : Value) (h : Heap) : p8z28 P K x0 l3 i4 s6 L1 L2 [known7, k8] h =
 (OP (iLenSl l3) fun x42 =>
 OP (iBin .lss k8 x42) fun x43 =>
 IfP x43
 (p8z34 P K x0 l3 i4 s6 k8 known7 L1 L2 h)
 (p8z37 P K x0 l3 i4 s6 known7 L1 h)) := (CutP_def _ _ _ _).trans (by kernel_rfl)
theorem q8z37 (x0 l3 i4 s6 known7 : Value) (L1 : LK) (h : Heap) : p8z37 P K x0 l3 i4 s6 known7 L1 h =
 (OP (iUn .not known7) fun x56 =>
 IfP x56
 (OH (iMkSl 9 1 [(.string ⟨#[]⟩)] h [(0, 1, s6)]) fun x59 h_1 =>
 OH (iApp 9 1 16 h_1 l3 x59) fun x60 h_2 =>
 p8z39 P K x0 x60 i4 L1 h_2)
 (p8z39 P K x0 l3 i4 L1 h)) := (CutP_def _ _ _ _).trans (by kernel_rfl)
theorem q8z23 (x0 l3 i4 s6 : Value) (L1 : LK) (h : Heap) : p8z23 P K x0 l3 i4 s6 L1 h =
 (LoopP [(.bool false), (.int .i64 (0))] h fun L2 xs hx =>
 p8z28 P K x0 l3 i4 s6 L1 L2 xs hx) := (CutP_def _ _ _ _).trans (by kernel_rfl)
theorem q8z39 (x0 l3 i4 : Value) (L1 : LK) (h : Heap) : p8z39 P K x0 l3 i4 L1 h =
 (OP (iBin .add i4 (.int .i64 (1))) fun x20 =>
 ([x0] : List Value) = [x0] ∧ L1 [l3, x20] h) := (CutP_def _ _ _ _).trans (by kernel_rfl)
theorem q8z6 (x0 : Value) (L1 : LK) (l3 i4 : Value) (h : Heap) : p8z6 P K x0 L1 [l3, i4] h =
 (OP (iLenSl x0) fun x12 =>
 OP (iBin .lss i4 x12) fun x13 =>
 p8z10 P K x0 l3 i4 x13 L1 h) := (CutP_def _ _ _ _).trans (by kernel_rfl)
theorem q8z43 (l3 : Value) (h : Heap) : p8z43 P K l3 h =
 (K l3 h) := (CutP_def _ _ _ _).trans (by kernel_rfl)
theorem q8z40 (l3 : Value) (h : Heap) : p8z40 P K l3 h =
 (OP (iLenSl l3) fun x62 =>
 OP (iBin .eql x62 (.int .i64 (0))) fun x63 =>
 IfP x63
 (OH (iMkSl 9 1 [(.string ⟨#[]⟩)] h [(0, 1, (.string ⟨#[48]⟩))]) fun x65 h_1 =>
 OH (iApp 9 1 16 h_1 l3 x65) fun x66 h_2 =>
 p8z43 P K x66 h_2)
 (p8z43 P K l3 h)) := (CutP_def _ _ _ _).trans (by kernel_rfl)
def T8 (x0 : Value) (h : Heap) : Prop :=
 OH (iMkSl 9 0 [(.string ⟨#[]⟩)] h []) fun x9 h_1 =>
 LoopP [x9, (.int .i64 (0))] h_1 fun L1 xs hx =>
 p8z6 P K x0 L1 xs hx
theorem e8 (x0 : Value) (h : Heap) : iwpP P c8 (bodyP [.tmp 2] K) (frame0 [x0]) h = T8 P K x0 h := by kernel_rfl
theorem f8 {K : VK} {x0 : Value} {h : Heap} (H : T8 Tryz.prog K x0 h) : CallP Tryz.prog 8 [x0] h K :=
 callP_intro k8 (Nat.le_of_ble_eq_true rfl) ((e8 Tryz.prog K x0 h).mpr H)
/-! F28: pommel/pommellaw08.lengths -/
noncomputable def oc28 := compFn Tryz.prog 28 [[], [], [], [0], [3, 4], [], [], [], [3], []]
@[irreducible] noncomputable def c28 : ICode := icOf oc28
@[irreducible] noncomputable def c28z6 : ICode := c28.r.r.l.r.l.l
@[irreducible] noncomputable def c28z3 : ICode := c28.r.r.r
@[irreducible] noncomputable def c28z11 : ICode := c28z3.l
theorem k28 : oc28 = some (21, c28, [.tmp 2]) := by kernel_rfl
def K28z0 (_P : Program) (K : VK) : Kont := bodyP [.tmp 2] K
def K28z3 : Kont := thenK (iwpP P c28z3 (K28z0 P K)) (K28z0 P K)
def K28z5 : Kont := inBlockK 0 (K28z3 P K)
def K28z6 (l0 : Value) (L1 : LK) : Kont := thenK (fun f' h'' => (([0] : List Nat).map f' : List Value) = [l0] ∧ L1 (([3, 4] : List Nat).map f') h'') (K28z5 P K)
def p28z6 (l0 : Value) (L1 : LK) (xs : List Value) (h : Heap) : Prop := CutP (iwpP P c28z6 (K28z6 P K l0 L1)) ([0] ++ [3, 4]) ([l0] ++ xs) h
def p28z11 (out3 : Value) (h : Heap) : Prop := CutP (iwpP P c28z11 (K28z0 P K)) [3] [out3] h
theorem q28z6 (l0 : Value) (L1 : LK) (out3 i4 : Value) (h : Heap) : p28z6 P K l0 L1 [out3, i4] h =
 (OP (iLenSl l0) fun x8 =>
 OP (iBin .lss i4 x8) fun x9 =>
 IfP x9
 (OP (iAdrSl 1 l0 i4) fun x15 =>
 OP (iLoad false 1 h x15) fun x16 =>
 OP (iLenS x16) fun x17 =>
 OH (iMkSl 3 1 [(.int .i64 (0))] h [(0, 1, x17)]) fun x18 h_1 =>
 OH (iApp 3 1 8 h_1 out3 x18) fun x19 h_2 =>
 OP (iBin .add i4 (.int .i64 (1))) fun x11 =>
 ([l0] : List Value) = [l0] ∧ L1 [x19, x11] h_2)
 (p28z11 P K out3 h)) := (CutP_def _ _ _ _).trans (by kernel_rfl)
theorem q28z11 (out3 : Value) (h : Heap) : p28z11 P K out3 h =
 (K out3 h) := (CutP_def _ _ _ _).trans (by kernel_rfl)
def T28 (l0 : Value) (h : Heap) : Prop :=
 OH (iMkSl 3 0 [(.int .i64 (0))] h []) fun x5 h_1 =>
 LoopP [x5, (.int .i64 (0))] h_1 fun L1 xs hx =>
 p28z6 P K l0 L1 xs hx
theorem e28 (l0 : Value) (h : Heap) : iwpP P c28 (bodyP [.tmp 2] K) (frame0 [l0]) h = T28 P K l0 h := by kernel_rfl
theorem f28 {K : VK} {l0 : Value} {h : Heap} (H : T28 Tryz.prog K l0 h) : CallP Tryz.prog 28 [l0] h K :=
 callP_intro k28 (Nat.le_of_ble_eq_true rfl) ((e28 Tryz.prog K l0 h).mpr H)
/-! F30: pommel/pommelref08.Code -/
noncomputable def oc30 := compFn Tryz.prog 30 [[], [], [], [], [], [0], [3], [], [], [0, 3, 21], [0, 3, 21, 27], [], [], [], [], [0, 3], [4], [], [], [], [], [], [0, 3], [0], [], [], [], []]
@[irreducible] noncomputable def c30 : ICode := icOf oc30
@[irreducible] noncomputable def c30z8 : ICode := c30.r.r.l.r.l.l
@[irreducible] noncomputable def c30z5 : ICode := c30.r.r.r
@[irreducible] noncomputable def c30z16 : ICode := c30z8.r.l.l.l.l.r.l
@[irreducible] noncomputable def c30z14 : ICode := c30z8.r.l.l.l.r
@[irreducible] noncomputable def c30z13 : ICode := c30z8.r.l.l.r
@[irreducible] noncomputable def c30z11 : ICode := c30z8.r.r
@[irreducible] noncomputable def c30z30 : ICode := c30z5.l
@[irreducible] noncomputable def c30z18 : ICode := c30z16.r.l
@[irreducible] noncomputable def c30z22 : ICode := c30z13.r.l.l
@[irreducible] noncomputable def c30z29 : ICode := c30z11.l
theorem k30 : oc30 = some (46, c30, [.tmp 2]) := by kernel_rfl
def K30z0 (_P : Program) (K : VK) : Kont := bodyP [.tmp 2] K
def K30z5 : Kont := thenK (iwpP P c30z5 (K30z0 P K)) (K30z0 P K)
def K30z7 : Kont := inBlockK 0 (K30z5 P K)
def K30z8 (l0 : Value) (L1 : LK) : Kont := thenK (fun f' h'' => (([0] : List Nat).map f' : List Value) = [l0] ∧ L1 (([3] : List Nat).map f') h'') (K30z7 P K)
def K30z11 (l0 : Value) (L1 : LK) : Kont := thenK (iwpP P c30z11 (K30z8 P K l0 L1)) (K30z8 P K l0 L1)
def K30z12 (l0 : Value) (L1 : LK) : Kont := inBlockK 1 (K30z11 P K l0 L1)
def K30z13 (l0 : Value) (L1 : LK) : Kont := thenK (iwpP P c30z13 (K30z12 P K l0 L1)) (K30z12 P K l0 L1)
def K30z14 (l0 : Value) (L1 : LK) : Kont := thenK (iwpP P c30z14 (K30z13 P K l0 L1)) (K30z13 P K l0 L1)
def K30z21 (l0 : Value) (L1 : LK) : Kont := inBlockK 2 (K30z12 P K l0 L1)
def K30z22 (l0 i3 : Value) (L1 L2 : LK) : Kont := thenK (fun f' h'' => (([0, 3] : List Nat).map f' : List Value) = [l0, i3] ∧ L2 (([4] : List Nat).map f') h'') (K30z21 P K l0 L1)
def p30z8 (l0 : Value) (L1 : LK) (xs : List Value) (h : Heap) : Prop := CutP (iwpP P c30z8 (K30z8 P K l0 L1)) ([0] ++ [3]) ([l0] ++ xs) h
def p30z16 (l0 i3 x21 : Value) (L1 : LK) (h : Heap) : Prop := CutP (iwpP P c30z16 (K30z14 P K l0 L1)) [0, 3, 21] [l0, i3, x21] h
def p30z18 (l0 i3 x21 x27 : Value) (L1 : LK) (h : Heap) : Prop := CutP (iwpP P c30z18 (K30z14 P K l0 L1)) [0, 3, 21, 27] [l0, i3, x21, x27] h
def p30z22 (l0 i3 : Value) (L1 L2 : LK) (xs : List Value) (h : Heap) : Prop := CutP (iwpP P c30z22 (K30z22 P K l0 i3 L1 L2)) ([0, 3] ++ [4]) ([l0, i3] ++ xs) h
def p30z29 (l0 i3 : Value) (L1 : LK) (h : Heap) : Prop := CutP (iwpP P c30z29 (K30z8 P K l0 L1)) [0, 3] [l0, i3] h
def p30z30 (l0 : Value) (h : Heap) : Prop := CutP (iwpP P c30z30 (K30z0 P K)) [0] [l0] h
theorem q30z18 (l0 i3 x21 x27 : Value) (L1 : LK) (h : Heap) : p30z18 P K l0 i3 x21 x27 L1 h =
 (OP (iPick x21 (.bool true) x27) fun x28 =>
 IfP x28
 (K (.int .i64 (2)) h)
 (LoopP [(.int .i64 (0))] h fun L2 xs hx =>
 p30z22 P K l0 i3 L1 L2 xs hx)) := (CutP_def _ _ _ _).trans (by kernel_rfl)
theorem q30z16 (l0 i3 x21 : Value) (L1 : LK) (h : Heap) : p30z16 P K l0 i3 x21 L1 h =
 (GdP x21 false
 (OP (iAdrSl 1 l0 i3) fun x24 =>
 OP (iLoad false 1 h x24) fun x25 =>
 CallP P 61 [x25] h fun x26 h_1 =>
 OP (iUn .not x26) fun x27 =>
 p30z18 P K l0 i3 x21 x27 L1 h_1)
 (p30z18 P K l0 i3 x21 undef L1 h)) := (CutP_def _ _ _ _).trans (by kernel_rfl)
theorem q30z22 (l0 i3 : Value) (L1 L2 : LK) (k4 : Value) (h : Heap) : p30z22 P K l0 i3 L1 L2 [k4] h =
 (OP (iBin .lss k4 i3) fun x31 =>
 IfP x31
 (OP (iAdrSl 1 l0 i3) fun x36 =>
 OP (iLoad false 1 h x36) fun x37 =>
 (True) ∧
 OP (iAdrSl 1 l0 k4) fun x40 =>
 OP (iLoad false 1 h x40) fun x41 =>
 (True) ∧
 OP (iBin .eql x37 x41) fun x42 =>
 IfP x42
 (K (.int .i64 (2)) h)
 (OP (iBin .add k4 (.int .i64 (1))) fun x33 =>
 ([l0, i3] : List Value) = [l0, i3] ∧ L2 [x33] h))
 (p30z29 P K l0 i3 L1 h)) := (CutP_def _ _ _ _).trans (by kernel_rfl)
theorem q30z29 (l0 i3 : Value) (L1 : LK) (h : Heap) : p30z29 P K l0 i3 L1 h =
 (OP (iBin .add i3 (.int .i64 (1))) fun x13 =>
 ([l0] : List Value) = [l0] ∧ L1 [x13] h) := (CutP_def _ _ _ _).trans (by kernel_rfl)
theorem q30z8 (l0 : Value) (L1 : LK) (i3 : Value) (h : Heap) : p30z8 P K l0 L1 [i3] h =
 (OP (iLenSl l0) fun x10 =>
 OP (iBin .lss i3 x10) fun x11 =>
 IfP x11
 (OP (iAdrSl 1 l0 i3) fun x16 =>
 OP (iLoad false 1 h x16) fun x17 =>
 OP (iLenS x17) fun x18 =>
 CallP P 71 [x18, (.int .i64 (1)), (.int .i64 (10))] h fun x19 h_1 =>
 OP (iUn .not x19) fun x20 =>
 p30z16 P K l0 i3 x20 L1 h_1)
 (p30z30 P K l0 h)) := (CutP_def _ _ _ _).trans (by kernel_rfl)
theorem q30z30 (l0 : Value) (h : Heap) : p30z30 P K l0 h =
 (OP (iLenSl l0) fun x44 =>
 OP (iBin .eql x44 (.int .i64 (0))) fun x45 =>
 IfP x45
 (K (.int .i64 (2)) h)
 (K (.int .i64 (0)) h)) := (CutP_def _ _ _ _).trans (by kernel_rfl)
def T30 (l0 : Value) (h : Heap) : Prop :=
 OP (iLenSl l0) fun x6 =>
 OP (iBin .gtr x6 (.int .i64 (12))) fun x7 =>
 IfP x7
 (K (.int .i64 (3)) h)
 (LoopP [(.int .i64 (0))] h fun L1 xs hx =>
 p30z8 P K l0 L1 xs hx)
theorem e30 (l0 : Value) (h : Heap) : iwpP P c30 (bodyP [.tmp 2] K) (frame0 [l0]) h = T30 P K l0 h := by kernel_rfl
theorem f30 {K : VK} {l0 : Value} {h : Heap} (H : T30 Tryz.prog K l0 h) : CallP Tryz.prog 30 [l0] h K :=
 callP_intro k30 (Nat.le_of_ble_eq_true rfl) ((e30 Tryz.prog K l0 h).mpr H)
/-! F31: pommel/mark.IsPlain -/
noncomputable def oc31 := compFn Tryz.prog 31 [[], [], [], [], [], [], [0, 14, 15], [16], [], [], [], [], [0, 5, 6, 14, 15, 16, 21, 22], [23], [], [], [], [0, 5, 6, 7, 8, 14, 15, 16, 21, 22, 23, 31], [0, 5, 6, 7, 14, 15, 16, 21, 22, 23, 31, 34], [], [], [], [0, 14, 15, 16], [], []]
@[irreducible] noncomputable def c31 : ICode := icOf oc31
@[irreducible] noncomputable def c31z9 : ICode := c31.r.r.l.r.l.l
@[irreducible] noncomputable def c31z6 : ICode := c31.r.r.r
@[irreducible] noncomputable def c31z17 : ICode := c31z9.r.r.l.l.r.r.l.l
@[irreducible] noncomputable def c31z12 : ICode := c31z9.r.r.r
@[irreducible] noncomputable def c31z25 : ICode := c31z17.r.r.l.l.r.l.r.l
@[irreducible] noncomputable def c31z23 : ICode := c31z17.r.r.l.l.r.r
@[irreducible] noncomputable def c31z20 : ICode := c31z17.r.r.r
@[irreducible] noncomputable def c31z29 : ICode := c31z12.l
@[irreducible] noncomputable def c31z27 : ICode := c31z25.r.l
theorem k31 : oc31 = some (41, c31, [.tmp 2, .tmp 3]) := by kernel_rfl
def K31z0 (_P : Program) (K : VK) : Kont := bodyP [.tmp 2, .tmp 3] K
def K31z6 : Kont := thenK (iwpP P c31z6 (K31z0 P K)) (K31z0 P K)
def K31z8 : Kont := inBlockK 0 (K31z6 P K)
def K31z9 (words0 x14 x15 : Value) (L1 : LK) : Kont := thenK (fun f' h'' => (([0, 14, 15] : List Nat).map f' : List Value) = [words0, x14, x15] ∧ L1 (([16] : List Nat).map f') h'') (K31z8 P K)
def K31z12 (words0 x14 x15 : Value) (L1 : LK) : Kont := thenK (iwpP P c31z12 (K31z9 P K words0 x14 x15 L1)) (K31z9 P K words0 x14 x15 L1)
def K31z13 (words0 x14 x15 : Value) (L1 : LK) : Kont := inBlockK 1 (K31z12 P K words0 x14 x15 L1)
def K31z16 (words0 x14 x15 : Value) (L1 : LK) : Kont := inBlockK 2 (K31z13 P K words0 x14 x15 L1)
def K31z17 (words0 i5 v6 x14 x15 x16 x21 x22 : Value) (L1 L2 : LK) : Kont := thenK (fun f' h'' => (([0, 5, 6, 14, 15, 16, 21, 22] : List Nat).map f' : List Value) = [words0, i5, v6, x14, x15, x16, x21, x22] ∧ L2 (([23] : List Nat).map f') h'') (K31z16 P K words0 x14 x15 L1)
def K31z20 (words0 i5 v6 x14 x15 x16 x21 x22 : Value) (L1 L2 : LK) : Kont := thenK (iwpP P c31z20 (K31z17 P K words0 i5 v6 x14 x15 x16 x21 x22 L1 L2)) (K31z17 P K words0 i5 v6 x14 x15 x16 x21 x22 L1 L2)
def K31z21 (words0 i5 v6 x14 x15 x16 x21 x22 : Value) (L1 L2 : LK) : Kont := inBlockK 3 (K31z20 P K words0 i5 v6 x14 x15 x16 x21 x22 L1 L2)
def K31z23 (words0 i5 v6 x14 x15 x16 x21 x22 : Value) (L1 L2 : LK) : Kont := thenK (iwpP P c31z23 (K31z21 P K words0 i5 v6 x14 x15 x16 x21 x22 L1 L2)) (K31z21 P K words0 i5 v6 x14 x15 x16 x21 x22 L1 L2)
def p31z9 (words0 x14 x15 : Value) (L1 : LK) (xs : List Value) (h : Heap) : Prop := CutP (iwpP P c31z9 (K31z9 P K words0 x14 x15 L1)) ([0, 14, 15] ++ [16]) ([words0, x14, x15] ++ xs) h
def p31z17 (words0 i5 v6 x14 x15 x16 x21 x22 : Value) (L1 L2 : LK) (xs : List Value) (h : Heap) : Prop := CutP (iwpP P c31z17 (K31z17 P K words0 i5 v6 x14 x15 x16 x21 x22 L1 L2)) ([0, 5, 6, 14, 15, 16, 21, 22] ++ [23]) ([words0, i5, v6, x14, x15, x16, x21, x22] ++ xs) h
def p31z25 (words0 i5 v6 j7 w8 x14 x15 x16 x21 x22 x23 x31 : Value) (L1 L2 : LK) (h : Heap) : Prop := CutP (iwpP P c31z25 (K31z23 P K words0 i5 v6 x14 x15 x16 x21 x22 L1 L2)) [0, 5, 6, 7, 8, 14, 15, 16, 21, 22, 23, 31] [words0, i5, v6, j7, w8, x14, x15, x16, x21, x22, x23, x31] h
def p31z27 (words0 i5 v6 j7 x14 x15 x16 x21 x22 x23 x31 x34 : Value) (L1 L2 : LK) (h : Heap) : Prop := CutP (iwpP P c31z27 (K31z23 P K words0 i5 v6 x14 x15 x16 x21 x22 L1 L2)) [0, 5, 6, 7, 14, 15, 16, 21, 22, 23, 31, 34] [words0, i5, v6, j7, x14, x15, x16, x21, x22, x23, x31, x34] h
def p31z29 (words0 x14 x15 x16 : Value) (L1 : LK) (h : Heap) : Prop := CutP (iwpP P c31z29 (K31z9 P K words0 x14 x15 L1)) [0, 14, 15, 16] [words0, x14, x15, x16] h
theorem q31z27 (words0 i5 v6 j7 x14 x15 x16 x21 x22 x23 x31 x34 : Value) (L1 L2 : LK) (h : Heap) : p31z27 P K words0 i5 v6 j7 x14 x15 x16 x21 x22 x23 x31 x34 L1 L2 h =
 (OP (iPick x31 x34 (.bool false)) fun x35 =>
 IfP x35
 (OH (iMkSl 3 2 [(.int .i64 (0))] h [(0, 1, i5), (1, 1, j7)]) fun x38 h_1 =>
 K (.tuple #[x38, (.int .i64 (0))]) h_1)
 (OP (iBin .add x23 (.int .i64 (1))) fun x39 =>
 ([words0, i5, v6, x14, x15, x16, x21, x22] : List Value) = [words0, i5, v6, x14, x15, x16, x21, x22] ∧ L2 [x39] h)) := (CutP_def _ _ _ _).trans (by kernel_rfl)
theorem q31z25 (words0 i5 v6 j7 w8 x14 x15 x16 x21 x22 x23 x31 : Value) (L1 L2 : LK) (h : Heap) : p31z25 P K words0 i5 v6 j7 w8 x14 x15 x16 x21 x22 x23 x31 L1 L2 h =
 (GdP x31 true
 (CallP P 43 [w8, v6] h fun x34 h_1 =>
 p31z27 P K words0 i5 v6 j7 x14 x15 x16 x21 x22 x23 x31 x34 L1 L2 h_1)
 (p31z27 P K words0 i5 v6 j7 x14 x15 x16 x21 x22 x23 x31 undef L1 L2 h)) := (CutP_def _ _ _ _).trans (by kernel_rfl)
theorem q31z17 (words0 i5 v6 x14 x15 x16 x21 x22 : Value) (L1 L2 : LK) (x23 : Value) (h : Heap) : p31z17 P K words0 i5 v6 x14 x15 x16 x21 x22 L1 L2 [x23] h =
 (OP (iBin .lss x23 x22) fun x24 =>
 IfP x24
 (OP (iAdrSl 1 x21 x23) fun x26 =>
 OP (iLoad false 1 h x26) fun x27 =>
 OP (iBin .neq i5 x23) fun x30 =>
 p31z25 P K words0 i5 v6 x23 x27 x14 x15 x16 x21 x22 x23 x30 L1 L2 h)
 (p31z29 P K words0 x14 x15 x16 L1 h)) := (CutP_def _ _ _ _).trans (by kernel_rfl)
theorem q31z29 (words0 x14 x15 x16 : Value) (L1 : LK) (h : Heap) : p31z29 P K words0 x14 x15 x16 L1 h =
 (OP (iBin .add x16 (.int .i64 (1))) fun x40 =>
 ([words0, x14, x15] : List Value) = [words0, x14, x15] ∧ L1 [x40] h) := (CutP_def _ _ _ _).trans (by kernel_rfl)
theorem q31z9 (words0 x14 x15 : Value) (L1 : LK) (x16 : Value) (h : Heap) : p31z9 P K words0 x14 x15 L1 [x16] h =
 (OP (iBin .lss x16 x15) fun x17 =>
 IfP x17
 (OP (iAdrSl 1 x14 x16) fun x19 =>
 OP (iLoad false 1 h x19) fun x20 =>
 OP (iLenSl words0) fun x22 =>
 LoopP [(.int .i64 (0))] h fun L2 xs hx =>
 p31z17 P K words0 x16 x20 x14 x15 x16 words0 x22 L1 L2 xs hx)
 (K (.tuple #[(.slice none 0 0), (.int .i64 (5))]) h)) := (CutP_def _ _ _ _).trans (by kernel_rfl)
def T31 (words0 : Value) (h : Heap) : Prop :=
 CallP P 40 [words0, (.string ⟨#[]⟩)] h fun x10 h_1 =>
 OP (iBin .neq x10 (.int .i64 (0))) fun x12 =>
 IfP x12
 (K (.tuple #[(.slice none 0 0), x10]) h_1)
 (OP (iLenSl words0) fun x15 =>
 LoopP [(.int .i64 (0))] h_1 fun L1 xs hx =>
 p31z9 P K words0 words0 x15 L1 xs hx)
theorem e31 (words0 : Value) (h : Heap) : iwpP P c31 (bodyP [.tmp 2, .tmp 3] K) (frame0 [words0]) h = T31 P K words0 h := by kernel_rfl
theorem f31 {K : VK} {words0 : Value} {h : Heap} (H : T31 Tryz.prog K words0 h) : CallP Tryz.prog 31 [words0] h K :=
 callP_intro k31 (Nat.le_of_ble_eq_true rfl) ((e31 Tryz.prog K words0 h).mpr H)
/-! F61: pommel/pommelref08.bits -/
noncomputable def oc61 := compFn Tryz.prog 61 [[], [], [0], [3], [], [], [0, 3, 14], [0, 3, 14, 18], [], [], [], [], []]
@[irreducible] noncomputable def c61 : ICode := icOf oc61
@[irreducible] noncomputable def c61z5 : ICode := c61.r.l.r.l.l
@[irreducible] noncomputable def c61z2 : ICode := c61.r.r
@[irreducible] noncomputable def c61z12 : ICode := c61z5.r.l.l.l.r.l
@[irreducible] noncomputable def c61z10 : ICode := c61z5.r.l.l.r
@[irreducible] noncomputable def c61z8 : ICode := c61z5.r.r
@[irreducible] noncomputable def c61z14 : ICode := c61z12.r.l
theorem k61 : oc61 = some (20, c61, [.tmp 2]) := by kernel_rfl
def K61z0 (_P : Program) (K : VK) : Kont := bodyP [.tmp 2] K
def K61z2 : Kont := thenK (iwpP P c61z2 (K61z0 P K)) (K61z0 P K)
def K61z4 : Kont := inBlockK 0 (K61z2 P K)
def K61z5 (s0 : Value) (L1 : LK) : Kont := thenK (fun f' h'' => (([0] : List Nat).map f' : List Value) = [s0] ∧ L1 (([3] : List Nat).map f') h'') (K61z4 P K)
def K61z8 (s0 : Value) (L1 : LK) : Kont := thenK (iwpP P c61z8 (K61z5 P K s0 L1)) (K61z5 P K s0 L1)
def K61z9 (s0 : Value) (L1 : LK) : Kont := inBlockK 1 (K61z8 P K s0 L1)
def K61z10 (s0 : Value) (L1 : LK) : Kont := thenK (iwpP P c61z10 (K61z9 P K s0 L1)) (K61z9 P K s0 L1)
def p61z5 (s0 : Value) (L1 : LK) (xs : List Value) (h : Heap) : Prop := CutP (iwpP P c61z5 (K61z5 P K s0 L1)) ([0] ++ [3]) ([s0] ++ xs) h
def p61z12 (s0 i3 x14 : Value) (L1 : LK) (h : Heap) : Prop := CutP (iwpP P c61z12 (K61z10 P K s0 L1)) [0, 3, 14] [s0, i3, x14] h
def p61z14 (s0 i3 x14 x18 : Value) (L1 : LK) (h : Heap) : Prop := CutP (iwpP P c61z14 (K61z10 P K s0 L1)) [0, 3, 14, 18] [s0, i3, x14, x18] h
theorem q61z14 (s0 i3 x14 x18 : Value) (L1 : LK) (h : Heap) : p61z14 P K s0 i3 x14 x18 L1 h =
 (OP (iPick x14 x18 (.bool false)) fun x19 =>
 IfP x19
 (K (.bool false) h)
 (OP (iBin .add i3 (.int .i64 (1))) fun x9 =>
 ([s0] : List Value) = [s0] ∧ L1 [x9] h)) := (CutP_def _ _ _ _).trans (by kernel_rfl)
theorem q61z12 (s0 i3 x14 : Value) (L1 : LK) (h : Heap) : p61z12 P K s0 i3 x14 L1 h =
 (GdP x14 true
 (OP (iIdxS s0 i3) fun x17 =>
 OP (iBin .neq x17 (.int .u8 (49))) fun x18 =>
 p61z14 P K s0 i3 x14 x18 L1 h)
 (p61z14 P K s0 i3 x14 undef L1 h)) := (CutP_def _ _ _ _).trans (by kernel_rfl)
theorem q61z5 (s0 : Value) (L1 : LK) (i3 : Value) (h : Heap) : p61z5 P K s0 L1 [i3] h =
 (OP (iLenS s0) fun x6 =>
 OP (iBin .lss i3 x6) fun x7 =>
 IfP x7
 (OP (iIdxS s0 i3) fun x12 =>
 OP (iBin .neq x12 (.int .u8 (48))) fun x13 =>
 p61z12 P K s0 i3 x13 L1 h)
 (K (.bool true) h)) := (CutP_def _ _ _ _).trans (by kernel_rfl)
def T61 (s0 : Value) (h : Heap) : Prop :=
 LoopP [(.int .i64 (0))] h fun L1 xs hx =>
 p61z5 P K s0 L1 xs hx
theorem e61 (s0 : Value) (h : Heap) : iwpP P c61 (bodyP [.tmp 2] K) (frame0 [s0]) h = T61 P K s0 h := by kernel_rfl
theorem f61 {K : VK} {s0 : Value} {h : Heap} (H : T61 Tryz.prog K s0 h) : CallP Tryz.prog 61 [s0] h K :=
 callP_intro k61 (Nat.le_of_ble_eq_true rfl) ((e61 Tryz.prog K s0 h).mpr H)
end Go.Proofs.YthplaillblmgfaaGreatDoor

namespace Go.Proofs.YthplaillblmgfaaGreatDoor
open Go.Sim

theorem mkW0 (h : Heap) : iMkSl 9 0 [(.string ⟨#[]⟩)] h [] = some (sl 9 h.length 0 0, h ++ [.arr 9 []]) := rfl

theorem bitsC {x0 l3 i4 : Value} {L1 : List Value → Heap → Prop} {K : Value → Heap → Prop} {g : Heap} (v0 : Nat) (h1 : 2 ≤ v0) (h2 : v0 ≤ 2047)
    (hk : ∀ s : Tx, s ≠ [] → s.length ≤ 10 → bitsB s = true → p8z23 Tryz.prog K x0 l3 i4 (S s) L1 g) : LoopP [I v0, (.string ⟨#[]⟩)] g fun L2 xs hx => p8z18 Tryz.prog K x0 l3 i4 L1 L2 xs hx := by
  refine loopL (σ := Nat × Tx) (fun q => [I q.1, S q.2]) (fun _ => g) (fun q => 1 ≤ q.1 ∧ q.1 * 2 ^ q.2.length ≤ 2047 ∧ bitsB q.2 = true ∧ (q.2 = [] → 2 ≤ q.1)) (fun q => q.1) (v0, []) rfl rfl ⟨by show 1 ≤ v0; omega, by simpa using h2, rfl, fun _ => h1⟩ ?_
  rintro ⟨v, s⟩ ⟨q1, q2, q3, q4⟩ L hL
  simp only at q1 q2 q3 q4 hL ⊢
  have sl : s.length ≤ 10 := by
    apply Classical.byContradiction
    intro hc
    have := Nat.pow_le_pow_right (n := 2) (by omega) (show 11 ≤ s.length by omega)
    have : v * 2 ^ 11 ≤ v * 2 ^ s.length := Nat.mul_le_mul_left _ this
    have : 1 * 2 ^ 11 ≤ v * 2 ^ 11 := Nat.mul_le_mul_right _ q1
    omega
  have vl : v ≤ 2047 := by
    have := Nat.mul_le_mul_left v (Nat.one_le_two_pow (n := s.length))
    omega
  rw [q8z18]
  simp only [bin_gtr, OP_some, IfP_dec]
  refine ⟨fun hgt => ?_, fun hle => ?_⟩
  · have hv2 : 2 ≤ v := by omega
    have w : IntKind.wrap .i64 (((v % 2 : Nat) : Int) + 1) = ((v % 2 + 1 : Nat) : Int) := by rw [wrap64 (by omega) (by omega)]; omega
    have rm : iBin .rem (I v) (.int .i64 (2)) = some (I ((v % 2 : Nat) : Int)) := rem_nat .i64 v 2 (by omega)
    have qo : iBin .quo (I v) (.int .i64 (2)) = some (I ((v / 2 : Nat) : Int)) := by
      have e : iBin .quo (I v) (I (2 : Nat)) = some (I (IntKind.wrap .i64 ((v : Int).tdiv ((2 : Nat) : Int)))) := by simp [iBin, iInt]
      have e3 : ((v : Int).tdiv ((2 : Nat) : Int)) = ((v / 2 : Nat) : Int) := Int.ofNat_tdiv v 2 |>.symm
      rw [e3, wrap64 (by omega) (by omega)] at e
      exact e
    have sx : iSlS (.string ⟨#[48, 49]⟩) (some (I ((v % 2 : Nat) : Int))) (some (I ((v % 2 + 1 : Nat) : Int))) = some (S [if v % 2 = 0 then 48 else 49]) := by
      rcases Nat.mod_two_eq_zero_or_one v with h | h <;> rw [h] <;> rfl
    simp only [rm, OP_some, bin_add, w, sx, bin_addS (a := [if v % 2 = 0 then 48 else 49]) (b := s) (by simp [maxLen]; omega), qo, true_and]
    refine hL (v / 2, [if v % 2 = 0 then 48 else 49] ++ s) ⟨by show 1 ≤ v / 2; omega, ?_, ?_, fun h => by simp at h⟩ (by show v / 2 < v; omega)
    · show v / 2 * 2 ^ (([if v % 2 = 0 then (48 : UInt8) else 49] ++ s).length) ≤ 2047
      rw [List.length_append, List.length_singleton, Nat.pow_add, ← Nat.mul_assoc]
      refine Nat.le_trans (Nat.mul_le_mul_right _ ?_) q2
      omega
    · show bitsB ([if v % 2 = 0 then (48 : UInt8) else 49] ++ s) = true
      refine bits_app ?_ q3
      split <;> rfl
  · have : v = 1 := by omega
    refine hk s (fun h => by have := q4 h; omega) sl q3

theorem own_len9 {b : Nat} {g : Heap} {v : Value} {ls : List Tx} (own : OwnS b g 9 v (ls.map S)) : iLenSl v = some (I ls.length) := (own_ss own).len

theorem knownC {x0 l3 i4 : Value} {L1 : List Value → Heap → Prop} {K : Value → Heap → Prop} {g : Heap} {ls : List Tx} {s : Tx} (hv : SS g l3 ls) (hl : ls.length ≤ 12)
    (hk : p8z37 Tryz.prog K x0 l3 i4 (S s) (B (decide (s ∈ ls))) L1 g) : p8z23 Tryz.prog K x0 l3 i4 (S s) L1 g := by
  rw [q8z23]
  refine loopL (σ := Nat) (fun k => [B (decide (s ∈ ls.take k)), I k]) (fun _ => g) (fun k => k ≤ ls.length) (fun k => ls.length - k) 0 (by simp) rfl (Nat.zero_le _) ?_
  intro k hk2 L hL
  rw [q8z28]
  simp only [hv.len, OP_some, bin_lss, IfP_dec]
  refine ⟨fun hlt => ?_, fun hge => ?_⟩
  · have hlt : k < ls.length := by omega
    obtain ⟨b, o, a1, a2⟩ := hv.get k hlt
    have key : decide (s ∈ ls.take (k + 1)) = (decide (s ∈ ls.take k) || decide (ls[k] = s)) := by
      rw [List.take_succ_eq_append_getElem hlt, ← Bool.decide_or]
      exact decide_eq_decide.2 (by rw [List.mem_append, List.mem_singleton, eq_comm (a := s)])
    have nx := hL (k + 1) hlt (by omega)
    rw [key] at nx
    rw [q8z34]
    cases hb : decide (s ∈ ls.take k) with
    | true =>
      rw [hb] at nx
      simp only [GdP_tf, q8z36, iPick_t, OP_some, bin_add, incM k (show k < maxLen by simp [maxLen]; omega), true_and]
      exact nx
    | false =>
      rw [hb] at nx
      simp only [GdP_ff, a1, a2, OP_some, bin_eqlS, q8z36, iPick_f, bin_add, incM k (show k < maxLen by simp [maxLen]; omega), true_and]
      exact nx
  · have : k = ls.length := by omega
    subst this
    rw [List.take_length]
    exact hk

structure Ok' (W : List Tx) : Prop where
  nd : W.Nodup
  all : ∀ w ∈ W, w ≠ [] ∧ w.length ≤ 10 ∧ bitsB w = true

theorem C8 {v : Value} {ns : List Int} {h : Heap} {K : Value → Heap → Prop} (hv : INS h 73 .u16 v ns) (hnl : ns.length ≤ maxLen) (hns : ∀ x ∈ ns, 0 ≤ x ∧ x < 65536) (hk : ∀ W u h', Ok W → W ≠ [] → EX h h' → OwnS h.length h' 9 u (W.map S) → K u h') : CallP Tryz.prog 8 [v] h K := by
  refine f8 ?_
  unfold T8
  simp only [mkW0, OH_some]
  have fin : ∀ {vo : Value} {g : Heap} {ls : List Tx}, EX h g → OwnS h.length g 9 vo (ls.map S) → Ok' ls → ls.length ≤ 12 → p8z40 Tryz.prog K vo g := by
    intro vo g ls xg own ok hl
    rw [q8z40]
    simp only [own_len9 own, OP_some, bin_eql, IfP_dec]
    refine ⟨fun h0 => ?_, fun h0 => ?_⟩
    · have : ls = [] := List.length_eq_zero_iff.1 (by omega)
      subst this
      refine app1 own xg (by simp) (by simp [maxLen]) rfl rfl ?_
      intro v' g' x' own'
      rw [q8z43]
      refine hk [[48]] v' g' ⟨by simp, fun w hw => ?_, fun w hw => ?_, fun w hw => ?_, by simp⟩ (by simp) x' own'
      all_goals rw [List.mem_singleton.1 hw]
      · simp
      · simp
      · rfl
    · rw [q8z43]
      exact hk ls vo g ⟨ok.nd, fun w hw => (ok.all w hw).1, fun w hw => (ok.all w hw).2.1, fun w hw => (ok.all w hw).2.2, hl⟩ (by rintro rfl; simp at h0) xg own
  refine loopL (σ := Nat × List Tx × Value × Heap) (fun q => [q.2.2.1, I q.1]) (fun q => q.2.2.2) (fun q => q.1 ≤ ns.length ∧ q.2.1.length ≤ 12 ∧ Ok' q.2.1 ∧ EX h q.2.2.2 ∧ OwnS h.length q.2.2.2 9 q.2.2.1 (q.2.1.map S)) (fun q => ns.length - q.1)
    (0, [], sl 9 h.length 0 0, h ++ [.arr 9 []]) rfl rfl ⟨Nat.zero_le _, Nat.zero_le _, ⟨List.nodup_nil, fun w hw => by simp at hw⟩, EX.append _ _, .inr ⟨h.length, Nat.le_refl _, rfl, get_last⟩⟩ ?_
  rintro ⟨i, ls, vo, g⟩ ⟨hi, hl, ok, xg, own⟩ L hL
  simp only at hi hl ok xg own hL ⊢
  have hv' : INS g 73 .u16 v ns := IS.mono xg hv
  have hvl : iLenSl v = some (I ns.length) := IS.len hv'
  rw [q8z6]
  simp only [hvl, OP_some, bin_lss]
  rw [q8z10]
  by_cases h1 : i < ns.length
  · rw [decide_eq_true (show (i : Int) < ns.length by omega)]
    simp only [GdP_tt, own_len9 own, OP_some, bin_lss]
    rw [q8z12]
    by_cases h2 : ls.length < 12
    · obtain ⟨b, o, g1, g2⟩ := INS.at hv' h1
      have hx := hns _ (List.getElem_mem h1)
      obtain ⟨m, hm⟩ : ∃ m : Nat, ns[i] = (m : Int) := ⟨ns[i].toNat, by omega⟩
      rw [hm] at g2 hx
      have cx : iConv .i64 (.int .u16 (m : Int)) = some (I m) := by rw [conv_int, wrap64 (by omega) (by omega)]
      have rm : iBin .rem (I m) (.int .i64 2046) = some (I ((m % 2046 : Nat) : Int)) := rem_nat .i64 m 2046 (by omega)
      have w : IntKind.wrap .i64 (((m % 2046 : Nat) : Int) + 2) = ((m % 2046 + 2 : Nat) : Int) := by rw [wrap64 (by omega) (by omega)]; omega
      rw [decide_eq_true (show (ls.length : Int) < 12 by omega)]
      simp only [iPick_t, OP_some, IfP_true, g1, g2, cx, rm, bin_add, w]
      refine bitsC _ (by omega) (by omega) ?_
      intro s s1 s2 s3
      refine knownC (own_ss own) hl ?_
      rw [q8z37]
      have w3 : IntKind.wrap .i64 ((i : Int) + 1) = ((i + 1 : Nat) : Int) := incM i (by omega)
      simp only [un_not, OP_some, IfP_ndec]
      refine ⟨fun hni => ?_, fun hin => ?_⟩
      · refine app1 own xg (by simp; omega) (by simp [maxLen]; omega) rfl rfl ?_
        intro v' g' x' own'
        rw [q8z39]
        simp only [bin_add, OP_some, w3, true_and]
        refine hL (i + 1, ls ++ [s], v', g') ⟨by show i + 1 ≤ _; omega, by show (ls ++ [s]).length ≤ 12; simp; omega, ⟨List.nodup_append.2 ⟨ok.nd, by simp, fun a ha b hb e => hni (by rw [← List.mem_singleton.1 hb, ← e]; exact ha)⟩, fun w hw => ?_⟩, x', ?_⟩ (by show ns.length - (i + 1) < ns.length - i; omega)
        · rcases List.mem_append.1 hw with hw | hw
          · exact ok.all w hw
          · rw [List.mem_singleton.1 hw]; exact ⟨s1, s2, s3⟩
        · show OwnS h.length g' 9 v' ((ls ++ [s]).map S)
          rw [List.map_append]
          exact own'
      · rw [q8z39]
        simp only [bin_add, OP_some, w3, true_and]
        exact hL (i + 1, ls, vo, g) ⟨by show i + 1 ≤ _; omega, hl, ok, xg, own⟩ (by show ns.length - (i + 1) < ns.length - i; omega)
    · rw [decide_eq_false (show ¬ (ls.length : Int) < 12 by omega)]
      simp only [iPick_t, OP_some, IfP_false]
      exact fin xg own ok hl
  · rw [decide_eq_false (show ¬ (i : Int) < ns.length by omega)]
    simp only [GdP_ft]
    rw [q8z12]
    simp only [iPick_f, OP_some, IfP_false]
    exact fin xg own ok hl

end Go.Proofs.YthplaillblmgfaaGreatDoor


namespace Go.Proofs.YthplaillblmgfaaGreatDoor
open Go.Sim

theorem mk0 (g : Heap) : iMkSl 3 0 [(.int .i64 (0))] g [] = some (sl 3 g.length 0 0, g ++ [.arr 3 []]) := rfl
theorem mk1 (g : Heap) (x : Int) : iMkSl 3 1 [(.int .i64 (0))] g [(0, 1, I x)] = some (sl 3 g.length 0 1, g ++ [.arr 3 [I x]]) := rfl
end Go.Proofs.YthplaillblmgfaaGreatDoor


namespace Go.Proofs.YthplaillblmgfaaGreatDoor
open Go.Sim

def NoBeg (W : List Tx) : Prop := ∀ i j (hi : i < W.length) (hj : j < W.length), i ≠ j → ¬ W[i] <+: W[j]
structure Fst (W : List Tx) (i j : Nat) : Prop where
  hi : i < W.length
  hj : j < W.length
  ne : i ≠ j
  pre : W[i] <+: W[j]
  fst : ∀ i' j' (hi' : i' < W.length) (hj' : j' < W.length), i' ≠ j' → W[i'] <+: W[j'] → i < i' ∨ i = i' ∧ j ≤ j'

theorem Fst.no {W : List Tx} {i j : Nat} (a : Fst W i j) (n : NoBeg W) : False := n i j a.hi a.hj a.ne a.pre

theorem mkI2 (g : Heap) (i j : Nat) : iMkSl 3 2 [(.int .i64 (0))] g [(0, 1, I i), (1, 1, I j)] = some (sl 3 g.length 0 2, g ++ [.arr 3 [I i, I j]]) := by
  have va : ∀ n : Int, vcells (I n) = [I n] := fun _ => rfl
  have na : ∀ n : Int, noTuple (I n) = true := fun _ => rfl
  simp [iMkSl, fillL, zrep, setAt, va, na]

theorem own_two {h g : Heap} (x : EX h g) (i j : Nat) : EX h (g ++ [.arr 3 [I i, I j]]) ∧ OwnS h.length (g ++ [.arr 3 [I i, I j]]) 3 (sl 3 g.length 0 2) [I i, I j] :=
  ⟨x.trans (EX.append _ _), .inr ⟨g.length, x.1, rfl, get_last⟩⟩

theorem C31 {b : Nat} {v : Value} {W : List Tx} {h : Heap} {K : Value → Heap → Prop} (hv : OwnS b h 9 v (W.map S)) (hl : W.length ≤ 1000) (hw : ∀ w ∈ W, w.length < 4611686018427387904)
    (he : chkE W [] ≠ 0 → ∀ h', EX h h' → K (.tuple #[.slice none 0 0, I (chkE W [])]) h')
    (hno : chkE W [] = 0 → NoBeg W → ∀ h', EX h h' → K (.tuple #[.slice none 0 0, I 5]) h')
    (hyes : chkE W [] = 0 → ∀ i j, Fst W i j → ∀ u h', EX h h' → OwnS h.length h' 3 u [I i, I j] → K (.tuple #[u, I 0]) h') : CallP Tryz.prog 31 [v] h K := by
  refine f31 ?_
  unfold T31
  have nilS : (.string ⟨#[]⟩ : Value) = S [] := rfl
  rw [nilS]
  refine C40 (s := []) hv (by omega) hw (by simp) ?_
  intro g x
  simp only [bin_neq, OP_some, IfP_ndec]
  refine ⟨fun hc => he hc g x, fun hc => ?_⟩
  have hno := hno hc
  have hyes := hyes hc
  have hs := (own_ss hv).mono x
  simp only [hs.len, OP_some]
  refine loopL (σ := Nat) (fun i => [I i]) (fun _ => g) (fun i => i ≤ W.length ∧ ∀ i' j' (hi' : i' < W.length) (hj' : j' < W.length), i' < i → i' ≠ j' → ¬ W[i'] <+: W[j']) (fun i => W.length - i) 0 rfl rfl ⟨Nat.zero_le _, fun _ _ _ _ hi => absurd hi (Nat.not_lt_zero _)⟩ ?_
  rintro i ⟨hi, n1⟩ L hL
  rw [q31z9]
  simp only [bin_lss, OP_some, IfP_dec]
  refine ⟨fun hlt => ?_, fun hge => hno (fun i' j' hi' hj' hne => n1 i' j' hi' hj' (by omega) hne) g x⟩
  have hlt : i < W.length := by omega
  obtain ⟨b1, o1, a1, a2⟩ := hs.get i hlt
  simp only [a1, a2, OP_some, hs.len]
  refine loopL (σ := Nat) (fun i => [I i]) (fun _ => g) (fun j => j ≤ W.length ∧ ∀ j' (hj' : j' < W.length), j' < j → i ≠ j' → ¬ W[i] <+: W[j']) (fun j => W.length - j) 0 rfl rfl ⟨Nat.zero_le _, fun _ _ hi => absurd hi (Nat.not_lt_zero _)⟩ ?_
  rintro j ⟨hj, n2⟩ L2 hL2
  rw [q31z17]
  simp only [OP_some, bin_lss, IfP_dec]
  refine ⟨fun hlt2 => ?_, fun hge => ?_⟩
  · have hlt2 : j < W.length := by omega
    have next : ¬ (i ≠ j ∧ W[i] <+: W[j]) → L2 [I ((j + 1 : Nat) : Int)] g := fun hc => hL2 (j + 1) ⟨hlt2, fun j' hj' hlt' hne hp => by
      rcases Nat.lt_succ_iff_lt_or_eq.1 hlt' with h' | h'
      · exact n2 j' hj' h' hne hp
      · subst h'; exact hc ⟨hne, hp⟩⟩ (by omega)
    have w := incM j (show j < maxLen by simp [maxLen]; omega)
    obtain ⟨b', o', a3, a4⟩ := hs.get j hlt2
    simp only [bin_neq, OP_some, a3, a4]
    rw [q31z25]
    by_cases hij : i = j
    · rw [decide_eq_true (show (i : Int) = j by omega)]
      simp only [Bool.not_true, GdP_ft, q31z27, iPick_f, OP_some, IfP_false, bin_add, w, true_and]
      exact next fun hc => hc.1 hij
    · rw [decide_eq_false (show ¬ (i : Int) = j by omega)]
      simp only [Bool.not_false, GdP_tt]
      refine C43 ?_
      rw [q31z27]
      simp only [true_and, iPick_t, OP_some, IfP_dec, bin_add, w, mkI2, OH_some]
      refine ⟨fun hp => ?_, fun hp => next fun hc => hp hc.2⟩
      obtain ⟨x', own⟩ := own_two x i j
      refine hyes i j ⟨hlt, hlt2, hij, hp, fun i' j' hi' hj' hne hp' => ?_⟩ _ _ x' own
      rcases Nat.lt_trichotomy i' i with h' | h' | h'
      · exact absurd hp' (n1 i' j' hi' hj' h' hne)
      · subst h'
        refine .inr ⟨rfl, ?_⟩
        apply Classical.byContradiction
        intro hc
        exact n2 j' hj' (by omega) hne hp'
      · exact .inl h'
  · rw [q31z29]
    simp only [bin_add, OP_some, incM i (show i < maxLen by simp [maxLen]; omega), true_and]
    refine hL (i + 1) ⟨hlt, fun i' j' hi' hj' hlt' hne => ?_⟩ (by omega)
    rcases Nat.lt_succ_iff_lt_or_eq.1 hlt' with h' | h'
    · exact n1 i' j' hi' hj' h' hne
    · subst h'; exact n2 j' hj' (by omega) hne

theorem C28 {v : Value} {W : List Tx} {h : Heap} {K : Value → Heap → Prop} (hv : SS h v W) (hl : W.length ≤ 1000) (hk : ∀ u h', EX h h' → OwnS h.length h' 3 u ((W.map List.length).map fun n : Nat => I n) → K u h') : CallP Tryz.prog 28 [v] h K := by
  refine f28 ?_
  unfold T28
  simp only [mk0, OH_some]
  refine loopL (σ := Nat × Value × Heap) (fun q => [q.2.1, I q.1]) (fun q => q.2.2) (fun q => q.1 ≤ W.length ∧ EX h q.2.2 ∧ OwnS h.length q.2.2 3 q.2.1 (((W.take q.1).map List.length).map fun n : Nat => I n)) (fun q => W.length - q.1)
    (0, sl 3 h.length 0 0, h ++ [.arr 3 []]) rfl rfl ⟨Nat.zero_le _, EX.append _ _, .inr ⟨h.length, Nat.le_refl _, rfl, get_last⟩⟩ ?_
  rintro ⟨i, vo, g⟩ ⟨hi, xg, own⟩ L hL
  simp only at hi xg own hL ⊢
  have hs := hv.mono xg
  rw [q28z6]
  simp only [hs.len, OP_some, bin_lss, IfP_dec]
  refine ⟨fun hlt => ?_, fun hge => ?_⟩
  · have hlt : i < W.length := by omega
    obtain ⟨b, o, a1, a2⟩ := hs.get i hlt
    simp only [a1, a2, OP_some, lenS_S]
    refine app1 own xg (by simp; omega) (by simp [maxLen]; omega) rfl rfl ?_
    intro v' g' x' own'
    simp only [bin_add, OP_some, incM i (show i < maxLen by simp [maxLen]; omega), true_and]
    refine hL (i + 1, v', g') ⟨hlt, x', ?_⟩ (by show W.length - (i + 1) < W.length - i; omega)
    show OwnS h.length g' 3 v' (((W.take (i + 1)).map List.length).map fun n : Nat => I n)
    rw [List.take_succ_eq_append_getElem hlt, List.map_append, List.map_append]
    exact own'
  · have : i = W.length := by omega
    subst this
    rw [List.take_length] at own
    rw [q28z11]
    exact hk vo g xg own

theorem C61 {s : Tx} {h : Heap} {K : Value → Heap → Prop} (hl : s.length < 4611686018427387904) (hk : K (B (bitsB s)) h) : CallP Tryz.prog 61 [S s] h K := by
  refine f61 ?_
  unfold T61
  refine loopL (σ := Nat) (fun i => [I i]) (fun _ => h) (fun i => i ≤ s.length ∧ bitsB (s.take i) = true) (fun i => s.length - i) 0 rfl rfl ⟨Nat.zero_le _, rfl⟩ ?_
  rintro i ⟨hi, hb⟩ L hL
  rw [q61z5]
  simp only [lenS_S, OP_some, bin_lss, IfP_dec]
  refine ⟨fun hlt => ?_, fun hge => ?_⟩
  · have hlt : i < s.length := by omega
    have bad : isBit s[i] = false → K (B false) h := fun hc => by
      have : bitsB s = false := by
        rw [bitsB, List.all_eq_false]
        exact ⟨s[i], List.getElem_mem hlt, by simp [hc]⟩
      rwa [this] at hk
    have next : isBit s[i] = true → L [I ((i + 1 : Nat) : Int)] h := fun hc => hL (i + 1) ⟨hlt, by
      rw [List.take_succ_eq_append_getElem hlt]
      exact bits_app hb (by simp [bitsB, hc])⟩ (by omega)
    have w := incM i (show i < maxLen by simp [maxLen]; omega)
    have c48 : iBin .neq (cv s[i]) (.int .u8 (48)) = some (B (!decide (s[i] = 48))) := by
      have := bin_neq (k := .u8) (a := (s[i].toNat : Int)) (b := ((48 : UInt8).toNat : Int))
      rw [decide_eq_decide.2 (cv_inj s[i] 48)] at this
      exact this
    have c49 : iBin .neq (cv s[i]) (.int .u8 (49)) = some (B (!decide (s[i] = 49))) := by
      have := bin_neq (k := .u8) (a := (s[i].toNat : Int)) (b := ((49 : UInt8).toNat : Int))
      rw [decide_eq_decide.2 (cv_inj s[i] 49)] at this
      exact this
    simp only [idxS_S (a := s) hlt .i64, OP_some, c48]
    rw [q61z12]
    by_cases e1 : s[i] = 48
    · simp only [decide_eq_true e1, Bool.not_true, GdP_ft, q61z14, iPick_f, OP_some, IfP_false, bin_add, w, true_and]
      exact next (by rw [e1]; rfl)
    · simp only [decide_eq_false e1, Bool.not_false, GdP_tt, idxS_S (a := s) hlt .i64, OP_some, c49, q61z14, iPick_t, IfP_ndec, bin_add, w, true_and]
      refine ⟨fun e2 => bad ?_, fun e2 => next (by rw [e2]; rfl)⟩
      simp [isBit, e1, e2]
  · have : i = s.length := by omega
    subst this
    rw [List.take_length] at hb
    rwa [hb] at hk

theorem C30 {v : Value} {W : List Tx} {h : Heap} {K : Value → Heap → Prop} (hv : SS h v W) (hl : W.length ≤ 1000) (hw : ∀ w ∈ W, w.length < 4611686018427387904) (hk : K (I (chkE W [])) h) : CallP Tryz.prog 30 [v] h K := by
  refine f30 ?_
  unfold T30
  simp only [hv.len, OP_some, bin_gtr, IfP_dec]
  have b0 : bitsB [] = true := rfl
  refine ⟨fun h1 => ?_, fun h1 => ?_⟩
  · rw [chkE, if_pos (.inl (by omega))] at hk
    exact hk
  rw [chkE, if_neg (by simp; omega)] at hk
  have bad : ¬ codeOk W → K (I 2) h := fun hc => by
    split at hk
    · exact hk
    · first | exact hk | rwa [if_neg hc] at hk
  refine loopL (σ := Nat) (fun i => [I i]) (fun _ => h) (fun i => i ≤ W.length ∧ ∀ j (hj : j < W.length), j < i → (W[j] ≠ [] ∧ W[j].length ≤ 10 ∧ bitsB W[j] = true) ∧ W[j] ∉ W.take j) (fun i => W.length - i) 0 rfl rfl ⟨Nat.zero_le _, fun _ _ hi => absurd hi (Nat.not_lt_zero _)⟩ ?_
  rintro i ⟨hi, hok⟩ L hL
  rw [q30z8]
  simp only [hv.len, OP_some, bin_lss, IfP_dec]
  refine ⟨fun hlt => ?_, fun hge => ?_⟩
  · have hlt : i < W.length := by omega
    obtain ⟨b, o, a1, a2⟩ := hv.get i hlt
    have mem : W[i] ∈ W := List.getElem_mem hlt
    simp only [a1, a2, OP_some, lenS_S]
    refine C71 ?_
    simp only [un_not, OP_some]
    rw [q30z16]
    by_cases h2 : (1 ≤ W[i].length ∧ W[i].length ≤ 10)
    · rw [decide_eq_true (show (1 : Int) ≤ W[i].length by omega), decide_eq_true (show (W[i].length : Int) ≤ 10 by omega)]
      simp only [Bool.and_true, Bool.not_true, GdP_ff, a1, a2, OP_some]
      refine C61 (hw _ mem) ?_
      simp only [un_not, OP_some]
      rw [q30z18]
      simp only [iPick_f, OP_some]
      cases hb : bitsB W[i] with
      | false =>
        simp only [Bool.not_false, IfP_true]
        exact bad fun hc => by rw [(hc.2 _ mem).2.2] at hb; cases hb
      | true =>
        simp only [Bool.not_true, IfP_false]
        refine loopL (σ := Nat) (fun i => [I i]) (fun _ => h) (fun k => k ≤ i ∧ W[i] ∉ W.take k) (fun k => i - k) 0 rfl rfl ⟨Nat.zero_le _, by simp⟩ ?_
        rintro k ⟨hki, hni⟩ L2 hL2
        rw [q30z22]
        simp only [bin_lss, OP_some, IfP_dec]
        refine ⟨fun hlt2 => ?_, fun hge => ?_⟩
        · have hk2 : k < i := by omega
          obtain ⟨b', o', a3, a4⟩ := hv.get k (by omega)
          simp only [a1, a2, a3, a4, OP_some, true_and, bin_eqlS, IfP_dec, bin_add, incM k (show k < maxLen by simp [maxLen]; omega)]
          refine ⟨fun he => bad fun hc => ?_, fun hne => hL2 (k + 1) ⟨hk2, fun hm => ?_⟩ (by omega)⟩
          · exact (List.pairwise_iff_getElem.1 hc.1) k i (by omega) hlt hk2 he.symm
          · rw [List.take_succ_eq_append_getElem (by omega : k < W.length), List.mem_append, List.mem_singleton] at hm
            exact hm.elim hni hne
        · rw [q30z29]
          simp only [bin_add, OP_some, incM i (show i < maxLen by simp [maxLen]; omega), true_and]
          refine hL (i + 1) ⟨hlt, fun j hj hji => ?_⟩ (by omega)
          rcases Nat.lt_succ_iff_lt_or_eq.1 hji with h' | h'
          · exact hok j hj h'
          · subst h'
            have : k = j := by omega
            subst this
            exact ⟨⟨by intro e; rw [e] at h2; simp at h2, h2.2, hb⟩, hni⟩
    · have e : (decide ((1 : Int) ≤ W[i].length) && decide ((W[i].length : Int) ≤ 10)) = false := by
        rw [Bool.and_eq_false_iff, decide_eq_false_iff_not, decide_eq_false_iff_not]; omega
      rw [e]
      simp only [Bool.not_false, GdP_tf, q30z18, iPick_t, OP_some, IfP_true]
      refine bad fun hc => h2 ⟨?_, (hc.2 _ mem).2.1⟩
      have := List.length_pos_iff.2 (hc.2 _ mem).1
      omega
  · have ok : codeOk W := ⟨List.pairwise_iff_getElem.2 fun a b ha hb hab e => (hok b hb (by omega)).2 (e ▸ List.mem_take_iff_getElem.2 ⟨a, by omega, rfl⟩), fun w hw => by
      obtain ⟨j, hj, rfl⟩ := List.getElem_of_mem hw
      exact (hok j hj (by omega)).1⟩
    rw [q30z30]
    simp only [hv.len, OP_some, bin_eql, IfP_dec]
    refine ⟨fun h0 => ?_, fun h0 => ?_⟩
    · rw [if_pos (.inl (List.length_eq_zero_iff.1 (by omega)))] at hk
      exact hk
    · rw [if_neg, if_pos ok] at hk
      · exact hk
      · rintro (e | e)
        · rw [e] at h0; simp at h0
        · rw [b0] at e; cases e

end Go.Proofs.YthplaillblmgfaaGreatDoor


namespace Go.Proofs.YthplaillblmgfaaGreatDoor
open Go.Sim

theorem rmN_pow {l : Nat} (h : l ≤ 10) : rmN l = 2 ^ (10 - l) := by
  have : l = 0 ∨ l = 1 ∨ l = 2 ∨ l = 3 ∨ l = 4 ∨ l = 5 ∨ l = 6 ∨ l = 7 ∨ l = 8 ∨ l = 9 ∨ l = 10 := by omega
  rcases this with rfl | rfl | rfl | rfl | rfl | rfl | rfl | rfl | rfl | rfl | rfl <;> rfl

def plc (N : Nat) (w : Tx) : Nat := vl 0 w * 2 ^ (N - w.length)

theorem vl_add : ∀ (t : Tx) (n : Nat), vl n t = n * 2 ^ t.length + vl 0 t
  | [], n => by simp [vl]
  | c :: t, n => by
    have h1 : vl n (c :: t) = vl (2 * n + (if c = 49 then 1 else 0)) t := rfl
    have h2 : vl 0 (c :: t) = vl (2 * 0 + (if c = 49 then 1 else 0)) t := rfl
    rw [h1, h2, vl_add t, vl_add t (2 * 0 + _), List.length_cons, Nat.pow_succ, Nat.add_mul, Nat.mul_comm (2 ^ t.length) 2, ← Nat.mul_assoc, Nat.mul_comm n 2]
    simp only [Nat.mul_zero, Nat.zero_add]
    omega

theorem plc_cons {N : Nat} {c : UInt8} {w : Tx} (h : w.length ≤ N) : plc (N + 1) (c :: w) = (if c = 49 then 2 ^ N else 0) + plc N w := by
  have h2 : vl 0 (c :: w) = vl (2 * 0 + (if c = 49 then 1 else 0)) w := rfl
  unfold plc
  rw [h2, vl_add, List.length_cons, Nat.add_sub_add_right, Nat.add_mul, Nat.mul_assoc, ← Nat.pow_add, Nat.add_sub_of_le h]
  split <;> simp

theorem plc_lt {N : Nat} {w : Tx} (h : w.length ≤ N) : plc N w + 2 ^ (N - w.length) ≤ 2 ^ N := by
  have := (vl_bounds w 0).2
  have e : 2 ^ N = 2 ^ w.length * 2 ^ (N - w.length) := by rw [← Nat.pow_add, Nat.add_sub_of_le h]
  unfold plc
  rw [e, ← Nat.succ_mul]
  exact Nat.mul_le_mul_right _ (by omega)

theorem ord_B : ∀ {N : Nat} {v w : Tx}, v.length ≤ N → w.length ≤ N → bitsB v = true → bitsB w = true → plc N v + 2 ^ (N - v.length) ≤ plc N w → Op.bytesLess v w = true ∧ ¬ v <+: w ∧ ¬ w <+: v
  | N, [], w, _, hw, _, _, h => by
    have := plc_lt hw
    have e : plc N [] = 0 := by simp [plc, vl]
    have := Nat.pow_pos (n := N - w.length) (show 0 < 2 by omega)
    rw [e] at h
    simp only [List.length_nil, Nat.sub_zero] at h
    omega
  | N, c :: v, [], _, _, _, _, h => by
    have e : plc N [] = 0 := by simp [plc, vl]
    have := Nat.pow_pos (n := N - (c :: v).length) (show 0 < 2 by omega)
    omega
  | 0, _ :: _, _, h, _, _, _, _ => by simp at h
  | N + 1, c :: v, d :: w, hv, hw, bv, bw, h => by
    simp only [List.length_cons, Nat.add_le_add_iff_right] at hv hw
    simp only [bitsB, List.all_cons, Bool.and_eq_true] at bv bw
    rw [plc_cons hv, plc_cons hw, List.length_cons, Nat.add_sub_add_right] at h
    have h1 := plc_lt hv
    have h2 := plc_lt hw
    have h3 := Nat.pow_pos (n := N - v.length) (show 0 < 2 by omega)
    have h4 := Nat.pow_pos (n := N - w.length) (show 0 < 2 by omega)
    simp only [Op.bytesLess, Bool.or_eq_true, Bool.and_eq_true, decide_eq_true_eq, beq_iff_eq, List.cons_prefix_cons]
    rcases isBit_or bv.1 with rfl | rfl <;> rcases isBit_or bw.1 with rfl | rfl
    · rw [if_neg (by decide)] at h
      obtain ⟨a, b, c⟩ := ord_B hv hw bv.2 bw.2 (by omega)
      exact ⟨.inr ⟨rfl, a⟩, fun q => b q.2, fun q => c q.2⟩
    · exact ⟨.inl (by decide), fun q => absurd q.1 (by decide), fun q => absurd q.1 (by decide)⟩
    · rw [if_pos rfl, if_neg (by decide)] at h
      omega
    · rw [if_pos rfl] at h
      obtain ⟨a, b, c⟩ := ord_B hv hw bv.2 bw.2 (by omega)
      exact ⟨.inr ⟨rfl, a⟩, fun q => b q.2, fun q => c q.2⟩

theorem vl_snoc (n : Nat) (t : Tx) (c : UInt8) : vl n (t ++ [c]) = 2 * vl n t + (if c = 49 then 1 else 0) := by simp [vl, List.foldl_append]

theorem vl_wrd {a : Nat} (ha : a < 1024) : ∀ l, l ≤ 10 → vl 0 (wrd a l) = a / 2 ^ (10 - l)
  | 0, _ => by simp [wrd, vl]; omega
  | l + 1, h => by
    have e : wrd a (l + 1) = wrd a l ++ [if a.testBit (9 - l) then 49 else 48] := by simp [wrd, List.range_succ]
    rw [e, vl_snoc, vl_wrd ha l (by omega), Nat.testBit_eq_decide_div_mod_eq, show 10 - (l + 1) = 9 - l by omega, show 10 - l = (9 - l) + 1 by omega, Nat.pow_succ, ← Nat.div_div_eq_div_mul]
    have : a / 2 ^ (9 - l) % 2 = 0 ∨ a / 2 ^ (9 - l) % 2 = 1 := by omega
    rcases this with h | h <;> rw [h] <;> simp <;> omega

theorem wrd_bits (a l : Nat) : bitsB (wrd a l) = true := by
  simp only [bitsB, wrd, List.all_map, List.all_eq_true, Function.comp_apply]
  intro i _
  split <;> rfl

theorem plc_wrd {k l : Nat} (h : l ≤ 10) (ha : k * rmN l < 1024) : plc 10 (wrd (k * rmN l) l) = k * rmN l := by
  unfold plc
  rw [vl_wrd ha l h, wrd_len, rmN_pow h]
  rw [Nat.mul_div_cancel _ (Nat.pow_pos (by omega))]

def Ahead (v w : Tx) : Prop := plc 10 v + 2 ^ (10 - v.length) ≤ plc 10 w

end Go.Proofs.YthplaillblmgfaaGreatDoor


namespace Go.Proofs.YthplaillblmgfaaGreatDoor
open Go.Sim

theorem offF_mono {n i n' i' : Nat} (h : n < n' ∨ (n = n' ∧ i ≤ i')) : ∀ {ls : List Nat} {k : Nat}, offF n i ls k ≤ offF n' i' ls k
  | [], _ => Nat.le_refl _
  | l :: ls, k => by
    have ih := offF_mono h (ls := ls) (k := k + 1)
    simp only [offF]
    by_cases c : l < n ∨ (l = n ∧ k < i)
    · rw [if_pos c, if_pos (show l < n' ∨ (l = n' ∧ k < i') by omega)]
      omega
    · rw [if_neg c]
      omega

theorem plainW_get {ls : List Nat} (hok : lenOk ls) {j : Nat} (hj : j < ls.length) : (plainW ls)[j]'(by unfold plainW; rw [outW_len]; exact hj) = wrd (offF ls[j] j ls 0) ls[j] := by
  have h1 := hok _ (List.getElem_mem hj)
  have e : ls.getD j 0 = ls[j] := by simp [hj]
  simp only [plainW, outW, List.getElem_map, List.getElem_range, e]
  rw [if_pos (.inl (by omega))]

theorem plain_plc {ls : List Nat} (hok : lenOk ls) (hs : (ls.map rmN).sum ≤ 1024) {j : Nat} (hj : j < ls.length) : offF ls[j] j ls 0 + rmN ls[j] ≤ 1024 ∧ plc 10 (wrd (offF ls[j] j ls 0) ls[j]) = offF ls[j] j ls 0 := by
  have h1 := hok _ (List.getElem_mem hj)
  have st := offF_step (n := ls[j]) (ls := ls) (i := j) (k := 0) (Nat.zero_le _) (by simpa using hj)
  simp only [Nat.sub_zero, if_true] at st
  have le := offF_le (ls := ls) (n := ls[j]) (i := j + 1) (k := 0)
  have rp := rmN_range h1.1 h1.2
  have bd : offF ls[j] j ls 0 + rmN ls[j] ≤ 1024 := by omega
  obtain ⟨q, hq⟩ := offF_dvd (n := ls[j]) (i := j) (k := 0) hok h1.2
  refine ⟨bd, ?_⟩
  rw [hq, Nat.mul_comm]
  refine plc_wrd h1.2 ?_
  rw [Nat.mul_comm, ← hq]
  omega

theorem plain_ahead {ls : List Nat} (hok : lenOk ls) (hs : (ls.map rmN).sum ≤ 1024) {j k : Nat} (hj : j < ls.length) (hk : k < ls.length) (h : ls[j] < ls[k] ∨ (ls[j] = ls[k] ∧ j < k)) : Ahead (wrd (offF ls[j] j ls 0) ls[j]) (wrd (offF ls[k] k ls 0) ls[k]) := by
  have h1 := hok _ (List.getElem_mem hj)
  have st := offF_step (n := ls[j]) (ls := ls) (i := j) (k := 0) (Nat.zero_le _) (by simpa using hj)
  simp only [Nat.sub_zero, if_true] at st
  have mono := offF_mono (n := ls[j]) (i := j + 1) (n' := ls[k]) (i' := k) (by omega) (ls := ls) (k := 0)
  unfold Ahead
  rw [(plain_plc hok hs hj).2, (plain_plc hok hs hk).2, wrd_len, ← rmN_pow h1.2]
  omega

theorem plain_ok {ls : List Nat} (hok : lenOk ls) (hl : ls.length ≤ 12) (hs : (ls.map rmN).sum ≤ 1024) : Ok (plainW ls) ∧ NoBeg (plainW ls) ∧ (plainW ls).map List.length = ls := by
  have len : (plainW ls).length = ls.length := by unfold plainW; rw [outW_len]
  have get : ∀ j (hj : j < (plainW ls).length), (plainW ls)[j] = wrd (offF (ls[j]'(by omega)) j ls 0) (ls[j]'(by omega)) := fun j hj => plainW_get hok (by omega)
  have each : ∀ w ∈ plainW ls, w ≠ [] ∧ w.length ≤ 10 ∧ bitsB w = true := fun w hw => by
    obtain ⟨j, hj, rfl⟩ := List.getElem_of_mem hw
    have h1 := hok _ (List.getElem_mem (show j < ls.length by omega))
    rw [get j hj]
    exact ⟨fun e => by have := congrArg List.length e; rw [wrd_len] at this; simp at this; omega, by rw [wrd_len]; exact h1.2, wrd_bits _ _⟩
  have two : ∀ i j (hi : i < (plainW ls).length) (hj : j < (plainW ls).length), i ≠ j → ¬ (plainW ls)[i] <+: (plainW ls)[j] := fun i j hi hj hne => by
    have ei := each _ (List.getElem_mem hi)
    have ej := each _ (List.getElem_mem hj)
    have ci : i < ls.length := by omega
    have cj : j < ls.length := by omega
    rcases (show (ls[i] < ls[j] ∨ (ls[i] = ls[j] ∧ i < j)) ∨ (ls[j] < ls[i] ∨ (ls[j] = ls[i] ∧ j < i)) by omega) with h | h
    · have a := plain_ahead hok hs ci cj h
      rw [← get i hi, ← get j hj] at a
      exact (ord_B ei.2.1 ej.2.1 ei.2.2 ej.2.2 a).2.1
    · have a := plain_ahead hok hs cj ci h
      rw [← get i hi, ← get j hj] at a
      exact (ord_B ej.2.1 ei.2.1 ej.2.2 ei.2.2 a).2.2
  refine ⟨⟨List.pairwise_iff_getElem.2 fun i j hi hj hij e => two i j hi hj (by omega) (e ▸ List.prefix_rfl), fun w hw => (each w hw).1, fun w hw => (each w hw).2.1, fun w hw => (each w hw).2.2, by omega⟩, two, ?_⟩
  apply List.ext_getElem
  · rw [List.length_map]; exact len
  · intro j h1 h2
    rw [List.getElem_map, get j (by simpa using h1), wrd_len]

end Go.Proofs.YthplaillblmgfaaGreatDoor


namespace Go.Proofs.YthplaillblmgfaaGreatDoor
open Go.Sim

section
variable {h : Heap} {id : Nat}

abbrev hb (h : Heap) (id : Nat) (xs : List UInt8) : Heap := h.set id (.arr 5 (xs.map cv))

theorem hb_get (hid : id < h.length) (xs : List UInt8) : (hb h id xs)[id]? = some (.arr 5 (xs.map cv)) := by simp [hb, hid]

theorem hb_load (hid : id < h.length) {xs : List UInt8} {j : Nat} {c : UInt8} (hj : xs[j]? = some c) : iLoad false 1 (hb h id xs) (pt id j) = some (cv c) := by
  simp [iLoad, objCells, hb_get hid, iPart, hj]

theorem hb_store (hid : id < h.length) {xs : List UInt8} {j : Nat} (c : UInt8) (hj : j < xs.length) : oStore 1 (hb h id xs) (pt id j) (cv c) = some (undef, hb h id (xs.set j c)) := by
  rw [store_at (hb_get hid xs) (by simpa using hj) rfl rfl]
  simp [hb, List.map_set]

end

end Go.Proofs.YthplaillblmgfaaGreatDoor


namespace Go.Proofs.YthplaillblmgfaaGreatDoor
open Go.Sim
variable (P : Program) (K : VK)
/-! F46: pommel/num.Of -/
noncomputable def oc46 := compFn Tryz.prog 46 [[], [], [], [0, 2, 3], []]
@[irreducible] noncomputable def c46 : ICode := icOf oc46
@[irreducible] noncomputable def c46z5 : ICode := c46.r.r.r.l
theorem k46 : oc46 = some (20, c46, [.cell true 2 2]) := by kernel_rfl
def K46z0 (_P : Program) (K : VK) : Kont := bodyP [.cell true 2 2] K
def p46z5 (n0 x2 u3 : Value) (h : Heap) : Prop := CutP (iwpP P c46z5 (K46z0 P K)) [0, 2, 3] [n0, x2, u3] h
theorem q46z5 (n0 x2 u3 : Value) (h : Heap) : p46z5 P K n0 x2 u3 h =
 (OP (iBin .lss n0 (.int .i64 (0))) fun x11 =>
 OP (iConv .u32 u3) fun x13 =>
 OP (iBin .shr u3 (.int .u64 (32))) fun x15 =>
 OP (iConv .u32 x15) fun x16 =>
 OH (iMkSl 116 2 [(.int .u32 (0))] h [(0, 1, x13), (1, 1, x16)]) fun x17 h_1 =>
 CallP P 83 [x17] h_1 fun x18 h_2 =>
 CallP P 82 [x11, x18] h_2 fun x19 h_3 =>
 OH (oStore 2 h_3 x2 x19) fun _ h_4 =>
 OP (iLoad true 2 h_4 x2) fun r0 =>
 K r0 h_4) := (CutP_def _ _ _ _).trans (by kernel_rfl)
def T46 (n0 : Value) (h : Heap) : Prop :=
 OH (iAlloc 81 [(.bool false), (.slice none 0 0)] h) fun x2 h_1 =>
 OP (iConv .u64 n0) fun x5 =>
 OP (iBin .lss n0 (.int .i64 (0))) fun x7 =>
 IfP x7
 (OP (iUn .neg x5) fun x9 =>
 p46z5 P K n0 x2 x9 h_1)
 (p46z5 P K n0 x2 x5 h_1)
theorem e46 (n0 : Value) (h : Heap) : iwpP P c46 (bodyP [.cell true 2 2] K) (frame0 [n0]) h = T46 P K n0 h := by kernel_rfl
theorem f46 {K : VK} {n0 : Value} {h : Heap} (H : T46 Tryz.prog K n0 h) : CallP Tryz.prog 46 [n0] h K :=
 callP_intro k46 (Nat.le_of_ble_eq_true rfl) ((e46 Tryz.prog K n0 h).mpr H)
/-! F48: (pommel/num.Int).Add -/
noncomputable def oc48 := compFn Tryz.prog 48 [[], [], [], [], [], [], []]
@[irreducible] noncomputable def c48 : ICode := icOf oc48
theorem k48 : oc48 = some (42, c48, [.cell true 2 4]) := by kernel_rfl
def T48 (a0 b1 : Value) (h : Heap) : Prop :=
 OH (iBox 81 h a0) fun a2 h_1 =>
 OH (iBox 81 h_1 b1) fun b3 h_2 =>
 OH (iAlloc 81 [(.bool false), (.slice none 0 0)] h_2) fun x4 h_3 =>
 OP (iFadr 0 a2) fun x6 =>
 OP (iLoad false 1 h_3 x6) fun x7 =>
 OP (iFadr 0 b3) fun x8 =>
 OP (iLoad false 1 h_3 x8) fun x9 =>
 OP (iEqb false x7 x9) fun x10 =>
 IfP x10
 (OP (iFadr 0 a2) fun x11 =>
 OP (iLoad false 1 h_3 x11) fun x12 =>
 (True) ∧
 OP (iFadr 1 a2) fun x13 =>
 OP (iLoad false 1 h_3 x13) fun x14 =>
 (True) ∧
 OP (iFadr 1 b3) fun x15 =>
 OP (iLoad false 1 h_3 x15) fun x16 =>
 (True) ∧
 CallP P 85 [x14, x16] h_3 fun x17 h_4 =>
 (iLoad false 1 h_4 x11 = some x12 ∧ True) ∧
 CallP P 82 [x12, x17] h_4 fun x18 h_5 =>
 (True) ∧
 OH (oStore 2 h_5 x4 x18) fun _ h_6 =>
 (True) ∧
 OP (iLoad true 2 h_6 x4) fun r0 =>
 K r0 h_6)
 (OP (iFadr 1 a2) fun x20 =>
 OP (iLoad false 1 h_3 x20) fun x21 =>
 OP (iFadr 1 b3) fun x22 =>
 OP (iLoad false 1 h_3 x22) fun x23 =>
 CallP P 86 [x21, x23] h_3 fun x24 h_4 =>
 OP (iBin .geq x24 (.int .i64 (0))) fun x25 =>
 IfP x25
 (OP (iFadr 0 a2) fun x26 =>
 OP (iLoad false 1 h_4 x26) fun x27 =>
 (True) ∧
 OP (iFadr 1 a2) fun x28 =>
 OP (iLoad false 1 h_4 x28) fun x29 =>
 (True) ∧
 OP (iFadr 1 b3) fun x30 =>
 OP (iLoad false 1 h_4 x30) fun x31 =>
 (True) ∧
 CallP P 87 [x29, x31] h_4 fun x32 h_5 =>
 (iLoad false 1 h_5 x26 = some x27 ∧ True) ∧
 CallP P 82 [x27, x32] h_5 fun x33 h_6 =>
 (True) ∧
 OH (oStore 2 h_6 x4 x33) fun _ h_7 =>
 (True) ∧
 OP (iLoad true 2 h_7 x4) fun r0 =>
 K r0 h_7)
 (OP (iFadr 0 b3) fun x34 =>
 OP (iLoad false 1 h_4 x34) fun x35 =>
 (True) ∧
 OP (iFadr 1 b3) fun x36 =>
 OP (iLoad false 1 h_4 x36) fun x37 =>
 (True) ∧
 OP (iFadr 1 a2) fun x38 =>
 OP (iLoad false 1 h_4 x38) fun x39 =>
 (True) ∧
 CallP P 87 [x37, x39] h_4 fun x40 h_5 =>
 (iLoad false 1 h_5 x34 = some x35 ∧ True) ∧
 CallP P 82 [x35, x40] h_5 fun x41 h_6 =>
 (True) ∧
 OH (oStore 2 h_6 x4 x41) fun _ h_7 =>
 (True) ∧
 OP (iLoad true 2 h_7 x4) fun r0 =>
 K r0 h_7))
theorem e48 (a0 b1 : Value) (h : Heap) : iwpP P c48 (bodyP [.cell true 2 4] K) (frame0 [a0, b1]) h = T48 P K a0 b1 h := by kernel_rfl
theorem f48 {K : VK} {a0 b1 : Value} {h : Heap} (H : T48 Tryz.prog K a0 b1 h) : CallP Tryz.prog 48 [a0, b1] h K :=
 callP_intro k48 (Nat.le_of_ble_eq_true rfl) ((e48 Tryz.prog K a0 b1 h).mpr H)
/-! F82: pommel/num.made -/
noncomputable def oc82 := compFn Tryz.prog 82 [[], [1, 4, 6], [1, 4, 6, 9], []]
@[irreducible] noncomputable def c82 : ICode := icOf oc82
@[irreducible] noncomputable def c82z4 : ICode := c82.r.l.r.l
@[irreducible] noncomputable def c82z2 : ICode := c82.r.r
@[irreducible] noncomputable def c82z6 : ICode := c82z4.r.l
theorem k82 : oc82 = some (13, c82, [.cell true 2 4]) := by kernel_rfl
def K82z0 (_P : Program) (K : VK) : Kont := bodyP [.cell true 2 4] K
def K82z2 : Kont := thenK (iwpP P c82z2 (K82z0 P K)) (K82z0 P K)
def p82z4 (mag1 x4 x6 : Value) (h : Heap) : Prop := CutP (iwpP P c82z4 (K82z2 P K)) [1, 4, 6] [mag1, x4, x6] h
def p82z6 (mag1 x4 x6 x9 : Value) (h : Heap) : Prop := CutP (iwpP P c82z6 (K82z2 P K)) [1, 4, 6, 9] [mag1, x4, x6, x9] h
theorem q82z6 (mag1 x4 x6 x9 : Value) (h : Heap) : p82z6 P K mag1 x4 x6 x9 h =
 (OP (iPick x6 x9 (.bool false)) fun x10 =>
 OP (iBuild [(.bool false), (.slice none 0 0)] [(0, 1, x10), (1, 1, mag1)]) fun x12 =>
 OH (oStore 2 h x4 x12) fun _ h_1 =>
 OP (iLoad true 2 h_1 x4) fun r0 =>
 K r0 h_1) := (CutP_def _ _ _ _).trans (by kernel_rfl)
theorem q82z4 (mag1 x4 x6 : Value) (h : Heap) : p82z4 P K mag1 x4 x6 h =
 (GdP x6 true
 (OP (iLenSl mag1) fun x8 =>
 OP (iBin .gtr x8 (.int .i64 (0))) fun x9 =>
 p82z6 P K mag1 x4 x6 x9 h)
 (p82z6 P K mag1 x4 x6 undef h)) := (CutP_def _ _ _ _).trans (by kernel_rfl)
def T82 (neg0 mag1 : Value) (h : Heap) : Prop :=
 OH (iAlloc 81 [(.bool false), (.slice none 0 0)] h) fun x4 h_1 =>
 p82z4 P K mag1 x4 neg0 h_1
theorem e82 (neg0 mag1 : Value) (h : Heap) : iwpP P c82 (bodyP [.cell true 2 4] K) (frame0 [neg0, mag1]) h = T82 P K neg0 mag1 h := by kernel_rfl
theorem f82 {K : VK} {neg0 mag1 : Value} {h : Heap} (H : T82 Tryz.prog K neg0 mag1 h) : CallP Tryz.prog 82 [neg0, mag1] h K :=
 callP_intro k82 (Nat.le_of_ble_eq_true rfl) ((e82 Tryz.prog K neg0 mag1 h).mpr H)
/-! F83: pommel/num.trim -/
noncomputable def oc83 := compFn Tryz.prog 83 [[], [], [0], [0, 6], [0, 6, 13], [], [], [0], []]
@[irreducible] noncomputable def c83 : ICode := icOf oc83
@[irreducible] noncomputable def c83z4 : ICode := c83.r.l.l.l
@[irreducible] noncomputable def c83z2 : ICode := c83.r.r
@[irreducible] noncomputable def c83z8 : ICode := c83z4.l.l.r.l
@[irreducible] noncomputable def c83z6 : ICode := c83z4.l.r
@[irreducible] noncomputable def c83z5 : ICode := c83z4.r
@[irreducible] noncomputable def c83z12 : ICode := c83z2.l
@[irreducible] noncomputable def c83z10 : ICode := c83z8.r.l
theorem k83 : oc83 = some (21, c83, [.tmp 2]) := by kernel_rfl
def K83z0 (_P : Program) (K : VK) : Kont := bodyP [.tmp 2] K
def K83z2 : Kont := thenK (iwpP P c83z2 (K83z0 P K)) (K83z0 P K)
def K83z3 : Kont := inBlockK 0 (K83z2 P K)
def K83z4 (L1 : LK) : Kont := thenK (fun f' h'' => (([] : List Nat).map f' : List Value) = [] ∧ L1 (([0] : List Nat).map f') h'') (K83z3 P K)
def K83z5 (L1 : LK) : Kont := thenK (iwpP P c83z5 (K83z4 P K L1)) (K83z4 P K L1)
def K83z6 (L1 : LK) : Kont := thenK (iwpP P c83z6 (K83z5 P K L1)) (K83z5 P K L1)
def p83z4 (L1 : LK) (xs : List Value) (h : Heap) : Prop := CutP (iwpP P c83z4 (K83z4 P K L1)) ([] ++ [0]) ([] ++ xs) h
def p83z8 (x0 x6 : Value) (L1 : LK) (h : Heap) : Prop := CutP (iwpP P c83z8 (K83z6 P K L1)) [0, 6] [x0, x6] h
def p83z10 (x0 x6 x13 : Value) (L1 : LK) (h : Heap) : Prop := CutP (iwpP P c83z10 (K83z6 P K L1)) [0, 6, 13] [x0, x6, x13] h
def p83z12 (x0 : Value) (h : Heap) : Prop := CutP (iwpP P c83z12 (K83z0 P K)) [0] [x0] h
theorem q83z10 (x0 x6 x13 : Value) (L1 : LK) (h : Heap) : p83z10 P K x0 x6 x13 L1 h =
 (OP (iPick x6 x13 (.bool false)) fun x14 =>
 IfP x14
 (OP (iLenSl x0) fun x17 =>
 OP (iBin .sub x17 (.int .i64 (1))) fun x18 =>
 OP (iSlSl 116 1 x0 none (some x18)) fun x19 =>
 ([] : List Value) = [] ∧ L1 [x19] h)
 (p83z12 P K x0 h)) := (CutP_def _ _ _ _).trans (by kernel_rfl)
theorem q83z8 (x0 x6 : Value) (L1 : LK) (h : Heap) : p83z8 P K x0 x6 L1 h =
 (GdP x6 true
 (OP (iLenSl x0) fun x9 =>
 OP (iBin .sub x9 (.int .i64 (1))) fun x10 =>
 OP (iAdrSl 1 x0 x10) fun x11 =>
 OP (iLoad false 1 h x11) fun x12 =>
 OP (iBin .eql x12 (.int .u32 (0))) fun x13 =>
 p83z10 P K x0 x6 x13 L1 h)
 (p83z10 P K x0 x6 undef L1 h)) := (CutP_def _ _ _ _).trans (by kernel_rfl)
theorem q83z4 (L1 : LK) (x0 : Value) (h : Heap) : p83z4 P K L1 [x0] h =
 (OP (iLenSl x0) fun x4 =>
 OP (iBin .gtr x4 (.int .i64 (0))) fun x5 =>
 p83z8 P K x0 x5 L1 h) := (CutP_def _ _ _ _).trans (by kernel_rfl)
theorem q83z12 (x0 : Value) (h : Heap) : p83z12 P K x0 h =
 (K x0 h) := (CutP_def _ _ _ _).trans (by kernel_rfl)
def T83 (x0 : Value) (h : Heap) : Prop :=
 LoopP [x0] h fun L1 xs hx =>
 p83z4 P K L1 xs hx
theorem e83 (x0 : Value) (h : Heap) : iwpP P c83 (bodyP [.tmp 2] K) (frame0 [x0]) h = T83 P K x0 h := by kernel_rfl
theorem f83 {K : VK} {x0 : Value} {h : Heap} (H : T83 Tryz.prog K x0 h) : CallP Tryz.prog 83 [x0] h K :=
 callP_intro k83 (Nat.le_of_ble_eq_true rfl) ((e83 Tryz.prog K x0 h).mpr H)
/-! F85: pommel/num.plus -/
noncomputable def oc85 := compFn Tryz.prog 85 [[], [], [0, 1], [], [], [], [0, 1, 5, 21], [6, 22], [], [], [], [], [], [0, 1, 5, 6, 7, 8, 21, 22], [0, 1, 5, 6, 21, 22], [0, 5, 6], [], []]
@[irreducible] noncomputable def c85 : ICode := icOf oc85
@[irreducible] noncomputable def c85z4 : ICode := c85.r.r.l
@[irreducible] noncomputable def c85z10 : ICode := c85z4.r.r.l.r.l.l
@[irreducible] noncomputable def c85z7 : ICode := c85z4.r.r.r
@[irreducible] noncomputable def c85z19 : ICode := c85z10.r.r.l.l.r.r.r.l
@[irreducible] noncomputable def c85z13 : ICode := c85z10.r.r.r
@[irreducible] noncomputable def c85z21 : ICode := c85z7.l
@[irreducible] noncomputable def c85z20 : ICode := c85z13.l
theorem k85 : oc85 = some (54, c85, [.tmp 4]) := by kernel_rfl
def K85z0 (_P : Program) (K : VK) : Kont := bodyP [.tmp 4] K
def K85z7 : Kont := thenK (iwpP P c85z7 (K85z0 P K)) (K85z0 P K)
def K85z9 : Kont := inBlockK 0 (K85z7 P K)
def K85z10 (a0 b1 out5 x21 : Value) (L1 : LK) : Kont := thenK (fun f' h'' => (([0, 1, 5, 21] : List Nat).map f' : List Value) = [a0, b1, out5, x21] ∧ L1 (([6, 22] : List Nat).map f') h'') (K85z9 P K)
def K85z13 (a0 b1 out5 x21 : Value) (L1 : LK) : Kont := thenK (iwpP P c85z13 (K85z10 P K a0 b1 out5 x21 L1)) (K85z10 P K a0 b1 out5 x21 L1)
def K85z14 (a0 b1 out5 x21 : Value) (L1 : LK) : Kont := inBlockK 1 (K85z13 P K a0 b1 out5 x21 L1)
def p85z4 (a0 b1 : Value) (h : Heap) : Prop := CutP (iwpP P c85z4 (K85z0 P K)) [0, 1] [a0, b1] h
def p85z10 (a0 b1 out5 x21 : Value) (L1 : LK) (xs : List Value) (h : Heap) : Prop := CutP (iwpP P c85z10 (K85z10 P K a0 b1 out5 x21 L1)) ([0, 1, 5, 21] ++ [6, 22]) ([a0, b1, out5, x21] ++ xs) h
def p85z19 (a0 b1 out5 carry6 i7 y8 x21 x22 : Value) (L1 : LK) (h : Heap) : Prop := CutP (iwpP P c85z19 (K85z14 P K a0 b1 out5 x21 L1)) [0, 1, 5, 6, 7, 8, 21, 22] [a0, b1, out5, carry6, i7, y8, x21, x22] h
def p85z20 (a0 b1 out5 carry6 x21 x22 : Value) (L1 : LK) (h : Heap) : Prop := CutP (iwpP P c85z20 (K85z10 P K a0 b1 out5 x21 L1)) [0, 1, 5, 6, 21, 22] [a0, b1, out5, carry6, x21, x22] h
def p85z21 (a0 out5 carry6 : Value) (h : Heap) : Prop := CutP (iwpP P c85z21 (K85z0 P K)) [0, 5, 6] [a0, out5, carry6] h
theorem q85z19 (a0 b1 out5 carry6 i7 y8 x21 x22 : Value) (L1 : LK) (h : Heap) : p85z19 P K a0 b1 out5 carry6 i7 y8 x21 x22 L1 h =
 (OP (iAdrSl 1 a0 i7) fun x38 =>
 OP (iLoad false 1 h x38) fun x39 =>
 CallP P 114 [x39, y8, carry6] h fun x42 h_1 =>
 OP (iExt 0 x42) fun x43 =>
 OP (iExt 1 x42) fun x44 =>
 OP (iAdrSl 1 out5 i7) fun x45 =>
 OH (oStore 1 h_1 x45 x43) fun _ h_2 =>
 p85z20 P K a0 b1 out5 x44 x21 x22 L1 h_2) := (CutP_def _ _ _ _).trans (by kernel_rfl)
theorem q85z20 (a0 b1 out5 carry6 x21 x22 : Value) (L1 : LK) (h : Heap) : p85z20 P K a0 b1 out5 carry6 x21 x22 L1 h =
 (OP (iBin .add x22 (.int .i64 (1))) fun x46 =>
 ([a0, b1, out5, x21] : List Value) = [a0, b1, out5, x21] ∧ L1 [carry6, x46] h) := (CutP_def _ _ _ _).trans (by kernel_rfl)
theorem q85z10 (a0 b1 out5 x21 : Value) (L1 : LK) (carry6 x22 : Value) (h : Heap) : p85z10 P K a0 b1 out5 x21 L1 [carry6, x22] h =
 (OP (iBin .lss x22 x21) fun x23 =>
 IfP x23
 (OP (iLenSl b1) fun x27 =>
 OP (iBin .lss x22 x27) fun x28 =>
 IfP x28
 (OP (iAdrSl 1 b1 x22) fun x31 =>
 OP (iLoad false 1 h x31) fun x32 =>
 p85z19 P K a0 b1 out5 carry6 x22 x32 x21 x22 L1 h)
 (p85z19 P K a0 b1 out5 carry6 x22 (.int .u32 (0)) x21 x22 L1 h))
 (p85z21 P K a0 out5 carry6 h)) := (CutP_def _ _ _ _).trans (by kernel_rfl)
theorem q85z21 (a0 out5 carry6 : Value) (h : Heap) : p85z21 P K a0 out5 carry6 h =
 (OP (iLenSl a0) fun x49 =>
 OP (iAdrSl 1 out5 x49) fun x51 =>
 OH (oStore 1 h x51 carry6) fun _ h_1 =>
 CallP P 83 [out5] h_1 fun x53 h_2 =>
 K x53 h_2) := (CutP_def _ _ _ _).trans (by kernel_rfl)
theorem q85z4 (a0 b1 : Value) (h : Heap) : p85z4 P K a0 b1 h =
 (OP (iLenSl a0) fun x17 =>
 OP (iBin .add x17 (.int .i64 (1))) fun x18 =>
 OH (iMake 116 4 [(.int .u32 (0))] h x18 x18) fun x19 h_1 =>
 OP (iLenSl a0) fun x21 =>
 LoopP [(.int .u32 (0)), (.int .i64 (0))] h_1 fun L1 xs hx =>
 p85z10 P K a0 b1 x19 x21 L1 xs hx) := (CutP_def _ _ _ _).trans (by kernel_rfl)
def T85 (a0 b1 : Value) (h : Heap) : Prop :=
 OP (iLenSl a0) fun x10 =>
 OP (iLenSl b1) fun x12 =>
 OP (iBin .lss x10 x12) fun x13 =>
 IfP x13
 (p85z4 P K b1 a0 h)
 (p85z4 P K a0 b1 h)
theorem e85 (a0 b1 : Value) (h : Heap) : iwpP P c85 (bodyP [.tmp 4] K) (frame0 [a0, b1]) h = T85 P K a0 b1 h := by kernel_rfl
theorem f85 {K : VK} {a0 b1 : Value} {h : Heap} (H : T85 Tryz.prog K a0 b1 h) : CallP Tryz.prog 85 [a0, b1] h K :=
 callP_intro k85 (Nat.le_of_ble_eq_true rfl) ((e85 Tryz.prog K a0 b1 h).mpr H)
/-! F86: pommel/num.compare -/
noncomputable def oc86 := compFn Tryz.prog 86 [[], [], [], [], [], [], [], [], [0, 1], [5], [], [], [], [], [], [], [], [], [], []]
@[irreducible] noncomputable def c86 : ICode := icOf oc86
@[irreducible] noncomputable def c86z11 : ICode := c86.r.r.l.r.l.l
@[irreducible] noncomputable def c86z8 : ICode := c86.r.r.r
theorem k86 : oc86 = some (41, c86, [.tmp 4]) := by kernel_rfl
def K86z0 (_P : Program) (K : VK) : Kont := bodyP [.tmp 4] K
def K86z8 : Kont := thenK (iwpP P c86z8 (K86z0 P K)) (K86z0 P K)
def K86z10 : Kont := inBlockK 0 (K86z8 P K)
def K86z11 (a0 b1 : Value) (L1 : LK) : Kont := thenK (fun f' h'' => (([0, 1] : List Nat).map f' : List Value) = [a0, b1] ∧ L1 (([5] : List Nat).map f') h'') (K86z10 P K)
def p86z11 (a0 b1 : Value) (L1 : LK) (xs : List Value) (h : Heap) : Prop := CutP (iwpP P c86z11 (K86z11 P K a0 b1 L1)) ([0, 1] ++ [5]) ([a0, b1] ++ xs) h
theorem q86z11 (a0 b1 : Value) (L1 : LK) (i5 : Value) (h : Heap) : p86z11 P K a0 b1 L1 [i5] h =
 (OP (iBin .geq i5 (.int .i64 (0))) fun x20 =>
 IfP x20
 (OP (iAdrSl 1 a0 i5) fun x25 =>
 OP (iLoad false 1 h x25) fun x26 =>
 (True) ∧
 OP (iAdrSl 1 b1 i5) fun x29 =>
 OP (iLoad false 1 h x29) fun x30 =>
 (True) ∧
 OP (iBin .neq x26 x30) fun x31 =>
 IfP x31
 (OP (iAdrSl 1 a0 i5) fun x34 =>
 OP (iLoad false 1 h x34) fun x35 =>
 (True) ∧
 OP (iAdrSl 1 b1 i5) fun x38 =>
 OP (iLoad false 1 h x38) fun x39 =>
 (True) ∧
 OP (iBin .lss x35 x39) fun x40 =>
 IfP x40
 (K (.int .i64 (-1)) h)
 (K (.int .i64 (1)) h))
 (OP (iBin .sub i5 (.int .i64 (1))) fun x22 =>
 ([a0, b1] : List Value) = [a0, b1] ∧ L1 [x22] h))
 (K (.int .i64 (0)) h)) := (CutP_def _ _ _ _).trans (by kernel_rfl)
def T86 (a0 b1 : Value) (h : Heap) : Prop :=
 OP (iLenSl a0) fun x7 =>
 OP (iLenSl b1) fun x9 =>
 OP (iBin .neq x7 x9) fun x10 =>
 IfP x10
 (OP (iLenSl a0) fun x12 =>
 OP (iLenSl b1) fun x14 =>
 OP (iBin .lss x12 x14) fun x15 =>
 IfP x15
 (K (.int .i64 (-1)) h)
 (K (.int .i64 (1)) h))
 (OP (iLenSl a0) fun x17 =>
 OP (iBin .sub x17 (.int .i64 (1))) fun x18 =>
 LoopP [x18] h fun L1 xs hx =>
 p86z11 P K a0 b1 L1 xs hx)
theorem e86 (a0 b1 : Value) (h : Heap) : iwpP P c86 (bodyP [.tmp 4] K) (frame0 [a0, b1]) h = T86 P K a0 b1 h := by kernel_rfl
theorem f86 {K : VK} {a0 b1 : Value} {h : Heap} (H : T86 Tryz.prog K a0 b1 h) : CallP Tryz.prog 86 [a0, b1] h K :=
 callP_intro k86 (Nat.le_of_ble_eq_true rfl) ((e86 Tryz.prog K a0 b1 h).mpr H)
/-! F87: pommel/num.minus -/
noncomputable def oc87 := compFn Tryz.prog 87 [[], [], [], [], [0, 1, 5, 13], [6, 14], [], [], [], [], [], [0, 1, 5, 6, 7, 8, 13, 14], [0, 1, 5, 6, 13, 14], [5], []]
@[irreducible] noncomputable def c87 : ICode := icOf oc87
@[irreducible] noncomputable def c87z7 : ICode := c87.r.r.r.l.r.l.l
@[irreducible] noncomputable def c87z4 : ICode := c87.r.r.r.r
@[irreducible] noncomputable def c87z16 : ICode := c87z7.r.r.l.l.r.r.r.l
@[irreducible] noncomputable def c87z10 : ICode := c87z7.r.r.r
@[irreducible] noncomputable def c87z18 : ICode := c87z4.l
@[irreducible] noncomputable def c87z17 : ICode := c87z10.l
theorem k87 : oc87 = some (41, c87, [.tmp 4]) := by kernel_rfl
def K87z0 (_P : Program) (K : VK) : Kont := bodyP [.tmp 4] K
def K87z4 : Kont := thenK (iwpP P c87z4 (K87z0 P K)) (K87z0 P K)
def K87z6 : Kont := inBlockK 0 (K87z4 P K)
def K87z7 (a0 b1 out5 x13 : Value) (L1 : LK) : Kont := thenK (fun f' h'' => (([0, 1, 5, 13] : List Nat).map f' : List Value) = [a0, b1, out5, x13] ∧ L1 (([6, 14] : List Nat).map f') h'') (K87z6 P K)
def K87z10 (a0 b1 out5 x13 : Value) (L1 : LK) : Kont := thenK (iwpP P c87z10 (K87z7 P K a0 b1 out5 x13 L1)) (K87z7 P K a0 b1 out5 x13 L1)
def K87z11 (a0 b1 out5 x13 : Value) (L1 : LK) : Kont := inBlockK 1 (K87z10 P K a0 b1 out5 x13 L1)
def p87z7 (a0 b1 out5 x13 : Value) (L1 : LK) (xs : List Value) (h : Heap) : Prop := CutP (iwpP P c87z7 (K87z7 P K a0 b1 out5 x13 L1)) ([0, 1, 5, 13] ++ [6, 14]) ([a0, b1, out5, x13] ++ xs) h
def p87z16 (a0 b1 out5 borrow6 i7 y8 x13 x14 : Value) (L1 : LK) (h : Heap) : Prop := CutP (iwpP P c87z16 (K87z11 P K a0 b1 out5 x13 L1)) [0, 1, 5, 6, 7, 8, 13, 14] [a0, b1, out5, borrow6, i7, y8, x13, x14] h
def p87z17 (a0 b1 out5 borrow6 x13 x14 : Value) (L1 : LK) (h : Heap) : Prop := CutP (iwpP P c87z17 (K87z7 P K a0 b1 out5 x13 L1)) [0, 1, 5, 6, 13, 14] [a0, b1, out5, borrow6, x13, x14] h
def p87z18 (out5 : Value) (h : Heap) : Prop := CutP (iwpP P c87z18 (K87z0 P K)) [5] [out5] h
theorem q87z16 (a0 b1 out5 borrow6 i7 y8 x13 x14 : Value) (L1 : LK) (h : Heap) : p87z16 P K a0 b1 out5 borrow6 i7 y8 x13 x14 L1 h =
 (OP (iAdrSl 1 a0 i7) fun x30 =>
 OP (iLoad false 1 h x30) fun x31 =>
 CallP P 115 [x31, y8, borrow6] h fun x34 h_1 =>
 OP (iExt 0 x34) fun x35 =>
 OP (iExt 1 x34) fun x36 =>
 OP (iAdrSl 1 out5 i7) fun x37 =>
 OH (oStore 1 h_1 x37 x35) fun _ h_2 =>
 p87z17 P K a0 b1 out5 x36 x13 x14 L1 h_2) := (CutP_def _ _ _ _).trans (by kernel_rfl)
theorem q87z17 (a0 b1 out5 borrow6 x13 x14 : Value) (L1 : LK) (h : Heap) : p87z17 P K a0 b1 out5 borrow6 x13 x14 L1 h =
 (OP (iBin .add x14 (.int .i64 (1))) fun x38 =>
 ([a0, b1, out5, x13] : List Value) = [a0, b1, out5, x13] ∧ L1 [borrow6, x38] h) := (CutP_def _ _ _ _).trans (by kernel_rfl)
theorem q87z7 (a0 b1 out5 x13 : Value) (L1 : LK) (borrow6 x14 : Value) (h : Heap) : p87z7 P K a0 b1 out5 x13 L1 [borrow6, x14] h =
 (OP (iBin .lss x14 x13) fun x15 =>
 IfP x15
 (OP (iLenSl b1) fun x19 =>
 OP (iBin .lss x14 x19) fun x20 =>
 IfP x20
 (OP (iAdrSl 1 b1 x14) fun x23 =>
 OP (iLoad false 1 h x23) fun x24 =>
 p87z16 P K a0 b1 out5 borrow6 x14 x24 x13 x14 L1 h)
 (p87z16 P K a0 b1 out5 borrow6 x14 (.int .u32 (0)) x13 x14 L1 h))
 (p87z18 P K out5 h)) := (CutP_def _ _ _ _).trans (by kernel_rfl)
theorem q87z18 (out5 : Value) (h : Heap) : p87z18 P K out5 h =
 (CallP P 83 [out5] h fun x40 h_1 =>
 K x40 h_1) := (CutP_def _ _ _ _).trans (by kernel_rfl)
def T87 (a0 b1 : Value) (h : Heap) : Prop :=
 OP (iLenSl a0) fun x10 =>
 OH (iMake 116 4 [(.int .u32 (0))] h x10 x10) fun x11 h_1 =>
 OP (iLenSl a0) fun x13 =>
 LoopP [(.int .u32 (0)), (.int .i64 (0))] h_1 fun L1 xs hx =>
 p87z7 P K a0 b1 x11 x13 L1 xs hx
theorem e87 (a0 b1 : Value) (h : Heap) : iwpP P c87 (bodyP [.tmp 4] K) (frame0 [a0, b1]) h = T87 P K a0 b1 h := by kernel_rfl
theorem f87 {K : VK} {a0 b1 : Value} {h : Heap} (H : T87 Tryz.prog K a0 b1 h) : CallP Tryz.prog 87 [a0, b1] h K :=
 callP_intro k87 (Nat.le_of_ble_eq_true rfl) ((e87 Tryz.prog K a0 b1 h).mpr H)
/-! F105: (pommel/num.Int).Mul -/
noncomputable def oc105 := compFn Tryz.prog 105 [[], []]
@[irreducible] noncomputable def c105 : ICode := icOf oc105
theorem k105 : oc105 = some (16, c105, [.cell true 2 4]) := by kernel_rfl
def T105 (a0 b1 : Value) (h : Heap) : Prop :=
 OH (iBox 81 h a0) fun a2 h_1 =>
 OH (iBox 81 h_1 b1) fun b3 h_2 =>
 OH (iAlloc 81 [(.bool false), (.slice none 0 0)] h_2) fun x4 h_3 =>
 OP (iFadr 0 a2) fun x5 =>
 OP (iLoad false 1 h_3 x5) fun x6 =>
 (True) ∧
 OP (iFadr 0 b3) fun x7 =>
 OP (iLoad false 1 h_3 x7) fun x8 =>
 (True) ∧
 OP (iEqb true x6 x8) fun x9 =>
 OP (iFadr 1 a2) fun x10 =>
 OP (iLoad false 1 h_3 x10) fun x11 =>
 (True) ∧
 OP (iFadr 1 b3) fun x12 =>
 OP (iLoad false 1 h_3 x12) fun x13 =>
 (True) ∧
 CallP P 124 [x11, x13] h_3 fun x14 h_4 =>
 (iLoad false 1 h_4 x5 = some x6 ∧ iLoad false 1 h_4 x7 = some x8 ∧ True) ∧
 CallP P 82 [x9, x14] h_4 fun x15 h_5 =>
 (True) ∧
 OH (oStore 2 h_5 x4 x15) fun _ h_6 =>
 (True) ∧
 OP (iLoad true 2 h_6 x4) fun r0 =>
 K r0 h_6
theorem e105 (a0 b1 : Value) (h : Heap) : iwpP P c105 (bodyP [.cell true 2 4] K) (frame0 [a0, b1]) h = T105 P K a0 b1 h := by kernel_rfl
theorem f105 {K : VK} {a0 b1 : Value} {h : Heap} (H : T105 Tryz.prog K a0 b1 h) : CallP Tryz.prog 105 [a0, b1] h K :=
 callP_intro k105 (Nat.le_of_ble_eq_true rfl) ((e105 Tryz.prog K a0 b1 h).mpr H)
/-! F114: math/bits.Add32 -/
noncomputable def oc114 := compFn Tryz.prog 114 [[], [], [], []]
@[irreducible] noncomputable def c114 : ICode := icOf oc114
theorem k114 : oc114 = some (22, c114, [.tmp 6, .tmp 7]) := by kernel_rfl
def T114 (P : Program) (K : VK) (x0 y1 carry2 : Value) (h : Heap) : Prop :=
 OP (iConv .u64 x0) fun x10 =>
 OP (iConv .u64 y1) fun x12 =>
 OP (iBin .add x10 x12) fun x13 =>
 OP (iConv .u64 carry2) fun x15 =>
 OP (iBin .add x13 x15) fun x16 =>
 OP (iConv .u32 x16) fun x18 =>
 OP (iBin .shr x16 (.int .u64 (32))) fun x20 =>
 OP (iConv .u32 x20) fun x21 =>
 K (.tuple #[x18, x21]) h
theorem e114 (x0 y1 carry2 : Value) (h : Heap) : iwpP P c114 (bodyP [.tmp 6, .tmp 7] K) (frame0 [x0, y1, carry2]) h = T114 P K x0 y1 carry2 h := by kernel_rfl
theorem f114 {K : VK} {x0 y1 carry2 : Value} {h : Heap} (H : T114 Tryz.prog K x0 y1 carry2 h) : CallP Tryz.prog 114 [x0, y1, carry2] h K :=
 callP_intro k114 (Nat.le_of_ble_eq_true rfl) ((e114 Tryz.prog K x0 y1 carry2 h).mpr H)
/-! F115: math/bits.Sub32 -/
noncomputable def oc115 := compFn Tryz.prog 115 [[], [], []]
@[irreducible] noncomputable def c115 : ICode := icOf oc115
theorem k115 : oc115 = some (25, c115, [.tmp 6, .tmp 7]) := by kernel_rfl
def T115 (P : Program) (K : VK) (x0 y1 borrow2 : Value) (h : Heap) : Prop :=
 OP (iBin .sub x0 y1) fun x10 =>
 OP (iBin .sub x10 borrow2) fun x12 =>
 OP (iUn .xor x0) fun x14 =>
 OP (iBin .and x14 y1) fun x16 =>
 OP (iBin .xor x0 y1) fun x19 =>
 OP (iUn .xor x19) fun x20 =>
 OP (iBin .and x20 x12) fun x22 =>
 OP (iBin .or x16 x22) fun x23 =>
 OP (iBin .shr x23 (.int .u64 (31))) fun x24 =>
 K (.tuple #[x12, x24]) h
theorem e115 (x0 y1 borrow2 : Value) (h : Heap) : iwpP P c115 (bodyP [.tmp 6, .tmp 7] K) (frame0 [x0, y1, borrow2]) h = T115 P K x0 y1 borrow2 h := by kernel_rfl
theorem f115 {K : VK} {x0 y1 borrow2 : Value} {h : Heap} (H : T115 Tryz.prog K x0 y1 borrow2 h) : CallP Tryz.prog 115 [x0, y1, borrow2] h K :=
 callP_intro k115 (Nat.le_of_ble_eq_true rfl) ((e115 Tryz.prog K x0 y1 borrow2 h).mpr H)
/-! F116: pommel/num.byWord -/
noncomputable def oc116 := compFn Tryz.prog 116 [[], [], [], [], [0, 1, 6], [7, 8], [], [], [], [], [6, 7], []]
@[irreducible] noncomputable def c116 : ICode := icOf oc116
@[irreducible] noncomputable def c116z7 : ICode := c116.r.r.r.l.r.l.l
@[irreducible] noncomputable def c116z4 : ICode := c116.r.r.r.r
@[irreducible] noncomputable def c116z13 : ICode := c116z4.l
theorem k116 : oc116 = some (44, c116, [.tmp 4, .tmp 5]) := by kernel_rfl
def K116z0 (_P : Program) (K : VK) : Kont := bodyP [.tmp 4, .tmp 5] K
def K116z4 : Kont := thenK (iwpP P c116z4 (K116z0 P K)) (K116z0 P K)
def K116z6 : Kont := inBlockK 0 (K116z4 P K)
def K116z7 (a0 w1 out6 : Value) (L1 : LK) : Kont := thenK (fun f' h'' => (([0, 1, 6] : List Nat).map f' : List Value) = [a0, w1, out6] ∧ L1 (([7, 8] : List Nat).map f') h'') (K116z6 P K)
def p116z7 (a0 w1 out6 : Value) (L1 : LK) (xs : List Value) (h : Heap) : Prop := CutP (iwpP P c116z7 (K116z7 P K a0 w1 out6 L1)) ([0, 1, 6] ++ [7, 8]) ([a0, w1, out6] ++ xs) h
def p116z13 (out6 rest7 : Value) (h : Heap) : Prop := CutP (iwpP P c116z13 (K116z0 P K)) [6, 7] [out6, rest7] h
theorem q116z7 (a0 w1 out6 : Value) (L1 : LK) (rest7 i8 : Value) (h : Heap) : p116z7 P K a0 w1 out6 L1 [rest7, i8] h =
 (OP (iBin .geq i8 (.int .i64 (0))) fun x17 =>
 IfP x17
 (OP (iBin .shl rest7 (.int .u64 (32))) fun x21 =>
 OP (iAdrSl 1 a0 i8) fun x24 =>
 OP (iLoad false 1 h x24) fun x25 =>
 OP (iConv .u64 x25) fun x26 =>
 OP (iBin .or x21 x26) fun x27 =>
 OP (iConv .u64 w1) fun x32 =>
 OP (iBin .quo x27 x32) fun x33 =>
 OP (iConv .u32 x33) fun x34 =>
 OP (iConv .u64 w1) fun x37 =>
 OP (iBin .rem x27 x37) fun x38 =>
 OP (iAdrSl 1 out6 i8) fun x39 =>
 OH (oStore 1 h x39 x34) fun _ h_1 =>
 (True) ∧
 OP (iBin .sub i8 (.int .i64 (1))) fun x19 =>
 ([a0, w1, out6] : List Value) = [a0, w1, out6] ∧ L1 [x38, x19] h_1)
 (p116z13 P K out6 rest7 h)) := (CutP_def _ _ _ _).trans (by kernel_rfl)
theorem q116z13 (out6 rest7 : Value) (h : Heap) : p116z13 P K out6 rest7 h =
 (CallP P 83 [out6] h fun x41 h_1 =>
 OP (iConv .u32 rest7) fun x43 =>
 K (.tuple #[x41, x43]) h_1) := (CutP_def _ _ _ _).trans (by kernel_rfl)
def T116 (a0 w1 : Value) (h : Heap) : Prop :=
 OP (iLenSl a0) fun x11 =>
 OH (iMake 116 4 [(.int .u32 (0))] h x11 x11) fun x12 h_1 =>
 OP (iLenSl a0) fun x14 =>
 OP (iBin .sub x14 (.int .i64 (1))) fun x15 =>
 LoopP [(.int .u64 (0)), x15] h_1 fun L1 xs hx =>
 p116z7 P K a0 w1 x12 L1 xs hx
theorem e116 (a0 w1 : Value) (h : Heap) : iwpP P c116 (bodyP [.tmp 4, .tmp 5] K) (frame0 [a0, w1]) h = T116 P K a0 w1 h := by kernel_rfl
theorem f116 {K : VK} {a0 w1 : Value} {h : Heap} (H : T116 Tryz.prog K a0 w1 h) : CallP Tryz.prog 116 [a0, w1] h K :=
 callP_intro k116 (Nat.le_of_ble_eq_true rfl) ((e116 Tryz.prog K a0 w1 h).mpr H)
/-! F117: slices.Reverse[[]byte,byte] -/
noncomputable def oc117 := compFn Tryz.prog 117 [[], [0], [2, 3], [], [], []]
@[irreducible] noncomputable def c117 : ICode := icOf oc117
@[irreducible] noncomputable def c117z3 : ICode := c117.r.l.l
theorem k117 : oc117 = some (28, c117, []) := by kernel_rfl
def K117z0 (_P : Program) (K : VK) : Kont := bodyP [] K
def K117z2 : Kont := inBlockK 0 (K117z0 P K)
def K117z3 (s0 : Value) (L1 : LK) : Kont := thenK (fun f' h'' => (([0] : List Nat).map f' : List Value) = [s0] ∧ L1 (([2, 3] : List Nat).map f') h'') (K117z2 P K)
def p117z3 (s0 : Value) (L1 : LK) (xs : List Value) (h : Heap) : Prop := CutP (iwpP P c117z3 (K117z3 P K s0 L1)) ([0] ++ [2, 3]) ([s0] ++ xs) h
theorem q117z3 (s0 : Value) (L1 : LK) (i2 j3 : Value) (h : Heap) : p117z3 P K s0 L1 [i2, j3] h =
 (OP (iBin .lss i2 j3) fun x9 =>
 IfP x9
 (OP (iAdrSl 1 s0 j3) fun x20 =>
 OP (iLoad false 1 h x20) fun x21 =>
 (True) ∧
 OP (iAdrSl 1 s0 i2) fun x24 =>
 OP (iLoad false 1 h x24) fun x25 =>
 (True) ∧
 OP (iAdrSl 1 s0 i2) fun x26 =>
 OH (oStore 1 h x26 x21) fun _ h_1 =>
 (True) ∧
 OP (iAdrSl 1 s0 j3) fun x27 =>
 OH (oStore 1 h_1 x27 x25) fun _ h_2 =>
 (True) ∧
 OP (iBin .add i2 (.int .i64 (1))) fun x11 =>
 OP (iBin .sub j3 (.int .i64 (1))) fun x13 =>
 ([s0] : List Value) = [s0] ∧ L1 [x11, x13] h_2)
 (K (.tuple #[]) h)) := (CutP_def _ _ _ _).trans (by kernel_rfl)
def T117 (s0 : Value) (h : Heap) : Prop :=
 OP (iLenSl s0) fun x5 =>
 OP (iBin .sub x5 (.int .i64 (1))) fun x6 =>
 LoopP [(.int .i64 (0)), x6] h fun L1 xs hx =>
 p117z3 P K s0 L1 xs hx
theorem e117 (s0 : Value) (h : Heap) : iwpP P c117 (bodyP [] K) (frame0 [s0]) h = T117 P K s0 h := by kernel_rfl
theorem f117 {K : VK} {s0 : Value} {h : Heap} (H : T117 Tryz.prog K s0 h) : CallP Tryz.prog 117 [s0] h K :=
 callP_intro k117 (Nat.le_of_ble_eq_true rfl) ((e117 Tryz.prog K s0 h).mpr H)
/-! F120: (pommel/num.Int).Neg -/
noncomputable def oc120 := compFn Tryz.prog 120 [[], []]
@[irreducible] noncomputable def c120 : ICode := icOf oc120
theorem k120 : oc120 = some (9, c120, [.cell true 2 2]) := by kernel_rfl
def T120 (a0 : Value) (h : Heap) : Prop :=
 OH (iBox 81 h a0) fun a1 h_1 =>
 OH (iAlloc 81 [(.bool false), (.slice none 0 0)] h_1) fun x2 h_2 =>
 OP (iFadr 0 a1) fun x3 =>
 OP (iLoad false 1 h_2 x3) fun x4 =>
 OP (iUn .not x4) fun x5 =>
 OP (iFadr 1 a1) fun x6 =>
 OP (iLoad false 1 h_2 x6) fun x7 =>
 CallP P 82 [x5, x7] h_2 fun x8 h_3 =>
 OH (oStore 2 h_3 x2 x8) fun _ h_4 =>
 OP (iLoad true 2 h_4 x2) fun r0 =>
 K r0 h_4
theorem e120 (a0 : Value) (h : Heap) : iwpP P c120 (bodyP [.cell true 2 2] K) (frame0 [a0]) h = T120 P K a0 h := by kernel_rfl
theorem f120 {K : VK} {a0 : Value} {h : Heap} (H : T120 Tryz.prog K a0 h) : CallP Tryz.prog 120 [a0] h K :=
 callP_intro k120 (Nat.le_of_ble_eq_true rfl) ((e120 Tryz.prog K a0 h).mpr H)
/-! F122: (pommel/num.Int).Cmp -/
noncomputable def oc122 := compFn Tryz.prog 122 [[], []]
@[irreducible] noncomputable def c122 : ICode := icOf oc122
theorem k122 : oc122 = some (9, c122, [.tmp 4]) := by kernel_rfl
def T122 (a0 b1 : Value) (h : Heap) : Prop :=
 OH (iBox 81 h a0) fun a2 h_1 =>
 OH (iBox 81 h_1 b1) fun b3 h_2 =>
 OP (iLoad true 2 h_2 a2) fun x5 =>
 OP (iLoad true 2 h_2 b3) fun x6 =>
 CallP P 148 [x5, x6] h_2 fun x7 h_3 =>
 CallP P 149 [x7] h_3 fun x8 h_4 =>
 K x8 h_4
theorem e122 (a0 b1 : Value) (h : Heap) : iwpP P c122 (bodyP [.tmp 4] K) (frame0 [a0, b1]) h = T122 P K a0 b1 h := by kernel_rfl
theorem f122 {K : VK} {a0 b1 : Value} {h : Heap} (H : T122 Tryz.prog K a0 b1 h) : CallP Tryz.prog 122 [a0, b1] h K :=
 callP_intro k122 (Nat.le_of_ble_eq_true rfl) ((e122 Tryz.prog K a0 b1 h).mpr H)
/-! F124: pommel/num.times -/
noncomputable def oc124 := compFn Tryz.prog 124 [[], [], [], [1, 5, 18, 19], [20], [], [], [], [], [], [1, 5, 6, 7, 18, 19, 20, 25, 26], [8, 27], [], [], [], [], [], [1, 5, 6, 8, 18, 19, 20], [1, 5, 18, 19, 20], [5], []]
@[irreducible] noncomputable def c124 : ICode := icOf oc124
@[irreducible] noncomputable def c124z6 : ICode := c124.r.r.l.r.l.l
@[irreducible] noncomputable def c124z3 : ICode := c124.r.r.r
@[irreducible] noncomputable def c124z16 : ICode := c124z6.r.r.l.l.r.r.l.r.l.l
@[irreducible] noncomputable def c124z13 : ICode := c124z6.r.r.l.l.r.r.r
@[irreducible] noncomputable def c124z9 : ICode := c124z6.r.r.r
@[irreducible] noncomputable def c124z25 : ICode := c124z3.l
@[irreducible] noncomputable def c124z23 : ICode := c124z13.l
@[irreducible] noncomputable def c124z24 : ICode := c124z9.l
theorem k124 : oc124 = some (68, c124, [.tmp 4]) := by kernel_rfl
def K124z0 (_P : Program) (K : VK) : Kont := bodyP [.tmp 4] K
def K124z3 : Kont := thenK (iwpP P c124z3 (K124z0 P K)) (K124z0 P K)
def K124z5 : Kont := inBlockK 0 (K124z3 P K)
def K124z6 (b1 out5 x18 x19 : Value) (L1 : LK) : Kont := thenK (fun f' h'' => (([1, 5, 18, 19] : List Nat).map f' : List Value) = [b1, out5, x18, x19] ∧ L1 (([20] : List Nat).map f') h'') (K124z5 P K)
def K124z9 (b1 out5 x18 x19 : Value) (L1 : LK) : Kont := thenK (iwpP P c124z9 (K124z6 P K b1 out5 x18 x19 L1)) (K124z6 P K b1 out5 x18 x19 L1)
def K124z10 (b1 out5 x18 x19 : Value) (L1 : LK) : Kont := inBlockK 1 (K124z9 P K b1 out5 x18 x19 L1)
def K124z13 (b1 out5 x18 x19 : Value) (L1 : LK) : Kont := thenK (iwpP P c124z13 (K124z10 P K b1 out5 x18 x19 L1)) (K124z10 P K b1 out5 x18 x19 L1)
def K124z15 (b1 out5 x18 x19 : Value) (L1 : LK) : Kont := inBlockK 2 (K124z13 P K b1 out5 x18 x19 L1)
def K124z16 (b1 out5 i6 x7 x18 x19 x20 x25 x26 : Value) (L1 L2 : LK) : Kont := thenK (fun f' h'' => (([1, 5, 6, 7, 18, 19, 20, 25, 26] : List Nat).map f' : List Value) = [b1, out5, i6, x7, x18, x19, x20, x25, x26] ∧ L2 (([8, 27] : List Nat).map f') h'') (K124z15 P K b1 out5 x18 x19 L1)
def p124z6 (b1 out5 x18 x19 : Value) (L1 : LK) (xs : List Value) (h : Heap) : Prop := CutP (iwpP P c124z6 (K124z6 P K b1 out5 x18 x19 L1)) ([1, 5, 18, 19] ++ [20]) ([b1, out5, x18, x19] ++ xs) h
def p124z16 (b1 out5 i6 x7 x18 x19 x20 x25 x26 : Value) (L1 L2 : LK) (xs : List Value) (h : Heap) : Prop := CutP (iwpP P c124z16 (K124z16 P K b1 out5 i6 x7 x18 x19 x20 x25 x26 L1 L2)) ([1, 5, 6, 7, 18, 19, 20, 25, 26] ++ [8, 27]) ([b1, out5, i6, x7, x18, x19, x20, x25, x26] ++ xs) h
def p124z23 (b1 out5 i6 carry8 x18 x19 x20 : Value) (L1 : LK) (h : Heap) : Prop := CutP (iwpP P c124z23 (K124z10 P K b1 out5 x18 x19 L1)) [1, 5, 6, 8, 18, 19, 20] [b1, out5, i6, carry8, x18, x19, x20] h
def p124z24 (b1 out5 x18 x19 x20 : Value) (L1 : LK) (h : Heap) : Prop := CutP (iwpP P c124z24 (K124z6 P K b1 out5 x18 x19 L1)) [1, 5, 18, 19, 20] [b1, out5, x18, x19, x20] h
def p124z25 (out5 : Value) (h : Heap) : Prop := CutP (iwpP P c124z25 (K124z0 P K)) [5] [out5] h
theorem q124z16 (b1 out5 i6 x7 x18 x19 x20 x25 x26 : Value) (L1 L2 : LK) (carry8 x27 : Value) (h : Heap) : p124z16 P K b1 out5 i6 x7 x18 x19 x20 x25 x26 L1 L2 [carry8, x27] h =
 (OP (iBin .lss x27 x26) fun x28 =>
 IfP x28
 (OP (iAdrSl 1 x25 x27) fun x30 =>
 OP (iLoad false 1 h x30) fun x31 =>
 OP (iConv .u64 x7) fun x33 =>
 OP (iConv .u64 x31) fun x35 =>
 OP (iBin .mul x33 x35) fun x36 =>
 OP (iBin .add i6 x27) fun x40 =>
 OP (iAdrSl 1 out5 x40) fun x41 =>
 OP (iLoad false 1 h x41) fun x42 =>
 OP (iConv .u64 x42) fun x43 =>
 OP (iBin .add x36 x43) fun x44 =>
 OP (iBin .add x44 carry8) fun x46 =>
 OP (iBin .add i6 x27) fun x50 =>
 OP (iConv .u32 x46) fun x52 =>
 OP (iBin .shr x46 (.int .u64 (32))) fun x54 =>
 OP (iAdrSl 1 out5 x50) fun x55 =>
 OH (oStore 1 h x55 x52) fun _ h_1 =>
 OP (iBin .add x27 (.int .i64 (1))) fun x56 =>
 ([b1, out5, i6, x7, x18, x19, x20, x25, x26] : List Value) = [b1, out5, i6, x7, x18, x19, x20, x25, x26] ∧ L2 [x54, x56] h_1)
 (p124z23 P K b1 out5 i6 carry8 x18 x19 x20 L1 h)) := (CutP_def _ _ _ _).trans (by kernel_rfl)
theorem q124z23 (b1 out5 i6 carry8 x18 x19 x20 : Value) (L1 : LK) (h : Heap) : p124z23 P K b1 out5 i6 carry8 x18 x19 x20 L1 h =
 (OP (iLenSl b1) fun x60 =>
 OP (iBin .add i6 x60) fun x61 =>
 OP (iConv .u32 carry8) fun x63 =>
 OP (iAdrSl 1 out5 x61) fun x64 =>
 OH (oStore 1 h x64 x63) fun _ h_1 =>
 p124z24 P K b1 out5 x18 x19 x20 L1 h_1) := (CutP_def _ _ _ _).trans (by kernel_rfl)
theorem q124z24 (b1 out5 x18 x19 x20 : Value) (L1 : LK) (h : Heap) : p124z24 P K b1 out5 x18 x19 x20 L1 h =
 (OP (iBin .add x20 (.int .i64 (1))) fun x65 =>
 ([b1, out5, x18, x19] : List Value) = [b1, out5, x18, x19] ∧ L1 [x65] h) := (CutP_def _ _ _ _).trans (by kernel_rfl)
theorem q124z6 (b1 out5 x18 x19 : Value) (L1 : LK) (x20 : Value) (h : Heap) : p124z6 P K b1 out5 x18 x19 L1 [x20] h =
 (OP (iBin .lss x20 x19) fun x21 =>
 IfP x21
 (OP (iAdrSl 1 x18 x20) fun x23 =>
 OP (iLoad false 1 h x23) fun x24 =>
 OP (iLenSl b1) fun x26 =>
 LoopP [(.int .u64 (0)), (.int .i64 (0))] h fun L2 xs hx =>
 p124z16 P K b1 out5 x20 x24 x18 x19 x20 b1 x26 L1 L2 xs hx)
 (p124z25 P K out5 h)) := (CutP_def _ _ _ _).trans (by kernel_rfl)
theorem q124z25 (out5 : Value) (h : Heap) : p124z25 P K out5 h =
 (CallP P 83 [out5] h fun x67 h_1 =>
 K x67 h_1) := (CutP_def _ _ _ _).trans (by kernel_rfl)
def T124 (a0 b1 : Value) (h : Heap) : Prop :=
 OP (iLenSl a0) fun x13 =>
 OP (iLenSl b1) fun x15 =>
 OP (iBin .add x13 x15) fun x16 =>
 OH (iMake 116 4 [(.int .u32 (0))] h x16 x16) fun x17 h_1 =>
 OP (iLenSl a0) fun x19 =>
 LoopP [(.int .i64 (0))] h_1 fun L1 xs hx =>
 p124z6 P K b1 x17 a0 x19 L1 xs hx
theorem e124 (a0 b1 : Value) (h : Heap) : iwpP P c124 (bodyP [.tmp 4] K) (frame0 [a0, b1]) h = T124 P K a0 b1 h := by kernel_rfl
theorem f124 {K : VK} {a0 b1 : Value} {h : Heap} (H : T124 Tryz.prog K a0 b1 h) : CallP Tryz.prog 124 [a0, b1] h K :=
 callP_intro k124 (Nat.le_of_ble_eq_true rfl) ((e124 Tryz.prog K a0 b1 h).mpr H)
/-! F148: (pommel/num.Int).Sub -/
noncomputable def oc148 := compFn Tryz.prog 148 [[], []]
@[irreducible] noncomputable def c148 : ICode := icOf oc148
theorem k148 : oc148 = some (9, c148, [.cell true 2 4]) := by kernel_rfl
def T148 (a0 b1 : Value) (h : Heap) : Prop :=
 OH (iBox 81 h a0) fun a2 h_1 =>
 OH (iBox 81 h_1 b1) fun b3 h_2 =>
 OH (iAlloc 81 [(.bool false), (.slice none 0 0)] h_2) fun x4 h_3 =>
 OP (iLoad true 2 h_3 a2) fun x5 =>
 (True) ∧
 OP (iLoad true 2 h_3 b3) fun x6 =>
 (True) ∧
 CallP P 120 [x6] h_3 fun x7 h_4 =>
 (iLoad true 2 h_4 a2 = some x5 ∧ True) ∧
 CallP P 48 [x5, x7] h_4 fun x8 h_5 =>
 (True) ∧
 OH (oStore 2 h_5 x4 x8) fun _ h_6 =>
 (True) ∧
 OP (iLoad true 2 h_6 x4) fun r0 =>
 K r0 h_6
theorem e148 (a0 b1 : Value) (h : Heap) : iwpP P c148 (bodyP [.cell true 2 4] K) (frame0 [a0, b1]) h = T148 P K a0 b1 h := by kernel_rfl
theorem f148 {K : VK} {a0 b1 : Value} {h : Heap} (H : T148 Tryz.prog K a0 b1 h) : CallP Tryz.prog 148 [a0, b1] h K :=
 callP_intro k148 (Nat.le_of_ble_eq_true rfl) ((e148 Tryz.prog K a0 b1 h).mpr H)
/-! F149: (pommel/num.Int).Sign -/
noncomputable def oc149 := compFn Tryz.prog 149 [[], [], [], [], [], [], []]
@[irreducible] noncomputable def c149 : ICode := icOf oc149
theorem k149 : oc149 = some (11, c149, [.tmp 2]) := by kernel_rfl
def T149 (P : Program) (K : VK) (a0 : Value) (h : Heap) : Prop :=
 OH (iBox 81 h a0) fun a1 h_1 =>
 OP (iFadr 1 a1) fun x4 =>
 OP (iLoad false 1 h_1 x4) fun x5 =>
 OP (iLenSl x5) fun x6 =>
 OP (iBin .eql x6 (.int .i64 (0))) fun x7 =>
 IfP x7
 (K (.int .i64 (0)) h_1)
 (OP (iFadr 0 a1) fun x9 =>
 OP (iLoad false 1 h_1 x9) fun x10 =>
 IfP x10
 (K (.int .i64 (-1)) h_1)
 (K (.int .i64 (1)) h_1))
theorem e149 (a0 : Value) (h : Heap) : iwpP P c149 (bodyP [.tmp 2] K) (frame0 [a0]) h = T149 P K a0 h := by kernel_rfl
theorem f149 {K : VK} {a0 : Value} {h : Heap} (H : T149 Tryz.prog K a0 h) : CallP Tryz.prog 149 [a0] h K :=
 callP_intro k149 (Nat.le_of_ble_eq_true rfl) ((e149 Tryz.prog K a0 h).mpr H)
end Go.Proofs.YthplaillblmgfaaGreatDoor

namespace Go.Proofs.YthplaillblmgfaaGreatDoor
open Go.Sim
variable (P : Program) (K : VK)
/-! F50: (pommel/num.Rat).Num -/
noncomputable def oc50 := compFn Tryz.prog 50 [[], [], [], [], [], [], [1, 4], [], [], [], [], [], [], [], []]
@[irreducible] noncomputable def c50 : ICode := icOf oc50
@[irreducible] noncomputable def c50z8 : ICode := c50.r.r.r.r.l
theorem k50 : oc50 = some (32, c50, [.tmp 2, .tmp 3]) := by kernel_rfl
def K50z0 (_P : Program) (K : VK) : Kont := bodyP [.tmp 2, .tmp 3] K
def p50z8 (a1 s4 : Value) (h : Heap) : Prop := CutP (iwpP P c50z8 (K50z0 P K)) [1, 4] [a1, s4] h
theorem q50z8 (a1 s4 : Value) (h : Heap) : p50z8 P K a1 s4 h =
 (OP (iLoad true 4 h a1) fun x18 =>
 CallP P 89 [x18] h fun x19 h_1 =>
 IfP x19
 (K (.tuple #[s4, (.int .i64 (0))]) h_1)
 (OP (iFadr 2 a1) fun x21 =>
 OP (iFadr 1 x21) fun x22 =>
 OP (iLoad false 1 h_1 x22) fun x23 =>
 CallP P 88 [x23] h_1 fun x24 h_2 =>
 OP (iLenS x24) fun x26 =>
 OP (iBin .gtr x26 (.int .i64 (4000))) fun x27 =>
 IfP x27
 (K (.tuple #[(.string ⟨#[]⟩), (.int .i64 (4))]) h_2)
 (OP (iBin .add s4 (.string ⟨#[47]⟩)) fun x29 =>
 OP (iBin .add x29 x24) fun x31 =>
 K (.tuple #[x31, (.int .i64 (0))]) h_2))) := (CutP_def _ _ _ _).trans (by kernel_rfl)
def T50 (a0 : Value) (h : Heap) : Prop :=
 OH (iBox 86 h a0) fun a1 h_1 =>
 OP (iFadr 0 a1) fun x6 =>
 OP (iFadr 1 x6) fun x7 =>
 OP (iLoad false 1 h_1 x7) fun x8 =>
 CallP P 88 [x8] h_1 fun x9 h_2 =>
 OP (iLenS x9) fun x11 =>
 OP (iBin .gtr x11 (.int .i64 (4000))) fun x12 =>
 IfP x12
 (K (.tuple #[(.string ⟨#[]⟩), (.int .i64 (4))]) h_2)
 (OP (iFadr 0 a1) fun x13 =>
 OP (iFadr 0 x13) fun x14 =>
 OP (iLoad false 1 h_2 x14) fun x15 =>
 IfP x15
 (OP (iBin .add (.string ⟨#[45]⟩) x9) fun x17 =>
 p50z8 P K a1 x17 h_2)
 (p50z8 P K a1 x9 h_2))
theorem e50 (a0 : Value) (h : Heap) : iwpP P c50 (bodyP [.tmp 2, .tmp 3] K) (frame0 [a0]) h = T50 P K a0 h := by kernel_rfl
theorem f50 {K : VK} {a0 : Value} {h : Heap} (H : T50 Tryz.prog K a0 h) : CallP Tryz.prog 50 [a0] h K :=
 callP_intro k50 (Nat.le_of_ble_eq_true rfl) ((e50 Tryz.prog K a0 h).mpr H)
/-! F67: pommel/num.Whole -/
noncomputable def oc67 := compFn Tryz.prog 67 [[], []]
@[irreducible] noncomputable def c67 : ICode := icOf oc67
theorem k67 : oc67 = some (7, c67, [.cell true 4 2]) := by kernel_rfl
def T67 (n0 : Value) (h : Heap) : Prop :=
 OH (iAlloc 86 [(.bool false), (.slice none 0 0), (.bool false), (.slice none 0 0)] h) fun x2 h_1 =>
 CallP P 46 [n0] h_1 fun x4 h_2 =>
 CallP P 46 [(.int .i64 (1))] h_2 fun x5 h_3 =>
 OP (iBuild [(.bool false), (.slice none 0 0), (.bool false), (.slice none 0 0)] [(0, 2, x4), (2, 2, x5)]) fun x6 =>
 OH (oStore 4 h_3 x2 x6) fun _ h_4 =>
 OP (iLoad true 4 h_4 x2) fun r0 =>
 K r0 h_4
theorem e67 (n0 : Value) (h : Heap) : iwpP P c67 (bodyP [.cell true 4 2] K) (frame0 [n0]) h = T67 P K n0 h := by kernel_rfl
theorem f67 {K : VK} {n0 : Value} {h : Heap} (H : T67 Tryz.prog K n0 h) : CallP Tryz.prog 67 [n0] h K :=
 callP_intro k67 (Nat.le_of_ble_eq_true rfl) ((e67 Tryz.prog K n0 h).mpr H)
/-! F68: (pommel/num.Rat).Div -/
noncomputable def oc68 := compFn Tryz.prog 68 [[], []]
@[irreducible] noncomputable def c68 : ICode := icOf oc68
theorem k68 : oc68 = some (16, c68, [.cell true 4 4]) := by kernel_rfl
def T68 (a0 b1 : Value) (h : Heap) : Prop :=
 OH (iBox 86 h a0) fun a2 h_1 =>
 OH (iBox 86 h_1 b1) fun b3 h_2 =>
 OH (iAlloc 86 [(.bool false), (.slice none 0 0), (.bool false), (.slice none 0 0)] h_2) fun x4 h_3 =>
 OP (iFadr 0 a2) fun x5 =>
 OP (iLoad true 2 h_3 x5) fun x6 =>
 (True) ∧
 OP (iFadr 2 b3) fun x7 =>
 OP (iLoad true 2 h_3 x7) fun x8 =>
 (True) ∧
 CallP P 105 [x6, x8] h_3 fun x9 h_4 =>
 (True) ∧
 OP (iFadr 2 a2) fun x10 =>
 OP (iLoad true 2 h_4 x10) fun x11 =>
 (iLoad true 2 h_3 x10 = some x11 ∧ True) ∧
 OP (iFadr 0 b3) fun x12 =>
 OP (iLoad true 2 h_4 x12) fun x13 =>
 (iLoad true 2 h_3 x12 = some x13 ∧ True) ∧
 CallP P 105 [x11, x13] h_4 fun x14 h_5 =>
 (True) ∧
 CallP P 104 [x9, x14] h_5 fun x15 h_6 =>
 (True) ∧
 OH (oStore 4 h_6 x4 x15) fun _ h_7 =>
 (True) ∧
 OP (iLoad true 4 h_7 x4) fun r0 =>
 K r0 h_7
theorem e68 (a0 b1 : Value) (h : Heap) : iwpP P c68 (bodyP [.cell true 4 4] K) (frame0 [a0, b1]) h = T68 P K a0 b1 h := by kernel_rfl
theorem f68 {K : VK} {a0 b1 : Value} {h : Heap} (H : T68 Tryz.prog K a0 b1 h) : CallP Tryz.prog 68 [a0, b1] h K :=
 callP_intro k68 (Nat.le_of_ble_eq_true rfl) ((e68 Tryz.prog K a0 b1 h).mpr H)
/-! F88: pommel/num.text -/
noncomputable def oc88 := compFn Tryz.prog 88 [[], [], [], [], [], [], [0, 3], [], [], [], [], [4], [3, 5, 6], [3, 4, 5, 6, 20], [3, 4, 5, 6, 20, 24], [3, 4, 5, 6, 20, 24, 26], [3, 4, 5, 6, 20, 27], [], [], [], [], [3, 4], [3], [], []]
@[irreducible] noncomputable def c88 : ICode := icOf oc88
@[irreducible] noncomputable def c88z8 : ICode := c88.r.r.r.l.l.l
@[irreducible] noncomputable def c88z6 : ICode := c88.r.r.r.r
@[irreducible] noncomputable def c88z16 : ICode := c88z8.r.l.r.l.r.l.l
@[irreducible] noncomputable def c88z13 : ICode := c88z8.r.l.r.r
@[irreducible] noncomputable def c88z31 : ICode := c88z6.l
@[irreducible] noncomputable def c88z20 : ICode := c88z16.l.l.r.l
@[irreducible] noncomputable def c88z18 : ICode := c88z16.l.r
@[irreducible] noncomputable def c88z17 : ICode := c88z16.r
@[irreducible] noncomputable def c88z30 : ICode := c88z13.l
@[irreducible] noncomputable def c88z22 : ICode := c88z20.r.l
@[irreducible] noncomputable def c88z24 : ICode := c88z22.r.l
@[irreducible] noncomputable def c88z26 : ICode := c88z24.r.l
theorem k88 : oc88 = some (45, c88, [.tmp 2]) := by kernel_rfl
def K88z0 (_P : Program) (K : VK) : Kont := bodyP [.tmp 2] K
def K88z6 : Kont := thenK (iwpP P c88z6 (K88z0 P K)) (K88z0 P K)
def K88z7 : Kont := inBlockK 0 (K88z6 P K)
def K88z8 (L1 : LK) : Kont := thenK (fun f' h'' => (([] : List Nat).map f' : List Value) = [] ∧ L1 (([0, 3] : List Nat).map f') h'') (K88z7 P K)
def K88z11 (L1 : LK) : Kont := inBlockK 1 (K88z8 P K L1)
def K88z13 (L1 : LK) : Kont := thenK (iwpP P c88z13 (K88z11 P K L1)) (K88z11 P K L1)
def K88z15 (L1 : LK) : Kont := inBlockK 2 (K88z13 P K L1)
def K88z16 (q4 : Value) (L1 L2 : LK) : Kont := thenK (fun f' h'' => (([4] : List Nat).map f' : List Value) = [q4] ∧ L2 (([3, 5, 6] : List Nat).map f') h'') (K88z15 P K L1)
def K88z17 (q4 : Value) (L1 L2 : LK) : Kont := thenK (iwpP P c88z17 (K88z16 P K q4 L1 L2)) (K88z16 P K q4 L1 L2)
def K88z18 (q4 : Value) (L1 L2 : LK) : Kont := thenK (iwpP P c88z18 (K88z17 P K q4 L1 L2)) (K88z17 P K q4 L1 L2)
def p88z8 (L1 : LK) (xs : List Value) (h : Heap) : Prop := CutP (iwpP P c88z8 (K88z8 P K L1)) ([] ++ [0, 3]) ([] ++ xs) h
def p88z16 (q4 : Value) (L1 L2 : LK) (xs : List Value) (h : Heap) : Prop := CutP (iwpP P c88z16 (K88z16 P K q4 L1 L2)) ([4] ++ [3, 5, 6]) ([q4] ++ xs) h
def p88z20 (b3 q4 r5 i6 x20 : Value) (L1 L2 : LK) (h : Heap) : Prop := CutP (iwpP P c88z20 (K88z18 P K q4 L1 L2)) [3, 4, 5, 6, 20] [b3, q4, r5, i6, x20] h
def p88z22 (b3 q4 r5 i6 x20 x24 : Value) (L1 L2 : LK) (h : Heap) : Prop := CutP (iwpP P c88z22 (K88z18 P K q4 L1 L2)) [3, 4, 5, 6, 20, 24] [b3, q4, r5, i6, x20, x24] h
def p88z24 (b3 q4 r5 i6 x20 x24 x26 : Value) (L1 L2 : LK) (h : Heap) : Prop := CutP (iwpP P c88z24 (K88z18 P K q4 L1 L2)) [3, 4, 5, 6, 20, 24, 26] [b3, q4, r5, i6, x20, x24, x26] h
def p88z26 (b3 q4 r5 i6 x20 x27 : Value) (L1 L2 : LK) (h : Heap) : Prop := CutP (iwpP P c88z26 (K88z18 P K q4 L1 L2)) [3, 4, 5, 6, 20, 27] [b3, q4, r5, i6, x20, x27] h
def p88z30 (b3 q4 : Value) (L1 : LK) (h : Heap) : Prop := CutP (iwpP P c88z30 (K88z11 P K L1)) [3, 4] [b3, q4] h
def p88z31 (b3 : Value) (h : Heap) : Prop := CutP (iwpP P c88z31 (K88z0 P K)) [3] [b3] h
theorem q88z26 (b3 q4 r5 i6 x20 x27 : Value) (L1 L2 : LK) (h : Heap) : p88z26 P K b3 q4 r5 i6 x20 x27 L1 L2 h =
 (OP (iPick x20 x27 (.bool false)) fun x28 =>
 IfP x28
 (OP (iBin .rem r5 (.int .u32 (10))) fun x33 =>
 OP (iBin .add (.int .u32 (48)) x33) fun x34 =>
 OP (iConv .u8 x34) fun x35 =>
 OH (iMkSl 5 1 [(.int .u8 (0))] h [(0, 1, x35)]) fun x36 h_1 =>
 OH (iApp 5 1 1 h_1 b3 x36) fun x37 h_2 =>
 OP (iBin .quo r5 (.int .u32 (10))) fun x39 =>
 OP (iBin .add i6 (.int .i64 (1))) fun x30 =>
 ([q4] : List Value) = [q4] ∧ L2 [x37, x39, x30] h_2)
 (p88z30 P K b3 q4 L1 h)) := (CutP_def _ _ _ _).trans (by kernel_rfl)
theorem q88z24 (b3 q4 r5 i6 x20 x24 x26 : Value) (L1 L2 : LK) (h : Heap) : p88z24 P K b3 q4 r5 i6 x20 x24 x26 L1 L2 h =
 (GdP x20 true
 (OP (iPick x24 (.bool true) x26) fun x27 =>
 p88z26 P K b3 q4 r5 i6 x20 x27 L1 L2 h)
 (p88z26 P K b3 q4 r5 i6 x20 undef L1 L2 h)) := (CutP_def _ _ _ _).trans (by kernel_rfl)
theorem q88z22 (b3 q4 r5 i6 x20 x24 : Value) (L1 L2 : LK) (h : Heap) : p88z22 P K b3 q4 r5 i6 x20 x24 L1 L2 h =
 (GdP x24 false
 (OP (iBin .gtr r5 (.int .u32 (0))) fun x26 =>
 p88z24 P K b3 q4 r5 i6 x20 x24 x26 L1 L2 h)
 (p88z24 P K b3 q4 r5 i6 x20 x24 undef L1 L2 h)) := (CutP_def _ _ _ _).trans (by kernel_rfl)
theorem q88z20 (b3 q4 r5 i6 x20 : Value) (L1 L2 : LK) (h : Heap) : p88z20 P K b3 q4 r5 i6 x20 L1 L2 h =
 (GdP x20 true
 (OP (iLenSl q4) fun x22 =>
 OP (iBin .gtr x22 (.int .i64 (0))) fun x23 =>
 p88z22 P K b3 q4 r5 i6 x20 x23 L1 L2 h)
 (p88z22 P K b3 q4 r5 i6 x20 undef L1 L2 h)) := (CutP_def _ _ _ _).trans (by kernel_rfl)
theorem q88z16 (q4 : Value) (L1 L2 : LK) (b3 r5 i6 : Value) (h : Heap) : p88z16 P K q4 L1 L2 [b3, r5, i6] h =
 (OP (iBin .lss i6 (.int .i64 (9))) fun x19 =>
 p88z20 P K b3 q4 r5 i6 x19 L1 L2 h) := (CutP_def _ _ _ _).trans (by kernel_rfl)
theorem q88z30 (b3 q4 : Value) (L1 : LK) (h : Heap) : p88z30 P K b3 q4 L1 h =
 (([] : List Value) = [] ∧ L1 [q4, b3] h) := (CutP_def _ _ _ _).trans (by kernel_rfl)
theorem q88z8 (L1 : LK) (x0 b3 : Value) (h : Heap) : p88z8 P K L1 [x0, b3] h =
 (OP (iLenSl x0) fun x11 =>
 OP (iBin .gtr x11 (.int .i64 (0))) fun x12 =>
 IfP x12
 (CallP P 116 [x0, (.int .u32 (1000000000))] h fun x15 h_1 =>
 OP (iExt 0 x15) fun x16 =>
 OP (iExt 1 x15) fun x17 =>
 LoopP [b3, x17, (.int .i64 (0))] h_1 fun L2 xs hx =>
 p88z16 P K x16 L1 L2 xs hx)
 (p88z31 P K b3 h)) := (CutP_def _ _ _ _).trans (by kernel_rfl)
theorem q88z31 (b3 : Value) (h : Heap) : p88z31 P K b3 h =
 (CallP P 117 [b3] h fun x42 h_1 =>
 OP (iB2s h_1 b3) fun x44 =>
 K x44 h_1) := (CutP_def _ _ _ _).trans (by kernel_rfl)
def T88 (x0 : Value) (h : Heap) : Prop :=
 OP (iLenSl x0) fun x8 =>
 OP (iBin .eql x8 (.int .i64 (0))) fun x9 =>
 IfP x9
 (K (.string ⟨#[48]⟩) h)
 (LoopP [x0, (.slice none 0 0)] h fun L1 xs hx =>
 p88z8 P K L1 xs hx)
theorem e88 (x0 : Value) (h : Heap) : iwpP P c88 (bodyP [.tmp 2] K) (frame0 [x0]) h = T88 P K x0 h := by kernel_rfl
theorem f88 {K : VK} {x0 : Value} {h : Heap} (H : T88 Tryz.prog K x0 h) : CallP Tryz.prog 88 [x0] h K :=
 callP_intro k88 (Nat.le_of_ble_eq_true rfl) ((e88 Tryz.prog K x0 h).mpr H)
/-! F89: (pommel/num.Rat).Integer -/
noncomputable def oc89 := compFn Tryz.prog 89 [[], [1, 8], [8, 14], []]
@[irreducible] noncomputable def c89 : ICode := icOf oc89
@[irreducible] noncomputable def c89z4 : ICode := c89.r.l.r.l
@[irreducible] noncomputable def c89z2 : ICode := c89.r.r
@[irreducible] noncomputable def c89z6 : ICode := c89z4.r.l
theorem k89 : oc89 = some (16, c89, [.tmp 2]) := by kernel_rfl
def K89z0 (_P : Program) (K : VK) : Kont := bodyP [.tmp 2] K
def K89z2 : Kont := thenK (iwpP P c89z2 (K89z0 P K)) (K89z0 P K)
def p89z4 (a1 x8 : Value) (h : Heap) : Prop := CutP (iwpP P c89z4 (K89z2 P K)) [1, 8] [a1, x8] h
def p89z6 (x8 x14 : Value) (h : Heap) : Prop := CutP (iwpP P c89z6 (K89z2 P K)) [8, 14] [x8, x14] h
theorem q89z6 (x8 x14 : Value) (h : Heap) : p89z6 P K x8 x14 h =
 (OP (iPick x8 x14 (.bool false)) fun x15 =>
 K x15 h) := (CutP_def _ _ _ _).trans (by kernel_rfl)
theorem q89z4 (a1 x8 : Value) (h : Heap) : p89z4 P K a1 x8 h =
 (GdP x8 true
 (OP (iFadr 2 a1) fun x9 =>
 OP (iFadr 1 x9) fun x10 =>
 OP (iLoad false 1 h x10) fun x11 =>
 OP (iAdrSl 1 x11 (.int .i64 (0))) fun x12 =>
 OP (iLoad false 1 h x12) fun x13 =>
 OP (iBin .eql x13 (.int .u32 (1))) fun x14 =>
 p89z6 P K x8 x14 h)
 (p89z6 P K x8 undef h)) := (CutP_def _ _ _ _).trans (by kernel_rfl)
def T89 (a0 : Value) (h : Heap) : Prop :=
 OH (iBox 86 h a0) fun a1 h_1 =>
 OP (iFadr 2 a1) fun x3 =>
 OP (iFadr 1 x3) fun x4 =>
 OP (iLoad false 1 h_1 x4) fun x5 =>
 OP (iLenSl x5) fun x6 =>
 OP (iBin .eql x6 (.int .i64 (1))) fun x7 =>
 p89z4 P K a1 x7 h_1
theorem e89 (a0 : Value) (h : Heap) : iwpP P c89 (bodyP [.tmp 2] K) (frame0 [a0]) h = T89 P K a0 h := by kernel_rfl
theorem f89 {K : VK} {a0 : Value} {h : Heap} (H : T89 Tryz.prog K a0 h) : CallP Tryz.prog 89 [a0] h K :=
 callP_intro k89 (Nat.le_of_ble_eq_true rfl) ((e89 Tryz.prog K a0 h).mpr H)
/-! F104: pommel/num.Ratio -/
noncomputable def oc104 := compFn Tryz.prog 104 [[], [], [2, 3, 4], [], [], [], [], [], [], []]
@[irreducible] noncomputable def c104 : ICode := icOf oc104
@[irreducible] noncomputable def c104z4 : ICode := c104.r.r.l
theorem k104 : oc104 = some (41, c104, [.cell true 4 4]) := by kernel_rfl
def K104z0 (_P : Program) (K : VK) : Kont := bodyP [.cell true 4 4] K
def p104z4 (num2 den3 x4 : Value) (h : Heap) : Prop := CutP (iwpP P c104z4 (K104z0 P K)) [2, 3, 4] [num2, den3, x4] h
theorem q104z4 (num2 den3 x4 : Value) (h : Heap) : p104z4 P K num2 den3 x4 h =
 (OP (iLoad true 2 h num2) fun x16 =>
 OP (iLoad true 2 h den3) fun x17 =>
 CallP P 121 [x16, x17] h fun x18 h_1 =>
 OH (iAlloc 81 [(.bool false), (.slice none 0 0)] h_1) fun g5 h_2 =>
 OH (oStore 2 h_2 g5 x18) fun _ h_3 =>
 OP (iLoad true 2 h_3 g5) fun x19 =>
 (True) ∧
 CallP P 46 [(.int .i64 (1))] h_3 fun x20 h_4 =>
 (iLoad true 2 h_4 g5 = some x19 ∧ True) ∧
 CallP P 122 [x19, x20] h_4 fun x21 h_5 =>
 (True) ∧
 OP (iBin .eql x21 (.int .i64 (0))) fun x22 =>
 IfP x22
 (OP (iLoad true 2 h_5 num2) fun x23 =>
 OP (iLoad true 2 h_5 den3) fun x24 =>
 OP (iBuild [(.bool false), (.slice none 0 0), (.bool false), (.slice none 0 0)] [(0, 2, x23), (2, 2, x24)]) fun x25 =>
 OH (oStore 4 h_5 x4 x25) fun _ h_6 =>
 OP (iLoad true 4 h_6 x4) fun r0 =>
 K r0 h_6)
 (OP (iLoad true 2 h_5 num2) fun x27 =>
 OP (iLoad true 2 h_5 g5) fun x28 =>
 CallP P 123 [x27, x28] h_5 fun x29 h_6 =>
 OP (iExt 0 x29) fun x30 =>
 OP (iExt 1 x29) fun x31 =>
 OH (iAlloc 81 [(.bool false), (.slice none 0 0)] h_6) fun n6 h_7 =>
 OH (iAlloc 81 [(.bool false), (.slice none 0 0)] h_7) fun x7 h_8 =>
 OH (oStore 2 h_8 n6 x30) fun _ h_9 =>
 OH (oStore 2 h_9 x7 x31) fun _ h_10 =>
 OP (iLoad true 2 h_10 den3) fun x33 =>
 OP (iLoad true 2 h_10 g5) fun x34 =>
 CallP P 123 [x33, x34] h_10 fun x35 h_11 =>
 OP (iExt 0 x35) fun x36 =>
 OP (iExt 1 x35) fun x37 =>
 OH (iAlloc 81 [(.bool false), (.slice none 0 0)] h_11) fun d8 h_12 =>
 OH (iAlloc 81 [(.bool false), (.slice none 0 0)] h_12) fun x9 h_13 =>
 OH (oStore 2 h_13 d8 x36) fun _ h_14 =>
 OH (oStore 2 h_14 x9 x37) fun _ h_15 =>
 OP (iLoad true 2 h_15 n6) fun x38 =>
 OP (iLoad true 2 h_15 d8) fun x39 =>
 OP (iBuild [(.bool false), (.slice none 0 0), (.bool false), (.slice none 0 0)] [(0, 2, x38), (2, 2, x39)]) fun x40 =>
 OH (oStore 4 h_15 x4 x40) fun _ h_16 =>
 OP (iLoad true 4 h_16 x4) fun r0 =>
 K r0 h_16)) := (CutP_def _ _ _ _).trans (by kernel_rfl)
def T104 (num0 den1 : Value) (h : Heap) : Prop :=
 OH (iBox 81 h num0) fun num2 h_1 =>
 OH (iBox 81 h_1 den1) fun den3 h_2 =>
 OH (iAlloc 86 [(.bool false), (.slice none 0 0), (.bool false), (.slice none 0 0)] h_2) fun x4 h_3 =>
 OP (iFadr 0 den3) fun x10 =>
 OP (iLoad false 1 h_3 x10) fun x11 =>
 IfP x11
 (OP (iLoad true 2 h_3 num2) fun x12 =>
 (True) ∧
 CallP P 120 [x12] h_3 fun x13 h_4 =>
 (True) ∧
 OP (iLoad true 2 h_4 den3) fun x14 =>
 (iLoad true 2 h_3 den3 = some x14 ∧ True) ∧
 CallP P 120 [x14] h_4 fun x15 h_5 =>
 (True) ∧
 OH (oStore 2 h_5 num2 x13) fun _ h_6 =>
 (True) ∧
 OH (oStore 2 h_6 den3 x15) fun _ h_7 =>
 (True) ∧
 p104z4 P K num2 den3 x4 h_7)
 (p104z4 P K num2 den3 x4 h_3)
theorem e104 (num0 den1 : Value) (h : Heap) : iwpP P c104 (bodyP [.cell true 4 4] K) (frame0 [num0, den1]) h = T104 P K num0 den1 h := by kernel_rfl
theorem f104 {K : VK} {num0 den1 : Value} {h : Heap} (H : T104 Tryz.prog K num0 den1 h) : CallP Tryz.prog 104 [num0, den1] h K :=
 callP_intro k104 (Nat.le_of_ble_eq_true rfl) ((e104 Tryz.prog K num0 den1 h).mpr H)
/-! F121: (pommel/num.Int).Gcd -/
noncomputable def oc121 := compFn Tryz.prog 121 [[], [], [4], [5, 6], [], [], [], [4, 5], []]
@[irreducible] noncomputable def c121 : ICode := icOf oc121
@[irreducible] noncomputable def c121z5 : ICode := c121.r.r.l.l.l
@[irreducible] noncomputable def c121z3 : ICode := c121.r.r.r
@[irreducible] noncomputable def c121z10 : ICode := c121z3.l
theorem k121 : oc121 = some (26, c121, [.cell true 2 4]) := by kernel_rfl
def K121z0 (_P : Program) (K : VK) : Kont := bodyP [.cell true 2 4] K
def K121z3 : Kont := thenK (iwpP P c121z3 (K121z0 P K)) (K121z0 P K)
def K121z4 : Kont := inBlockK 0 (K121z3 P K)
def K121z5 (x4 : Value) (L1 : LK) : Kont := thenK (fun f' h'' => (([4] : List Nat).map f' : List Value) = [x4] ∧ L1 (([5, 6] : List Nat).map f') h'') (K121z4 P K)
def p121z5 (x4 : Value) (L1 : LK) (xs : List Value) (h : Heap) : Prop := CutP (iwpP P c121z5 (K121z5 P K x4 L1)) ([4] ++ [5, 6]) ([x4] ++ xs) h
def p121z10 (x4 x5 : Value) (h : Heap) : Prop := CutP (iwpP P c121z10 (K121z0 P K)) [4, 5] [x4, x5] h
theorem q121z5 (x4 : Value) (L1 : LK) (x5 y6 : Value) (h : Heap) : p121z5 P K x4 L1 [x5, y6] h =
 (OP (iLenSl y6) fun x14 =>
 OP (iBin .gtr x14 (.int .i64 (0))) fun x15 =>
 IfP x15
 (CallP P 147 [x5, y6] h fun x19 h_1 =>
 OP (iExt 0 x19) fun x20 =>
 OP (iExt 1 x19) fun x21 =>
 ([x4] : List Value) = [x4] ∧ L1 [y6, x21] h_1)
 (p121z10 P K x4 x5 h)) := (CutP_def _ _ _ _).trans (by kernel_rfl)
theorem q121z10 (x4 x5 : Value) (h : Heap) : p121z10 P K x4 x5 h =
 (CallP P 82 [(.bool false), x5] h fun x25 h_1 =>
 OH (oStore 2 h_1 x4 x25) fun _ h_2 =>
 OP (iLoad true 2 h_2 x4) fun r0 =>
 K r0 h_2) := (CutP_def _ _ _ _).trans (by kernel_rfl)
def T121 (a0 b1 : Value) (h : Heap) : Prop :=
 OH (iBox 81 h a0) fun a2 h_1 =>
 OH (iBox 81 h_1 b1) fun b3 h_2 =>
 OH (iAlloc 81 [(.bool false), (.slice none 0 0)] h_2) fun x4 h_3 =>
 OP (iFadr 1 a2) fun x9 =>
 OP (iLoad false 1 h_3 x9) fun x10 =>
 (True) ∧
 OP (iFadr 1 b3) fun x11 =>
 OP (iLoad false 1 h_3 x11) fun x12 =>
 (True) ∧
 LoopP [x10, x12] h_3 fun L1 xs hx =>
 p121z5 P K x4 L1 xs hx
theorem e121 (a0 b1 : Value) (h : Heap) : iwpP P c121 (bodyP [.cell true 2 4] K) (frame0 [a0, b1]) h = T121 P K a0 b1 h := by kernel_rfl
theorem f121 {K : VK} {a0 b1 : Value} {h : Heap} (H : T121 Tryz.prog K a0 b1 h) : CallP Tryz.prog 121 [a0, b1] h K :=
 callP_intro k121 (Nat.le_of_ble_eq_true rfl) ((e121 Tryz.prog K a0 b1 h).mpr H)
/-! F123: (pommel/num.Int).Quo -/
noncomputable def oc123 := compFn Tryz.prog 123 [[], [], [], [2, 3, 4, 5, 8, 9, 32], [3, 4, 5, 8, 9, 32, 37], [], [4, 5, 8, 9], []]
@[irreducible] noncomputable def c123 : ICode := icOf oc123
@[irreducible] noncomputable def c123z7 : ICode := c123.r.r.r.l.l.r.l
@[irreducible] noncomputable def c123z5 : ICode := c123.r.r.r.l.r
@[irreducible] noncomputable def c123z4 : ICode := c123.r.r.r.r
@[irreducible] noncomputable def c123z9 : ICode := c123z7.r.l
@[irreducible] noncomputable def c123z10 : ICode := c123z4.l
theorem k123 : oc123 = some (47, c123, [.cell true 2 4, .cell true 2 5]) := by kernel_rfl
def K123z0 (_P : Program) (K : VK) : Kont := bodyP [.cell true 2 4, .cell true 2 5] K
def K123z4 : Kont := thenK (iwpP P c123z4 (K123z0 P K)) (K123z0 P K)
def K123z5 : Kont := thenK (iwpP P c123z5 (K123z4 P K)) (K123z4 P K)
def p123z7 (a2 b3 quo4 rest5 x8 y9 x32 : Value) (h : Heap) : Prop := CutP (iwpP P c123z7 (K123z5 P K)) [2, 3, 4, 5, 8, 9, 32] [a2, b3, quo4, rest5, x8, y9, x32] h
def p123z9 (b3 quo4 rest5 x8 y9 x32 x37 : Value) (h : Heap) : Prop := CutP (iwpP P c123z9 (K123z5 P K)) [3, 4, 5, 8, 9, 32, 37] [b3, quo4, rest5, x8, y9, x32, x37] h
def p123z10 (quo4 rest5 x8 y9 : Value) (h : Heap) : Prop := CutP (iwpP P c123z10 (K123z0 P K)) [4, 5, 8, 9] [quo4, rest5, x8, y9] h
theorem q123z9 (b3 quo4 rest5 x8 y9 x32 x37 : Value) (h : Heap) : p123z9 P K b3 quo4 rest5 x8 y9 x32 x37 h =
 (OP (iPick x32 x37 (.bool false)) fun x38 =>
 IfP x38
 (OP (iLoad true 2 h x8) fun x39 =>
 (True) ∧
 CallP P 46 [(.int .i64 (1))] h fun x40 h_1 =>
 (iLoad true 2 h_1 x8 = some x39 ∧ True) ∧
 CallP P 148 [x39, x40] h_1 fun x41 h_2 =>
 (True) ∧
 OP (iLoad true 2 h_2 y9) fun x42 =>
 (iLoad true 2 h y9 = some x42 ∧ iLoad true 2 h_1 y9 = some x42 ∧ True) ∧
 OP (iLoad true 2 h_2 b3) fun x43 =>
 (iLoad true 2 h b3 = some x43 ∧ iLoad true 2 h_1 b3 = some x43 ∧ True) ∧
 CallP P 48 [x42, x43] h_2 fun x44 h_3 =>
 (True) ∧
 OH (oStore 2 h_3 x8 x41) fun _ h_4 =>
 (True) ∧
 OH (oStore 2 h_4 y9 x44) fun _ h_5 =>
 (True) ∧
 p123z10 P K quo4 rest5 x8 y9 h_5)
 (p123z10 P K quo4 rest5 x8 y9 h)) := (CutP_def _ _ _ _).trans (by kernel_rfl)
theorem q123z7 (a2 b3 quo4 rest5 x8 y9 x32 : Value) (h : Heap) : p123z7 P K a2 b3 quo4 rest5 x8 y9 x32 h =
 (GdP x32 true
 (OP (iFadr 0 a2) fun x33 =>
 OP (iLoad false 1 h x33) fun x34 =>
 OP (iFadr 0 b3) fun x35 =>
 OP (iLoad false 1 h x35) fun x36 =>
 OP (iEqb true x34 x36) fun x37 =>
 p123z9 P K b3 quo4 rest5 x8 y9 x32 x37 h)
 (p123z9 P K b3 quo4 rest5 x8 y9 x32 undef h)) := (CutP_def _ _ _ _).trans (by kernel_rfl)
theorem q123z10 (quo4 rest5 x8 y9 : Value) (h : Heap) : p123z10 P K quo4 rest5 x8 y9 h =
 (OP (iLoad true 2 h x8) fun x45 =>
 (True) ∧
 OP (iLoad true 2 h y9) fun x46 =>
 (True) ∧
 OH (oStore 2 h quo4 x45) fun _ h_1 =>
 (iLoad true 2 h_1 y9 = some x46 ∧ True) ∧
 OH (oStore 2 h_1 rest5 x46) fun _ h_2 =>
 (True) ∧
 OP (iLoad true 2 h_2 quo4) fun r0 =>
 OP (iLoad true 2 h_2 rest5) fun r1 =>
 K (.tuple #[r0, r1]) h_2) := (CutP_def _ _ _ _).trans (by kernel_rfl)
def T123 (a0 b1 : Value) (h : Heap) : Prop :=
 OH (iBox 81 h a0) fun a2 h_1 =>
 OH (iBox 81 h_1 b1) fun b3 h_2 =>
 OH (iAlloc 81 [(.bool false), (.slice none 0 0)] h_2) fun quo4 h_3 =>
 OH (iAlloc 81 [(.bool false), (.slice none 0 0)] h_3) fun rest5 h_4 =>
 OP (iFadr 1 a2) fun x11 =>
 OP (iLoad false 1 h_4 x11) fun x12 =>
 OP (iFadr 1 b3) fun x13 =>
 OP (iLoad false 1 h_4 x13) fun x14 =>
 CallP P 147 [x12, x14] h_4 fun x15 h_5 =>
 OP (iExt 0 x15) fun x16 =>
 OP (iExt 1 x15) fun x17 =>
 OH (iAlloc 81 [(.bool false), (.slice none 0 0)] h_5) fun x8 h_6 =>
 OP (iObj h_6 x8) fun u =>
 (True) ∧
 OH (iAlloc 81 [(.bool false), (.slice none 0 0)] h_6) fun y9 h_7 =>
 OP (iObj h_7 y9) fun u_1 =>
 (iObj h_7 x8 = some u ∧ True) ∧
 OP (iFadr 0 a2) fun x18 =>
 OP (iLoad false 1 h_7 x18) fun x19 =>
 (iLoad false 1 h_5 x18 = some x19 ∧ iLoad false 1 h_6 x18 = some x19 ∧ True) ∧
 OP (iFadr 0 b3) fun x20 =>
 OP (iLoad false 1 h_7 x20) fun x21 =>
 (iLoad false 1 h_5 x20 = some x21 ∧ iLoad false 1 h_6 x20 = some x21 ∧ True) ∧
 OP (iEqb true x19 x21) fun x22 =>
 CallP P 82 [x22, x16] h_7 fun x24 h_8 =>
 (iObj h_8 x8 = some u ∧ iObj h_8 y9 = some u_1 ∧ True) ∧
 OP (iFadr 0 a2) fun x25 =>
 OP (iLoad false 1 h_8 x25) fun x26 =>
 (iLoad false 1 h_5 x25 = some x26 ∧ iLoad false 1 h_6 x25 = some x26 ∧ iLoad false 1 h_7 x25 = some x26 ∧ True) ∧
 CallP P 82 [x26, x17] h_8 fun x28 h_9 =>
 (iObj h_9 x8 = some u ∧ iObj h_9 y9 = some u_1 ∧ True) ∧
 OH (oStore 2 h_9 x8 x24) fun _ h_10 =>
 (True) ∧
 OH (oStore 2 h_10 y9 x28) fun _ h_11 =>
 (True) ∧
 OP (iLenSl x17) fun x30 =>
 OP (iBin .gtr x30 (.int .i64 (0))) fun x31 =>
 p123z7 P K a2 b3 quo4 rest5 x8 y9 x31 h_11
theorem e123 (a0 b1 : Value) (h : Heap) : iwpP P c123 (bodyP [.cell true 2 4, .cell true 2 5] K) (frame0 [a0, b1]) h = T123 P K a0 b1 h := by kernel_rfl
theorem f123 {K : VK} {a0 b1 : Value} {h : Heap} (H : T123 Tryz.prog K a0 b1 h) : CallP Tryz.prog 123 [a0, b1] h K :=
 callP_intro k123 (Nat.le_of_ble_eq_true rfl) ((e123 Tryz.prog K a0 b1 h).mpr H)
/-! F147: pommel/num.part -/
noncomputable def oc147 := compFn Tryz.prog 147 [[], [], [], [], [], [], [], [], [], [], [], [], [], [8, 9, 10, 11, 12], [13], [], [], [], [8, 10, 11, 12], []]
@[irreducible] noncomputable def c147 : ICode := icOf oc147
@[irreducible] noncomputable def c147z16 : ICode := c147.r.r.r.r.r.r.r.l.r.l.l
@[irreducible] noncomputable def c147z13 : ICode := c147.r.r.r.r.r.r.r.r
theorem k147 : oc147 = some (85, c147, [.tmp 4, .tmp 5]) := by kernel_rfl
def K147z0 (_P : Program) (K : VK) : Kont := bodyP [.tmp 4, .tmp 5] K
def K147z13 : Kont := thenK (iwpP P c147z13 (K147z0 P K)) (K147z0 P K)
def K147z15 : Kont := inBlockK 0 (K147z13 P K)
def K147z16 (shift8 v9 u10 n11 q12 : Value) (L1 : LK) : Kont := thenK (fun f' h'' => (([8, 9, 10, 11, 12] : List Nat).map f' : List Value) = [shift8, v9, u10, n11, q12] ∧ L1 (([13] : List Nat).map f') h'') (K147z15 P K)
def p147z16 (shift8 v9 u10 n11 q12 : Value) (L1 : LK) (xs : List Value) (h : Heap) : Prop := CutP (iwpP P c147z16 (K147z16 P K shift8 v9 u10 n11 q12 L1)) ([8, 9, 10, 11, 12] ++ [13]) ([shift8, v9, u10, n11, q12] ++ xs) h
def T147 (a0 b1 : Value) (h : Heap) : Prop :=
 CallP P 86 [a0, b1] h fun x16 h_1 =>
 OP (iBin .lss x16 (.int .i64 (0))) fun x17 =>
 IfP x17
 (OH (iApp 116 1 4 h_1 (.slice none 0 0) a0) fun x19 h_2 =>
 K (.tuple #[(.slice none 0 0), x19]) h_2)
 (OP (iLenSl b1) fun x21 =>
 OP (iBin .eql x21 (.int .i64 (1))) fun x22 =>
 IfP x22
 (OP (iAdrSl 1 b1 (.int .i64 (0))) fun x26 =>
 OP (iLoad false 1 h_1 x26) fun x27 =>
 CallP P 116 [a0, x27] h_1 fun x28 h_2 =>
 OP (iExt 0 x28) fun x29 =>
 OP (iExt 1 x28) fun x30 =>
 OH (iMkSl 116 1 [(.int .u32 (0))] h_2 [(0, 1, x30)]) fun x33 h_3 =>
 CallP P 83 [x33] h_3 fun x34 h_4 =>
 K (.tuple #[x29, x34]) h_4)
 (OP (iLenSl b1) fun x37 =>
 OP (iBin .sub x37 (.int .i64 (1))) fun x38 =>
 OP (iAdrSl 1 b1 x38) fun x39 =>
 OP (iLoad false 1 h_1 x39) fun x40 =>
 CallP P 164 [x40] h_1 fun x41 h_2 =>
 CallP P 165 [b1, x41] h_2 fun x44 h_3 =>
 CallP P 83 [x44] h_3 fun x45 h_4 =>
 CallP P 165 [a0, x41] h_4 fun x48 h_5 =>
 OP (iLenSl x45) fun x50 =>
 OP (iLenSl a0) fun x52 =>
 OP (iBin .sub x52 x50) fun x54 =>
 OP (iBin .add x54 (.int .i64 (1))) fun x55 =>
 OH (iMake 116 4 [(.int .u32 (0))] h_5 x55 x55) fun x56 h_6 =>
 OP (iLenSl a0) fun x58 =>
 OP (iBin .sub x58 x50) fun x60 =>
 LoopP [x60] h_6 fun L1 xs hx =>
 p147z16 P K x41 x45 x48 x50 x56 L1 xs hx))
theorem e147 (a0 b1 : Value) (h : Heap) : iwpP P c147 (bodyP [.tmp 4, .tmp 5] K) (frame0 [a0, b1]) h = T147 P K a0 b1 h := by kernel_rfl
theorem f147 {K : VK} {a0 b1 : Value} {h : Heap} (H : T147 Tryz.prog K a0 b1 h) : CallP Tryz.prog 147 [a0, b1] h K :=
 callP_intro k147 (Nat.le_of_ble_eq_true rfl) ((e147 Tryz.prog K a0 b1 h).mpr H)
end Go.Proofs.YthplaillblmgfaaGreatDoor

namespace Go.Proofs.YthplaillblmgfaaGreatDoor
open Go.Sim

def bigW : Nat := 4294967296 ^ 100

theorem lt_bigW {n : Nat} (h : n < 4294967296 ^ 20) : n < bigW := Nat.lt_of_lt_of_le h (Nat.pow_le_pow_right (by decide) (by decide))

theorem canW_len {xs : List Nat} (h : Canon 4294967296 xs) (hv : val 4294967296 xs < bigW) : xs.length ≤ 100 := h.len (by decide) hv

def DS (e : TypeId) (k : IntKind) (h : Heap) (v : Value) (xs : List Nat) : Prop :=
  (v = .slice none 0 0 ∧ xs = []) ∨ ∃ i, v = sl e i 0 xs.length ∧ (xs = [] ∨ ∃ rest, objCells h i = some (xs.map (fun d : Nat => Value.int k (d : Int)) ++ rest))

theorem DS.mono {e : TypeId} {k : IntKind} {h h' : Heap} {v : Value} {xs : List Nat} (x : EX h h') (p : DS e k h v xs) : DS e k h' v xs :=
  p.imp id fun ⟨i, a, b⟩ => ⟨i, a, b.imp id fun ⟨r, c⟩ => ⟨r, x.cells c⟩⟩

theorem DS.len {e : TypeId} {k : IntKind} {h : Heap} {v : Value} {xs : List Nat} (p : DS e k h v xs) : iLenSl v = some (I xs.length) := by
  rcases p with ⟨rfl, rfl⟩ | ⟨i, rfl, _⟩ <;> rfl

theorem DS.get {e : TypeId} {k : IntKind} {h : Heap} {v : Value} {xs : List Nat} (p : DS e k h v xs) {j : Nat} (hj : j < xs.length) : ∃ i, iAdrSl 1 v (I j) = some (pt i j) ∧ iLoad false 1 h (pt i j) = some (.int k (xs[j] : Int)) := by
  rcases p with ⟨_, rfl⟩ | ⟨i, rfl, hc⟩
  · simp at hj
  · obtain ⟨r, hc⟩ := hc.resolve_left (by rintro rfl; simp at hj)
    refine ⟨i, adr_sl hj, ?_⟩
    have : (xs.map (fun d : Nat => Value.int k (d : Int)) ++ r)[j]? = some (.int k (xs[j] : Int)) := by rw [List.getElem?_append_left (by simpa using hj)]; simp [hj]
    simp [iLoad, hc, iPart, this]

theorem DS.nil (e : TypeId) (k : IntKind) (h : Heap) : DS e k h (.slice none 0 0) [] := .inl ⟨rfl, rfl⟩

theorem DS.one {e : TypeId} {k : IntKind} {h : Heap} {v : Value} {xs : List Nat} (p : DS e k h v xs) : noTuple v = true ∧ vcells v = [v] := by
  rcases p with ⟨rfl, _⟩ | ⟨i, rfl, _⟩ <;> exact ⟨rfl, rfl⟩

theorem DS.pop {e : TypeId} {k : IntKind} {h : Heap} {v : Value} {xs : List Nat} (p : DS e k h v xs) {n : Nat} (hn : n ≤ xs.length) : ∃ v', iSlSl e 1 v none (some (I n)) = some v' ∧ DS e k h v' (xs.take n) := by
  rcases p with ⟨rfl, rfl⟩ | ⟨i, rfl, hc⟩
  · simp at hn; subst hn
    exact ⟨_, rfl, .inl ⟨rfl, rfl⟩⟩
  · refine ⟨sl e i 0 n, ?_, .inr ⟨i, by rw [List.length_take, Nat.min_eq_left hn], ?_⟩⟩
    · simp [iSlSl, sl, iBounds, natOf, hn]
    · rcases hc with rfl | ⟨r, hc⟩
      · left; simp
      · right
        refine ⟨(xs.drop n).map (fun d : Nat => Value.int k (d : Int)) ++ r, ?_⟩
        rw [hc, ← List.append_assoc, ← List.map_append, List.take_append_drop]

def MagV (h : Heap) (v : Value) (n : Nat) : Prop := ∃ xs, DS 116 .u32 h v xs ∧ Canon 4294967296 xs ∧ val 4294967296 xs = n

theorem MagV.mono {h h' : Heap} {v : Value} {n : Nat} (x : EX h h') (p : MagV h v n) : MagV h' v n := let ⟨xs, a, b, c⟩ := p; ⟨xs, a.mono x, b, c⟩

theorem C83 {h : Heap} {K : Value → Heap → Prop} {v : Value} {xs : List Nat} (p : DS 116 .u32 h v xs) (hl : Lim 4294967296 xs) (hs : xs.length ≤ 1000) (hk : ∀ v', MagV h v' (val 4294967296 xs) → K v' h) : CallP Tryz.prog 83 [v] h K := by
  refine f83 ?_
  refine loopL (σ := Value × List Nat) (fun p => [p.1]) (fun _ => h) (fun q => DS 116 .u32 h q.1 q.2 ∧ Lim 4294967296 q.2 ∧ val 4294967296 q.2 = val 4294967296 xs ∧ q.2.length ≤ 1000) (fun q => q.2.length) (v, xs) rfl rfl ⟨p, hl, rfl, hs⟩ ?_
  rintro ⟨v, ys⟩ ⟨p, hl, hv, hs⟩ L hL
  simp only at p hl hv hs hL ⊢
  rw [q83z4]
  have done : Canon 4294967296 ys → p83z12 Tryz.prog K v h := by
    intro hc
    rw [q83z12]
    exact hk v ⟨ys, p, hc, hv⟩
  simp only [p.len, OP_some, bin_gtr]
  by_cases h0 : ys.length = 0
  · have : ys = [] := List.length_eq_zero_iff.1 h0
    rw [decide_eq_false (show ¬ (0 : Int) < (ys.length : Int) by omega)]
    simp only [q83z8, GdP_ft, q83z10, iPick_f, OP_some, IfP_false]
    exact done (by rw [this]; exact Canon.nil 4294967296)
  · rw [decide_eq_true (show (0 : Int) < (ys.length : Int) by omega)]
    have e1 : IntKind.wrap .i64 ((ys.length : Int) - 1) = ((ys.length - 1 : Nat) : Int) := by rw [wrap64 (by omega) (by omega)]; omega
    obtain ⟨i, g1, g2⟩ := p.get (j := ys.length - 1) (by omega)
    simp only [q83z8, GdP_tt, p.len, OP_some, bin_sub, e1, g1, g2, bin_eql, q83z10, iPick_t, IfP_dec]
    refine ⟨fun hz => ?_, fun hz => ?_⟩
    · obtain ⟨v', h1, h2⟩ := p.pop (n := ys.length - 1) (by omega)
      simp only [h1, OP_some, true_and]
      have hsplit : ys = ys.take (ys.length - 1) ++ [0] := by
        have := List.take_succ_eq_append_getElem (l := ys) (i := ys.length - 1) (by omega)
        rw [show ys.length - 1 + 1 = ys.length by omega, List.take_length] at this
        have hz' : ys[ys.length - 1] = 0 := by omega
        rw [hz'] at this
        exact this
      refine hL (v', ys.take (ys.length - 1)) ⟨h2, hl.mono fun y hy => List.mem_of_mem_take hy, ?_, by rw [List.length_take]; omega⟩ (by simp; omega)
      rw [← hv]
      conv => rhs; rw [hsplit]
      rw [val_append]
      simp [val]
    · exact done (can_of_last hl fun h1 hc => hz (by rw [hc]; rfl))

/-- Fresh digits at the end of the heap. -/
abbrev hd (h : Heap) (os : List Nat) : Heap := h ++ [.arr 116 (os.map fun d : Nat => Value.int .u32 (d : Int))]

theorem make_hd {h : Heap} {n : Nat} (hn : n ≤ 1000) : iMake 116 4 [.int .u32 0] h (I n) (I n) = some (sl 116 h.length 0 n, hd h (List.replicate n 0)) := by
  have hz : ∀ m, zrep [Value.int .u32 0] m = (List.replicate m 0).map fun d : Nat => Value.int .u32 (d : Int) := by
    intro m
    induction m with
    | zero => rfl
    | succ m ih =>
      have : zrep [Value.int .u32 0] (m + 1) = Value.int .u32 0 :: zrep [Value.int .u32 0] m := by simp [zrep, List.replicate_succ]
      rw [this, ih, List.replicate_succ]; rfl
  simp only [iMake]
  rw [if_pos ⟨by omega, by omega, by omega, by omega⟩, Int.toNat_natCast, hz]

theorem hd_get (h : Heap) (os : List Nat) : (hd h os)[h.length]? = some (.arr 116 (os.map fun d : Nat => Value.int .u32 (d : Int))) := by simp [hd]

theorem hd_store {h : Heap} {os : List Nat} {j : Nat} (d : Nat) (hj : j < os.length) : oStore 1 (hd h os) (pt h.length j) (.int .u32 (d : Int)) = some (undef, hd h (os.set j d)) := by
  rw [store_at (hd_get h os) (by simpa using hj) rfl rfl]
  simp [hd, List.map_set]

theorem hd_load {h : Heap} {os : List Nat} {j : Nat} (hj : j < os.length) : iLoad false 1 (hd h os) (pt h.length j) = some (.int .u32 (os[j] : Int)) := by
  simp [iLoad, objCells, hd_get, iPart, hj]

theorem hd_DS (h : Heap) (os : List Nat) : DS 116 .u32 (hd h os) (sl 116 h.length 0 os.length) os := .inr ⟨h.length, rfl, .inr ⟨[], by simp [objCells, hd]⟩⟩

theorem hd_EX (h : Heap) (os : List Nat) : EX h (hd h os) := EX.append _ _

theorem wrapU64 {n : Int} (h1 : 0 ≤ n) (h2 : n < 18446744073709551616) : IntKind.wrap .u64 n = n := by
  have e : IntKind.wrap .u64 n = n % 18446744073709551616 := by simp [IntKind.wrap, IntKind.bits, IntKind.signed]
  rw [e]; omega
theorem wrapU32e (n : Int) : IntKind.wrap .u32 n = n % 4294967296 := by simp [IntKind.wrap, IntKind.bits, IntKind.signed]
theorem wrapU32 {n : Int} (h1 : 0 ≤ n) (h2 : n < 4294967296) : IntKind.wrap .u32 n = n := by rw [wrapU32e]; omega

theorem shr32 (s : Nat) : iBin .shr (.int .u64 (s : Int)) (.int .u64 32) = some (.int .u64 ((s / 4294967296 : Nat) : Int)) := by
  simp only [iBin, iShift]
  rw [if_neg (by omega)]
  have : (min (32 : Int).toNat IntKind.u64.bits) = 32 := rfl
  rw [this]
  have e2 : (2 : Int) ^ 32 = 4294967296 := by decide
  rw [e2, Int.fdiv_eq_ediv_of_nonneg _ (by omega)]
  congr 2

theorem C114 {x y c : Nat} {h : Heap} {K : Value → Heap → Prop} (hx : x < 4294967296) (hy : y < 4294967296) (hc : c ≤ 1) (hk : K (.tuple #[.int .u32 (((x + y + c) % 4294967296 : Nat) : Int), .int .u32 (((x + y + c) / 4294967296 : Nat) : Int)]) h) :
    CallP Tryz.prog 114 [.int .u32 (x : Int), .int .u32 (y : Int), .int .u32 (c : Int)] h K := by
  refine f114 ?_
  have e1 : IntKind.wrap .u64 ((x : Int) + (y : Int)) = ((x + y : Nat) : Int) := by rw [wrapU64 (by omega) (by omega)]; omega
  have e2 : IntKind.wrap .u64 (((x + y : Nat) : Int) + (c : Int)) = ((x + y + c : Nat) : Int) := by rw [wrapU64 (by omega) (by omega)]; omega
  have e3 : IntKind.wrap .u32 ((x + y + c : Nat) : Int) = (((x + y + c) % 4294967296 : Nat) : Int) := by rw [wrapU32e]; omega
  simp only [T114, conv_int, OP_some, bin_add]
  rw [wrapU64 (n := (x : Int)) (by omega) (by omega), wrapU64 (n := (y : Int)) (by omega) (by omega), e1, wrapU64 (n := (c : Int)) (by omega) (by omega), e2]
  simp only [shr32, OP_some, conv_int, e3]
  rw [wrapU32 (by omega) (by omega)]
  exact hk

theorem C85s {va vb : Value} {xs ys : List Nat} {h : Heap} {K : Value → Heap → Prop} (hx : DS 116 .u32 h va xs) (hy : DS 116 .u32 h vb ys) (lx : Lim 4294967296 xs) (ly : Lim 4294967296 ys) (hle : ys.length ≤ xs.length) (hlen : xs.length ≤ 200)
    (hk : ∀ v h', EX h h' → MagV h' v (val 4294967296 xs + val 4294967296 ys) → K v h') : p85z4 Tryz.prog K va vb h := by
  rw [q85z4]
  simp only [hx.len, OP_some, bin_add, inc xs.length (by omega), make_hd (show xs.length + 1 ≤ 1000 by omega), OH_some]
  have hW : 0 < 4294967296 := by decide
  refine loopL (σ := Nat × Nat × List Nat) (fun p => [.int .u32 (p.1 : Int), I p.2.1]) (fun p => hd h p.2.2)
    (fun p => p.2.1 ≤ xs.length ∧ p.1 ≤ 1 ∧ p.2.2.length = xs.length + 1 ∧ Lim 4294967296 p.2.2 ∧ (∀ j (hj : j < p.2.2.length), p.2.1 ≤ j → p.2.2[j] = 0) ∧ val 4294967296 p.2.2 + 4294967296 ^ p.2.1 * p.1 = val 4294967296 (xs.take p.2.1) + val 4294967296 (ys.take p.2.1)) (fun p => xs.length - p.2.1)
    (0, 0, List.replicate (xs.length + 1) 0) rfl rfl ⟨by simp, by simp, by simp, Lim.zeros hW _, by simp, by simp [val_zeros, val]⟩ ?_
  rintro ⟨c, i, os⟩ ⟨hi, hc, hol, hlim, hz, hval⟩ L hL
  simp only at hi hc hol hlim hz hval hL ⊢
  rw [q85z10]
  have hx' := hx.mono (hd_EX h os)
  have hy' := hy.mono (hd_EX h os)
  simp only [bin_lss, OP_some, IfP_dec]
  refine ⟨fun hlt => ?_, fun hge => ?_⟩
  · have hil : i < xs.length := by omega
    obtain ⟨ia, a1, a2⟩ := hx'.get hil
    have hxl : xs[i] < 4294967296 := lx _ (List.getElem_mem hil)
    have go : ∀ y : Nat, y < 4294967296 → val 4294967296 (ys.take (i + 1)) = val 4294967296 (ys.take i) + 4294967296 ^ i * y → p85z19 Tryz.prog K va vb (sl 116 h.length 0 (xs.length + 1)) (.int .u32 (c : Int)) (I i) (.int .u32 (y : Int)) (I xs.length) (I i) L (hd h os) := by
      intro y hyl hyv
      rw [q85z19]
      simp only [a1, OP_some, a2]
      refine C114 hxl hyl hc ?_
      simp only [ext_tuple, pair0, pair1, OP_some, adr_sl (show i < xs.length + 1 by omega)]
      rw [hd_store _ (by omega)]
      simp only [OH_some, q85z20, bin_add, OP_some, inc i (by omega), true_and]
      have hmod : (xs[i] + y + c) % 4294967296 < 4294967296 := Nat.mod_lt _ hW
      have hdiv : (xs[i] + y + c) / 4294967296 ≤ 1 := by omega
      refine hL ((xs[i] + y + c) / 4294967296, i + 1, os.set i ((xs[i] + y + c) % 4294967296)) ⟨by show i + 1 ≤ xs.length; omega, hdiv, by show (os.set i _).length = _; rw [List.length_set]; exact hol, hlim.set hmod i, ?_, ?_⟩ (by show xs.length - (i + 1) < xs.length - i; omega)
      · intro j hj hij
        show (os.set i _)[j] = 0
        have hij' : i ≠ j := by have : i + 1 ≤ j := hij; omega
        rw [List.getElem_set_ne hij']
        exact hz j (by simpa using hj) (by have : i + 1 ≤ j := hij; omega)
      · show val 4294967296 (os.set i _) + 4294967296 ^ (i + 1) * _ = val 4294967296 (xs.take (i + 1)) + val 4294967296 (ys.take (i + 1))
        have h1 := val_set 4294967296 os i ((xs[i] + y + c) % 4294967296) (by omega)
        rw [hz i (by omega) (Nat.le_refl _)] at h1
        rw [val_take_succ 4294967296 xs hil, hyv, Nat.pow_succ]
        have h2 := Nat.mod_add_div (xs[i] + y + c) 4294967296
        generalize (xs[i] + y + c) % 4294967296 = m at *
        generalize (xs[i] + y + c) / 4294967296 = q at *
        generalize 4294967296 ^ i = P at *
        generalize hWW : 4294967296 = w at *
        grind
    simp only [hy'.len, OP_some, bin_lss, IfP_dec]
    refine ⟨fun hly => ?_, fun hgy => ?_⟩
    · have hiy : i < ys.length := by omega
      obtain ⟨ib, b1, b2⟩ := hy'.get hiy
      simp only [b1, OP_some, b2]
      exact go _ (ly _ (List.getElem_mem hiy)) (val_take_succ 4294967296 ys hiy)
    · have := go 0 (by decide) (by rw [List.take_of_length_le (by omega), List.take_of_length_le (by omega)]; simp)
      simpa using this
  · have : i = xs.length := by omega
    subst this
    rw [q85z21]
    simp only [hx'.len, OP_some, adr_sl (show xs.length < xs.length + 1 by omega)]
    rw [hd_store _ (by omega)]
    simp only [OH_some]
    have h1 := val_set 4294967296 os xs.length c (by omega)
    rw [hz xs.length (by omega) (Nat.le_refl _)] at h1
    have hv : val 4294967296 (os.set xs.length c) = val 4294967296 xs + val 4294967296 ys := by
      rw [List.take_length, List.take_of_length_le hle] at hval
      omega
    have hcW : c < 4294967296 := Nat.lt_of_le_of_lt hc (by decide)
    have e : sl 116 h.length 0 (xs.length + 1) = sl 116 h.length 0 (os.set xs.length c).length := by rw [List.length_set, hol]
    rw [e]
    refine C83 (hd_DS h _) (hlim.set hcW _) (by rw [List.length_set]; omega) ?_
    intro v' hm
    rw [hv] at hm
    exact hk v' _ (hd_EX h _) hm

theorem C85 {va vb : Value} {a b : Nat} {h : Heap} {K : Value → Heap → Prop} (ha : MagV h va a) (hb : MagV h vb b) (la : a < bigW) (lb : b < bigW) (hk : ∀ v h', EX h h' → MagV h' v (a + b) → K v h') : CallP Tryz.prog 85 [va, vb] h K := by
  obtain ⟨xs, dx, cx, rfl⟩ := ha
  obtain ⟨ys, dy, cy, rfl⟩ := hb
  have l1 := canW_len cx la
  have l2 := canW_len cy lb
  refine f85 ?_
  simp only [T85, dx.len, dy.len, OP_some, bin_lss, IfP_dec]
  refine ⟨fun hlt => ?_, fun hge => ?_⟩
  · refine C85s dy dx cy.1 cx.1 (by omega) (by omega) ?_
    rw [Nat.add_comm (val 4294967296 ys)]
    exact hk
  · exact C85s dx dy cx.1 cy.1 (by omega) (by omega) hk

end Go.Proofs.YthplaillblmgfaaGreatDoor


namespace Go.Proofs.YthplaillblmgfaaGreatDoor
open Go.Sim

theorem bv_of (X : BitVec 32) : BitVec.ofInt IntKind.u32.bits (X.toNat : Int) = X := by
  show BitVec.ofInt 32 (X.toNat : Int) = X
  rw [BitVec.ofInt_natCast, BitVec.ofNat_toNat, BitVec.setWidth_eq]

theorem bv_lt (X : BitVec 32) : X.toNat < 4294967296 := X.isLt

theorem and32 (X Y : BitVec 32) : iBin .and (.int .u32 (X.toNat : Int)) (.int .u32 (Y.toNat : Int)) = some (.int .u32 ((X &&& Y).toNat : Int)) := by
  have h := bv_lt (X &&& Y)
  have e : (BitVec.ofInt IntKind.u32.bits (X.toNat : Int) &&& BitVec.ofInt IntKind.u32.bits (Y.toNat : Int)).toNat = (X &&& Y).toNat := by rw [bv_of, bv_of]; rfl
  simp only [iBin, iInt, if_true]
  rw [e, wrapU32 (by omega) (by omega)]

theorem or32 (X Y : BitVec 32) : iBin .or (.int .u32 (X.toNat : Int)) (.int .u32 (Y.toNat : Int)) = some (.int .u32 ((X ||| Y).toNat : Int)) := by
  have h := bv_lt (X ||| Y)
  have e : (BitVec.ofInt IntKind.u32.bits (X.toNat : Int) ||| BitVec.ofInt IntKind.u32.bits (Y.toNat : Int)).toNat = (X ||| Y).toNat := by rw [bv_of, bv_of]; rfl
  simp only [iBin, iInt, if_true]
  rw [e, wrapU32 (by omega) (by omega)]

theorem xor32 (X Y : BitVec 32) : iBin .xor (.int .u32 (X.toNat : Int)) (.int .u32 (Y.toNat : Int)) = some (.int .u32 ((X ^^^ Y).toNat : Int)) := by
  have h := bv_lt (X ^^^ Y)
  have e : (BitVec.ofInt IntKind.u32.bits (X.toNat : Int) ^^^ BitVec.ofInt IntKind.u32.bits (Y.toNat : Int)).toNat = (X ^^^ Y).toNat := by rw [bv_of, bv_of]; rfl
  simp only [iBin, iInt, if_true]
  rw [e, wrapU32 (by omega) (by omega)]

theorem not32 (X : BitVec 32) : iUn .xor (.int .u32 (X.toNat : Int)) = some (.int .u32 ((~~~X).toNat : Int)) := by
  have h := bv_lt (~~~X)
  have e : (BitVec.ofInt IntKind.u32.bits (if IntKind.u32.signed = true then -1 else IntKind.u32.max) ^^^ BitVec.ofInt IntKind.u32.bits (X.toNat : Int)).toNat = (~~~X).toNat := by
    rw [bv_of]
    show (BitVec.ofInt 32 4294967295 ^^^ X).toNat = _
    rw [show BitVec.ofInt 32 4294967295 = BitVec.allOnes 32 from by decide, BitVec.allOnes_xor]
  simp only [iUn]
  rw [e, wrapU32 (by omega) (by omega)]

theorem top32 (Z : BitVec 32) : iBin .shr (.int .u32 (Z.toNat : Int)) (.int .u64 31) = some (.int .u32 ((if Z.msb then 1 else 0 : Nat) : Int)) := by
  have h := bv_lt Z
  simp only [iBin, iShift]
  rw [if_neg (by omega)]
  have : (min (31 : Int).toNat IntKind.u32.bits) = 31 := rfl
  rw [this]
  have e2 : (2 : Int) ^ 31 = 2147483648 := by decide
  rw [e2, Int.fdiv_eq_ediv_of_nonneg _ (by omega), BitVec.msb_eq_decide]
  congr 2
  by_cases hz : 2 ^ 31 ≤ Z.toNat
  · simp [hz]; omega
  · simp [hz]; omega

theorem C115 {x y b : Nat} {h : Heap} {K : Value → Heap → Prop} (hx : x < 4294967296) (hy : y < 4294967296) (hb : b ≤ 1) (hk : K (.tuple #[.int .u32 (((x + 4294967296 + 4294967296 - y - b) % 4294967296 : Nat) : Int), .int .u32 ((if x < y + b then 1 else 0 : Nat) : Int)]) h) :
    CallP Tryz.prog 115 [.int .u32 (x : Int), .int .u32 (y : Int), .int .u32 (b : Int)] h K := by
  refine f115 ?_
  obtain ⟨X, rfl⟩ : ∃ X : BitVec 32, x = X.toNat := ⟨BitVec.ofNat 32 x, by rw [BitVec.toNat_ofNat]; exact (Nat.mod_eq_of_lt hx).symm⟩
  obtain ⟨Y, rfl⟩ : ∃ Y : BitVec 32, y = Y.toNat := ⟨BitVec.ofNat 32 y, by rw [BitVec.toNat_ofNat]; exact (Nat.mod_eq_of_lt hy).symm⟩
  obtain ⟨D, hD⟩ : ∃ D : BitVec 32, D.toNat = (X.toNat + 4294967296 + 4294967296 - Y.toNat - b) % 4294967296 := ⟨BitVec.ofNat 32 _, by rw [BitVec.toNat_ofNat]⟩
  have e1 : IntKind.wrap .u32 (IntKind.wrap .u32 ((X.toNat : Int) - (Y.toNat : Int)) - (b : Int)) = (D.toNat : Int) := by
    rw [wrapU32e, wrapU32e, hD]; omega
  simp only [T115, bin_sub, OP_some, e1, not32, and32, xor32, or32, top32]
  rw [← hD] at hk
  have e2 : (if (~~~X &&& Y ||| ~~~(X ^^^ Y) &&& D).msb then 1 else 0 : Nat) = if X.toNat < Y.toNat + b then 1 else 0 := by
    rw [BitVec.msb_or, BitVec.msb_and, BitVec.msb_and, BitVec.msb_not, BitVec.msb_not, BitVec.msb_xor, BitVec.msb_eq_decide X, BitVec.msb_eq_decide Y, BitVec.msb_eq_decide D]
    by_cases c1 : 2 ^ (32 - 1) ≤ X.toNat <;> by_cases c2 : 2 ^ (32 - 1) ≤ Y.toNat <;> by_cases c3 : 2 ^ (32 - 1) ≤ D.toNat <;> simp [c1, c2, c3] <;> omega
  rw [e2]
  exact hk

theorem C87 {va vb : Value} {a b : Nat} {h : Heap} {K : Value → Heap → Prop} (ha : MagV h va a) (hb : MagV h vb b) (la : a < bigW) (hab : b ≤ a) (hk : ∀ v h', EX h h' → MagV h' v (a - b) → K v h') : CallP Tryz.prog 87 [va, vb] h K := by
  obtain ⟨xs, hx, cx, rfl⟩ := ha
  obtain ⟨ys, hy, cy, rfl⟩ := hb
  have l1 := canW_len cx la
  have l2 := canW_len cy (Nat.lt_of_le_of_lt hab la)
  have hle : ys.length ≤ xs.length := by
    apply Classical.byContradiction
    intro hc
    have := Canon.lt_of_len (by decide) cx cy (by omega)
    omega
  refine f87 ?_
  simp only [T87, hx.len, OP_some, make_hd (show xs.length ≤ 1000 by omega), OH_some]
  have hW : (0 : Nat) < 4294967296 := by decide
  refine loopL (σ := Nat × Nat × List Nat) (fun p => [.int .u32 (p.1 : Int), I p.2.1]) (fun p => hd h p.2.2)
    (fun p => p.2.1 ≤ xs.length ∧ p.1 ≤ 1 ∧ p.2.2.length = xs.length ∧ Lim 4294967296 p.2.2 ∧ (∀ j (hj : j < p.2.2.length), p.2.1 ≤ j → p.2.2[j] = 0) ∧ val 4294967296 p.2.2 + val 4294967296 (ys.take p.2.1) = val 4294967296 (xs.take p.2.1) + 4294967296 ^ p.2.1 * p.1) (fun p => xs.length - p.2.1)
    (0, 0, List.replicate xs.length 0) rfl rfl ⟨by simp, by simp, by simp, Lim.zeros hW _, by simp, by simp [val_zeros, val]⟩ ?_
  rintro ⟨c, i, os⟩ ⟨hi, hc, hol, hlim, hz, hval⟩ L hL
  simp only at hi hc hol hlim hz hval hL ⊢
  rw [q87z7]
  have hx' := hx.mono (hd_EX h os)
  have hy' := hy.mono (hd_EX h os)
  simp only [bin_lss, OP_some, IfP_dec]
  refine ⟨fun hlt => ?_, fun hge => ?_⟩
  · have hil : i < xs.length := by omega
    obtain ⟨ia, a1, a2⟩ := hx'.get hil
    have hxl : xs[i] < 4294967296 := cx.1 _ (List.getElem_mem hil)
    have go : ∀ y : Nat, y < 4294967296 → val 4294967296 (ys.take (i + 1)) = val 4294967296 (ys.take i) + 4294967296 ^ i * y → p87z16 Tryz.prog K va vb (sl 116 h.length 0 xs.length) (.int .u32 (c : Int)) (I i) (.int .u32 (y : Int)) (I xs.length) (I i) L (hd h os) := by
      intro y hyl hyv
      rw [q87z16]
      simp only [a1, OP_some, a2]
      refine C115 hxl hyl hc ?_
      simp only [ext_tuple, pair0, pair1, OP_some, adr_sl hil]
      rw [hd_store _ (by omega)]
      simp only [OH_some, q87z17, bin_add, OP_some, inc i (by omega), true_and]
      have hmod : (xs[i] + 4294967296 + 4294967296 - y - c) % 4294967296 < 4294967296 := Nat.mod_lt _ hW
      have hb1 : (if xs[i] < y + c then 1 else 0) ≤ 1 := by split <;> omega
      have hs : (xs[i] + 4294967296 + 4294967296 - y - c) % 4294967296 + y + c = xs[i] + 4294967296 * (if xs[i] < y + c then 1 else 0) := by
        split <;> omega
      refine hL ((if xs[i] < y + c then 1 else 0), i + 1, os.set i ((xs[i] + 4294967296 + 4294967296 - y - c) % 4294967296)) ⟨by show i + 1 ≤ xs.length; omega, hb1, by show (os.set i _).length = _; rw [List.length_set]; exact hol, hlim.set hmod i, ?_, ?_⟩ (by show xs.length - (i + 1) < xs.length - i; omega)
      · intro j hj hij
        show (os.set i _)[j] = 0
        have hij' : i ≠ j := by have : i + 1 ≤ j := hij; omega
        rw [List.getElem_set_ne hij']
        exact hz j (by simpa using hj) (by have : i + 1 ≤ j := hij; omega)
      · show val 4294967296 (os.set i _) + val 4294967296 (ys.take (i + 1)) = val 4294967296 (xs.take (i + 1)) + 4294967296 ^ (i + 1) * _
        have h1 := val_set 4294967296 os i ((xs[i] + 4294967296 + 4294967296 - y - c) % 4294967296) (by omega)
        rw [hz i (by omega) (Nat.le_refl _)] at h1
        rw [val_take_succ 4294967296 xs hil, hyv, Nat.pow_succ]
        generalize (xs[i] + 4294967296 + 4294967296 - y - c) % 4294967296 = m at *
        generalize (if xs[i] < y + c then 1 else 0) = q at *
        generalize 4294967296 ^ i = P at *
        generalize (4294967296 : Nat) = w at *
        grind
    simp only [hy'.len, OP_some, bin_lss, IfP_dec]
    refine ⟨fun hly => ?_, fun hgy => ?_⟩
    · have hiy : i < ys.length := by omega
      obtain ⟨ib, b1, b2⟩ := hy'.get hiy
      simp only [b1, OP_some, b2]
      exact go _ (cy.1 _ (List.getElem_mem hiy)) (val_take_succ 4294967296 ys hiy)
    · have := go 0 (by decide) (by rw [List.take_of_length_le (by omega), List.take_of_length_le (by omega)]; simp)
      simpa using this
  · have : i = xs.length := by omega
    subst this
    rw [q87z18]
    rw [List.take_length, List.take_of_length_le hle] at hval
    have hlt := val_lt hlim
    rw [hol] at hlt
    have hc0 : c = 0 := by
      apply Classical.byContradiction
      intro hne
      have : c = 1 := by omega
      subst this
      omega
    subst hc0
    have hv : val 4294967296 os = val 4294967296 xs - val 4294967296 ys := by omega
    have e : sl 116 h.length 0 xs.length = sl 116 h.length 0 os.length := by rw [hol]
    rw [e]
    refine C83 (hd_DS h _) hlim (by omega) ?_
    intro v' hm
    rw [hv] at hm
    exact hk v' _ (hd_EX h _) hm

def sgn (a b : Nat) : Int := if a < b then -1 else if b < a then 1 else 0

theorem val_lt_of_top {B : Nat} {xs ys : List Nat} (lx : Lim B xs) (ly : Lim B ys) (hl : xs.length = ys.length) {i : Nat} (hi : i < xs.length) (hd : xs.drop (i + 1) = ys.drop (i + 1)) (h : xs[i] < ys[i]'(by omega)) : val B xs < val B ys := by
  have e1 : xs = xs.take i ++ xs[i] :: xs.drop (i + 1) := by rw [← List.drop_eq_getElem_cons hi, List.take_append_drop]
  have e2 : ys = ys.take i ++ ys[i]'(by omega) :: ys.drop (i + 1) := by rw [← List.drop_eq_getElem_cons (by omega), List.take_append_drop]
  have v1 : val B xs = val B (xs.take i) + B ^ i * (xs[i] + B * val B (xs.drop (i + 1))) := by
    conv => lhs; rw [e1]
    rw [val_append, List.length_take, Nat.min_eq_left (by omega)]; rfl
  have v2 : val B ys = val B (ys.take i) + B ^ i * (ys[i]'(by omega) + B * val B (ys.drop (i + 1))) := by
    conv => lhs; rw [e2]
    rw [val_append, List.length_take, Nat.min_eq_left (by omega)]; rfl
  rw [v1, v2, hd]
  have h1 := val_lt (lx.mono (ys := xs.take i) fun y hy => List.mem_of_mem_take hy)
  rw [List.length_take, Nat.min_eq_left (by omega)] at h1
  have h2 : B ^ i * (xs[i] + 1 + B * val B (ys.drop (i + 1))) ≤ B ^ i * (ys[i]'(by omega) + B * val B (ys.drop (i + 1))) := Nat.mul_le_mul_left _ (by omega)
  generalize B ^ i = P at *
  generalize B * val B (ys.drop (i + 1)) = Q at *
  generalize val B (xs.take i) = u at *
  generalize val B (ys.take i) = v at *
  have h3 : P * (xs[i] + 1 + Q) = P * (xs[i] + Q) + P := by grind
  omega

theorem C86 {va vb : Value} {a b : Nat} {h : Heap} {K : Value → Heap → Prop} (ha : MagV h va a) (hb : MagV h vb b) (la : a < bigW) (lb : b < bigW) (hk : K (I (sgn a b)) h) : CallP Tryz.prog 86 [va, vb] h K := by
  obtain ⟨xs, hx, cx, rfl⟩ := ha
  obtain ⟨ys, hy, cy, rfl⟩ := hb
  have l1 := canW_len cx la
  have l2 := canW_len cy lb
  have less : val 4294967296 xs < val 4294967296 ys → K (.int .i64 (-1)) h := fun h1 => by unfold sgn at hk; rw [if_pos h1] at hk; exact hk
  have more : val 4294967296 ys < val 4294967296 xs → K (.int .i64 1) h := fun h1 => by unfold sgn at hk; rw [if_neg (by omega), if_pos h1] at hk; exact hk
  have same : val 4294967296 xs = val 4294967296 ys → K (.int .i64 0) h := fun h1 => by unfold sgn at hk; rw [if_neg (by omega), if_neg (by omega)] at hk; exact hk
  refine f86 ?_
  simp only [T86, hx.len, hy.len, OP_some, bin_neq, IfP_ndec, bin_lss, IfP_dec]
  refine ⟨fun hne => ⟨fun hlt => less (Canon.lt_of_len (by decide) cx cy (by omega)), fun hge => more (Canon.lt_of_len (by decide) cy cx (by omega))⟩, fun he => ?_⟩
  have he' : xs.length = ys.length := by omega
  simp only [bin_sub, OP_some]
  have e1 : IntKind.wrap .i64 ((xs.length : Int) - 1) = (xs.length : Int) - 1 := by rw [wrap64 (by omega) (by omega)]
  rw [e1]
  refine loopL (σ := Nat) (fun i => [I ((i : Int) - 1)]) (fun _ => h) (fun i => i ≤ xs.length ∧ xs.drop i = ys.drop i) (fun i => i) xs.length rfl rfl ⟨Nat.le_refl _, by rw [List.drop_length, he', List.drop_length]⟩ ?_
  rintro i ⟨hi, hdr⟩ L hL
  rw [q86z11]
  simp only [bin_geq, OP_some, IfP_dec]
  refine ⟨fun hge => ?_, fun hlt => ?_⟩
  · obtain ⟨j, rfl⟩ : ∃ j, i = j + 1 := ⟨i - 1, by omega⟩
    have ej : (((j + 1 : Nat) : Int) - 1) = (j : Int) := by omega
    rw [ej]
    obtain ⟨ia, a1, a2⟩ := hx.get (j := j) (by omega)
    obtain ⟨ib, b1, b2⟩ := hy.get (j := j) (by omega)
    simp only [a1, a2, b1, b2, OP_some, true_and, bin_neq, IfP_ndec, bin_lss, IfP_dec]
    refine ⟨fun hne => ⟨fun hlt => less (val_lt_of_top cx.1 cy.1 he' (i := j) (by omega) hdr (by omega)), fun hge => more (val_lt_of_top cy.1 cx.1 he'.symm (i := j) (by omega) hdr.symm (by omega))⟩, fun heq => ?_⟩
    simp only [bin_sub, OP_some]
    rw [wrap64 (by omega) (by omega)]
    refine hL j ⟨by omega, ?_⟩ (by omega)
    rw [List.drop_eq_getElem_cons (by omega), List.drop_eq_getElem_cons (show j < ys.length by omega), hdr]
    congr 1
    omega
  · have : i = 0 := by omega
    subst this
    rw [List.drop_zero, List.drop_zero] at hdr
    exact same (by rw [hdr])

end Go.Proofs.YthplaillblmgfaaGreatDoor


namespace Go.Proofs.YthplaillblmgfaaGreatDoor
open Go.Sim

theorem mul_lt32 {x y : Nat} (hx : x < 4294967296) (hy : y < 4294967296) : x * y ≤ 18446744065119617025 := by
  have := Nat.mul_le_mul (show x ≤ 4294967295 by omega) (show y ≤ 4294967295 by omega)
  omega

theorem C124 {va vb : Value} {a b : Nat} {h : Heap} {K : Value → Heap → Prop} (ha : MagV h va a) (hb : MagV h vb b) (la : a < bigW) (lb : b < bigW) (hk : ∀ v h', EX h h' → MagV h' v (a * b) → K v h') : CallP Tryz.prog 124 [va, vb] h K := by
  obtain ⟨xs, hx, cx, rfl⟩ := ha
  obtain ⟨ys, hy, cy, rfl⟩ := hb
  have l1 := canW_len cx la
  have l2 := canW_len cy lb
  have hW : (0 : Nat) < 4294967296 := by decide
  refine f124 ?_
  have e0 : IntKind.wrap .i64 ((xs.length : Int) + (ys.length : Int)) = ((xs.length + ys.length : Nat) : Int) := by rw [wrap64 (by omega) (by omega)]; omega
  simp only [T124, hx.len, hy.len, OP_some, bin_add, e0, make_hd (show xs.length + ys.length ≤ 1000 by omega), OH_some]
  refine loopL (σ := Nat × List Nat) (fun p => [I p.1]) (fun p => hd h p.2)
    (fun p => p.1 ≤ xs.length ∧ p.2.length = xs.length + ys.length ∧ Lim 4294967296 p.2 ∧ (∀ j (hj : j < p.2.length), p.1 + ys.length ≤ j → p.2[j] = 0) ∧ val 4294967296 p.2 = val 4294967296 (xs.take p.1) * val 4294967296 ys) (fun p => xs.length - p.1)
    (0, List.replicate (xs.length + ys.length) 0) rfl rfl ⟨by simp, by simp, Lim.zeros hW _, by simp, by simp [val_zeros, val]⟩ ?_
  rintro ⟨i, os⟩ ⟨hi, hol, hlim, hz, hval⟩ L hL
  simp only at hi hol hlim hz hval hL ⊢
  rw [q124z6]
  have hx' := hx.mono (hd_EX h os)
  simp only [bin_lss, OP_some, IfP_dec]
  refine ⟨fun hlt => ?_, fun hge => ?_⟩
  · have hil : i < xs.length := by omega
    obtain ⟨ia, a1, a2⟩ := hx'.get hil
    have hxl : xs[i] < 4294967296 := cx.1 _ (List.getElem_mem hil)
    simp only [a1, OP_some, a2, (hy.mono (hd_EX h os)).len]
    have hvt := val_take_succ 4294967296 xs hil
    generalize xs[i] = x at hxl hvt
    refine loopL (σ := Nat × Nat × List Nat) (fun p => [.int .u64 (p.1 : Int), I p.2.1]) (fun p => hd h p.2.2)
      (fun p => p.2.1 ≤ ys.length ∧ p.1 < 4294967296 ∧ p.2.2.length = xs.length + ys.length ∧ Lim 4294967296 p.2.2 ∧ (∀ j (hj : j < p.2.2.length), i + ys.length ≤ j → p.2.2[j] = 0) ∧ val 4294967296 p.2.2 + 4294967296 ^ (i + p.2.1) * p.1 = val 4294967296 os + 4294967296 ^ i * (x * val 4294967296 (ys.take p.2.1))) (fun p => ys.length - p.2.1)
      (0, 0, os) rfl rfl ⟨by simp, hW, hol, hlim, hz, by simp [val]⟩ ?_
    rintro ⟨c, j, ps⟩ ⟨hj, hc, hpl, hplim, hpz, hpval⟩ L2 hL2
    simp only at hj hc hpl hplim hpz hpval hL2 ⊢
    rw [q124z16]
    have hy' := hy.mono (hd_EX h ps)
    simp only [bin_lss, OP_some, IfP_dec]
    refine ⟨fun hlt2 => ?_, fun hge2 => ?_⟩
    · have hjl : j < ys.length := by omega
      obtain ⟨ib, b1, b2⟩ := hy'.get hjl
      have hyl : ys[j] < 4294967296 := cy.1 _ (List.getElem_mem hjl)
      have hyt := val_take_succ 4294967296 ys hjl
      generalize ys[j] = y at b2 hyl hyt
      have hpk : i + j < ps.length := by omega
      have hol2 : ps[i + j] < 4294967296 := hplim _ (List.getElem_mem hpk)
      have hxy := mul_lt32 hxl hyl
      have hset := val_set 4294967296 ps (i + j) ((x * y + ps[i + j] + c) % 4294967296) hpk
      have ei : IntKind.wrap .i64 ((i : Int) + (j : Int)) = ((i + j : Nat) : Int) := by rw [wrap64 (by omega) (by omega)]; omega
      have cst : ((x : Int) * (y : Int)) = ((x * y : Nat) : Int) := by simp
      simp only [b1, OP_some, b2, conv_int]
      rw [wrapU64 (n := (x : Int)) (by omega) (by omega), wrapU64 (n := (y : Int)) (by omega) (by omega)]
      simp only [bin_mul, OP_some, cst, bin_add, ei]
      rw [wrapU64 (n := ((x * y : Nat) : Int)) (by omega) (by omega)]
      rw [adr_sl (show i + j < xs.length + ys.length by omega)]
      simp only [OP_some, hd_load hpk, conv_int]
      rw [wrapU64 (n := (ps[i + j] : Int)) (by omega) (by omega)]
      have e1 : IntKind.wrap .u64 (((x * y : Nat) : Int) + (ps[i + j] : Int)) = ((x * y + ps[i + j] : Nat) : Int) := by rw [wrapU64 (by omega) (by omega)]; omega
      have e2 : IntKind.wrap .u64 (((x * y + ps[i + j] : Nat) : Int) + (c : Int)) = ((x * y + ps[i + j] + c : Nat) : Int) := by rw [wrapU64 (by omega) (by omega)]; omega
      have e3 : IntKind.wrap .u32 ((x * y + ps[i + j] + c : Nat) : Int) = (((x * y + ps[i + j] + c) % 4294967296 : Nat) : Int) := by rw [wrapU32e]; omega
      simp only [bin_add, OP_some, e1, e2, conv_int, e3, shr32]
      rw [hd_store _ hpk]
      simp only [OH_some, bin_add, OP_some, inc j (by omega), true_and]
      have hmod : (x * y + ps[i + j] + c) % 4294967296 < 4294967296 := Nat.mod_lt _ hW
      have hdm := Nat.mod_add_div (x * y + ps[i + j] + c) 4294967296
      have hdiv : (x * y + ps[i + j] + c) / 4294967296 < 4294967296 := by omega
      refine hL2 ((x * y + ps[i + j] + c) / 4294967296, j + 1, ps.set (i + j) ((x * y + ps[i + j] + c) % 4294967296)) ⟨by show j + 1 ≤ ys.length; omega, hdiv, by show (ps.set _ _).length = _; rw [List.length_set]; exact hpl, hplim.set hmod _, ?_, ?_⟩ (by show ys.length - (j + 1) < ys.length - j; omega)
      · intro k hk2 hik
        show (ps.set (i + j) _)[k] = 0
        have hne : i + j ≠ k := by omega
        rw [List.getElem_set_ne hne]
        exact hpz k (by simpa using hk2) hik
      · show val 4294967296 (ps.set (i + j) _) + 4294967296 ^ (i + (j + 1)) * _ = val 4294967296 os + 4294967296 ^ i * (x * val 4294967296 (ys.take (j + 1)))
        rw [hyt, ← Nat.add_assoc, Nat.pow_succ]
        rw [Nat.pow_add] at hset hpval ⊢
        generalize ps[i + j] = o at *
        generalize (x * y + o + c) % 4294967296 = m at *
        generalize (x * y + o + c) / 4294967296 = q at *
        generalize val 4294967296 (ys.take j) = v at *
        generalize val 4294967296 (ps.set (i + j) m) = s1 at *
        generalize val 4294967296 ps = s0 at *
        generalize val 4294967296 os = s2 at *
        generalize 4294967296 ^ i = P at *
        generalize 4294967296 ^ j = Q at *
        generalize (4294967296 : Nat) = w at *
        clear hL2 hL hx hy hx' hy' b1 b2
        have h1 : P * Q * (m + w * q) = P * Q * (x * y + o + c) := by rw [hdm]
        grind
    · have : j = ys.length := by omega
      subst this
      rw [q124z23]
      have ei : IntKind.wrap .i64 ((i : Int) + (ys.length : Int)) = ((i + ys.length : Nat) : Int) := by rw [wrap64 (by omega) (by omega)]; omega
      simp only [hy'.len, OP_some, bin_add, ei, conv_int]
      rw [wrapU32 (n := (c : Int)) (by omega) (by omega), adr_sl (show i + ys.length < xs.length + ys.length by omega)]
      simp only [OP_some]
      have hpk : i + ys.length < ps.length := by omega
      rw [hd_store _ hpk]
      simp only [OH_some, q124z24, bin_add, OP_some, inc i (by omega), true_and]
      have hset := val_set 4294967296 ps (i + ys.length) c hpk
      rw [hpz _ hpk (Nat.le_refl _)] at hset
      rw [List.take_length] at hpval
      refine hL (i + 1, ps.set (i + ys.length) c) ⟨by show i + 1 ≤ xs.length; omega, by show (ps.set _ _).length = _; rw [List.length_set]; exact hpl, hplim.set hc _, ?_, ?_⟩ (by show xs.length - (i + 1) < xs.length - i; omega)
      · intro k hk2 hik
        show (ps.set (i + ys.length) _)[k] = 0
        have hik' : i + 1 + ys.length ≤ k := hik
        have hne : i + ys.length ≠ k := by omega
        rw [List.getElem_set_ne hne]
        exact hpz k (by simpa using hk2) (by omega)
      · show val 4294967296 (ps.set (i + ys.length) c) = val 4294967296 (xs.take (i + 1)) * val 4294967296 ys
        rw [hvt, Nat.add_mul, ← hval, Nat.mul_assoc, ← hpval]
        omega
  · have : i = xs.length := by omega
    subst this
    rw [q124z25]
    rw [List.take_length] at hval
    have e : sl 116 h.length 0 (xs.length + ys.length) = sl 116 h.length 0 os.length := by rw [hol]
    rw [e]
    refine C83 (hd_DS h _) hlim (by omega) ?_
    intro v' hm
    rw [hval] at hm
    exact hk v' _ (hd_EX h _) hm


def IntV (h : Heap) (val : Value) (z : Int) : Prop := ∃ v, val = .agg #[B (decide (z < 0)), v] ∧ MagV h v z.natAbs

theorem IntV.mono {h h' : Heap} {v : Value} {z : Int} (x : EX h h') (p : IntV h v z) : IntV h' v z := let ⟨w, a, b⟩ := p; ⟨w, a, b.mono x⟩

theorem MagV.len0 {h : Heap} {v : Value} {n : Nat} (p : MagV h v n) : ∃ l : Nat, iLenSl v = some (I l) ∧ (0 < l ↔ 0 < n) := by
  obtain ⟨xs, d, c, rfl⟩ := p
  refine ⟨xs.length, d.len, ?_⟩
  constructor
  · intro h0
    have := Canon.low (by decide) c (by rintro rfl; simp at h0)
    have : 0 < 4294967296 ^ (xs.length - 1) := Nat.pow_pos (by decide)
    omega
  · intro h0
    cases xs with
    | nil => simp [val] at h0
    | cons x xs => simp

theorem MagV.setB {h : Heap} {v : Value} {n j : Nat} {e : TypeId} {b : Bool} {r : List Value} (p : MagV h v n) (hj : h[j]? = some (.arr e (.bool b :: r))) (o : IObj) : MagV (h.set j o) v n := by
  obtain ⟨xs, d, c, hv⟩ := p
  refine ⟨xs, ?_, c, hv⟩
  rcases d with d | ⟨i, h1, h2⟩
  · exact .inl d
  · refine .inr ⟨i, h1, ?_⟩
    rcases h2 with h2 | ⟨rest, h2⟩
    · exact .inl h2
    · cases xs with
      | nil => exact .inl rfl
      | cons x xs =>
        right
        refine ⟨rest, ?_⟩
        have hne : j ≠ i := by
          rintro rfl
          unfold objCells at h2
          rw [hj] at h2
          simp at h2
        unfold objCells at h2 ⊢
        rw [List.getElem?_set_ne hne]
        exact h2

theorem IntV.setB {h : Heap} {v : Value} {z : Int} {j : Nat} {e : TypeId} {b : Bool} {r : List Value} (p : IntV h v z) (hj : h[j]? = some (.arr e (.bool b :: r))) (o : IObj) : IntV (h.set j o) v z :=
  let ⟨w, a, q⟩ := p; ⟨w, a, q.setB hj o⟩

theorem store2 {h : Heap} {i : Nat} {e : TypeId} {a b x y : Value} (hg : h[i]? = some (.arr e [a, b])) : oStore 2 h (pt i 0) (.agg #[x, y]) = some (undef, h.set i (.arr e [x, y])) := by
  simp [oStore, iStore, hg, noTuple, vcells, Value.cells, setAt]

theorem load2 {h : Heap} {i : Nat} {e : TypeId} {a b : Value} (hg : h[i]? = some (.arr e [a, b])) : iLoad true 2 h (pt i 0) = some (.agg #[a, b]) := by
  simp [iLoad, objCells, hg, iPart]

theorem set_get {h : Heap} {i : Nat} {o o' : IObj} (hg : h[i]? = some o') : (h.set i o)[i]? = some o := by
  rw [List.getElem?_set_self (List.getElem?_eq_some_iff.1 hg).1]

theorem C82 {v : Value} {n : Nat} {b : Bool} {h : Heap} {K : Value → Heap → Prop} (hm : MagV h v n) (hk : ∀ h', EX h h' → K (.agg #[B (b && decide (0 < n)), v]) h') : CallP Tryz.prog 82 [B b, v] h K := by
  refine f82 ?_
  have al : iAlloc 81 [(.bool false), (.slice none 0 0)] h = some (pt h.length 0, h ++ [.arr 81 [(.bool false), (.slice none 0 0)]]) := rfl
  simp only [T82, al, OH_some]
  obtain ⟨l, h1, h2⟩ := hm.len0
  have hg : (h ++ [IObj.arr 81 [(.bool false), (.slice none 0 0)]])[h.length]? = some (.arr 81 [(.bool false), (.slice none 0 0)]) := get_last
  have hx : EX h (h ++ [IObj.arr 81 [(.bool false), (.slice none 0 0)]]) := EX.append _ _
  have fin : p82z6 Tryz.prog K v (pt h.length 0) (B b) (B (decide (0 < l))) (h ++ [IObj.arr 81 [(.bool false), (.slice none 0 0)]]) ∧ (b = false → p82z6 Tryz.prog K v (pt h.length 0) (B b) undef (h ++ [IObj.arr 81 [(.bool false), (.slice none 0 0)]])) := by
    have one : ∀ c : Bool, c = (b && decide (0 < n)) → OP (iBuild [(.bool false), (.slice none 0 0)] [(0, 1, B c), (1, 1, v)]) fun x12 => OH (oStore 2 (h ++ [IObj.arr 81 [(.bool false), (.slice none 0 0)]]) (pt h.length 0) x12) fun _ h_1 => OP (iLoad true 2 h_1 (pt h.length 0)) fun r0 => K r0 h_1 := by
      rintro c rfl
      have eb : iBuild [(.bool false), (.slice none 0 0)] [(0, 1, B (b && decide (0 < n))), (1, 1, v)] = some (.agg #[B (b && decide (0 < n)), v]) := by
        obtain ⟨xs, d, _, _⟩ := hm
        rcases d with ⟨rfl, _⟩ | ⟨i, rfl, _⟩ <;> rfl
      simp only [eb, OP_some]
      rw [store2 hg]
      simp only [OH_some]
      rw [load2 (set_get hg)]
      simp only [OP_some]
      exact hk _ (hx.set (Nat.le_refl _) _)
    constructor
    · rw [q82z6]
      cases b with
      | true => simp only [iPick_t, OP_some]; exact one _ (by simp [h2])
      | false => simp only [iPick_f, OP_some]; exact one _ (by simp)
    · rintro rfl
      rw [q82z6]
      simp only [iPick_f, OP_some]
      exact one _ (by simp)
  rw [q82z4]
  have e0 : decide ((0 : Int) < (l : Int)) = decide (0 < l) := by
    by_cases h0 : 0 < l
    · simp [h0]
    · simp [h0]
  cases b with
  | true =>
    simp only [GdP_tt, h1, OP_some, bin_gtr, e0]
    exact fin.1
  | false =>
    simp only [GdP_ft]
    exact fin.2 rfl

end Go.Proofs.YthplaillblmgfaaGreatDoor

