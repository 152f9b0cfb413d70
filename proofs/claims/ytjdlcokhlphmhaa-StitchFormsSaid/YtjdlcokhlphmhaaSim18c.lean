/-
  A region whose order is open (3).
-/
import Derived.Test.YtjdlcokhlphmhaaSim18b
namespace Go.Sim

section
variable {P : Program} {N : Nat}

theorem H_const {l : List DOper} {F : Nat → Nat → Value} {H : Nat → Heap} {V : Nat → Value} (T : Trace P l 0 F H V) {i : Nat} : ∀ (d : Nat), i + d ≤ l.length → (∀ e oe, l[e]? = some oe → oe.op.op.isE = true → ¬ (i ≤ e ∧ e < i + d)) → H (i + d) = H i
  | 0, _, _ => rfl
  | d + 1, hl, hE => by
    have ih := H_const T d (by omega) (fun e oe h1 h2 h3 => hE e oe h1 h2 ⟨h3.1, by omega⟩)
    have hlt : i + d < l.length := by omega
    have hget : l[i + d]? = some l[i + d] := List.getElem?_eq_getElem hlt
    have hnE : l[i + d].op.op.isE = false := by
      cases hq : l[i + d].op.op.isE with
      | false => rfl
      | true => exact absurd ⟨by omega, by omega⟩ (hE (i + d) _ hget hq)
    rw [show i + (d + 1) = i + d + 1 by omega]
    rw [← ih]
    have hy := T.yes (i + d) _ hget
    have hn := T.no (i + d) _ hget
    simp only [Nat.zero_add] at hy hn
    cases hw : wantB l[i + d].op.guard (F (i + d)) with
    | false => exact (hn hw).2
    | true =>
      have hs := hy hw
      generalize l[i + d].op.op = io at hs hnE
      cases io with
      | p po =>
        simp only [stepK, oletP] at hs
        split at hs
        · exact hs.2.symm
        · exact hs.elim
      | l lo =>
        simp only [stepK, oletP] at hs
        split at hs
        · exact hs.2.symm
        · exact hs.elim
      | e eo => cases hnE
      | call g args => cases hnE
      | callv x args => cases hnE

theorem H_const' {l : List DOper} {F : Nat → Nat → Value} {H : Nat → Heap} {V : Nat → Value} (T : Trace P l 0 F H V) {i k : Nat} (hik : i ≤ k) (hk : k ≤ l.length) (hE : ∀ e oe, l[e]? = some oe → oe.op.op.isE = true → ¬ (i ≤ e ∧ e < k)) : H k = H i := by
  have := H_const T (i := i) (k - i) (by omega) (fun e oe h1 h2 h3 => hE e oe h1 h2 ⟨h3.1, by omega⟩)
  rw [show i + (k - i) = k by omega] at this
  exact this

/-- How many of the operations that write memory have been carried out. -/
def Stage (l : List DOper) (S : List Nat) (m : Nat) : Prop := ∀ e oe, l[e]? = some oe → oe.op.op.isE = true → (e ∈ S ↔ e < m)

theorem pairsOk_get {l : List DOper} (h : pairsOk l = true) {i j : Nat} {oi oj : DOper} (hi : l[i]? = some oi) (hj : l[j]? = some oj) : pairOk oj j oi i = true := by
  unfold pairsOk at h
  rw [List.all_eq_true] at h
  have h1 := h (oj, j) (List.mem_zipIdx_iff_getElem?.2 hj)
  simp only at h1
  rw [List.all_eq_true] at h1
  exact h1 (oi, i) (List.mem_zipIdx_iff_getElem?.2 hi)

theorem pair_slot {oi oj : DOper} {i j t : Nat} (h : pairOk oj j oi i = true) (hne : i ≠ j) (hd : oi.op.dst = some t) (ht : touches oj t = true) : (if i < j then oj.pre.testBit i else oi.pre.testBit j) = true := by
  unfold pairOk at h
  rw [hd] at h
  simp only [Bool.and_eq_true, Bool.or_eq_true, beq_iff_eq, ht, Bool.not_true, Bool.false_eq_true, false_or] at h
  rcases h.1 with h | h
  · exact absurd h hne
  · exact h

theorem pair_eff {oi oj : DOper} {i j : Nat} (h : pairOk oj j oi i = true) (hlt : i < j) (hi : oi.op.op.isE = true) (hj : oj.op.op.isE = true) : oj.pre.testBit i = true := by
  unfold pairOk at h
  simp only [Bool.and_eq_true, hlt, decide_true, hi, hj, Bool.and_self, Bool.not_true, Bool.false_or] at h
  exact h.2

theorem dsim {ops : Array Oper} {l : List DOper} {F : Nat → Nat → Value} {H : Nat → Heap} {V : Nat → Value} (T : Trace P l 0 F H V) (hlen : l.length = ops.size)
    (hcomp : ∀ (k : Nat) (o : Oper) (d : DOper), ops[k]? = some o → l[k]? = some d → compOper P N ops o = some d.op)
    (hpre : ∀ k d, l[k]? = some d → d.pre = (calcPre (ops.toList.map edgesOf) []).getD k 0)
    (hback : ∀ j e, e ∈ (ops.toList.map edgesOf).getD j [] → e < j) (hpairs : pairsOk l = true) {S r : List Nat} (hv : Valid ops S r) :
    Closed (ops.toList.map edgesOf) S → (∀ i ∈ S, i < ops.size) → ∀ m, m ≤ l.length → Stage l S m → ∀ S' B ρ a w, Rel P N B ρ (fslots V S l 0 (F 0)) (H m) a w → ∀ Q : Exit → Act → World → Prop,
      (∀ ρ' a' w', Rel P N B ρ' (F l.length) (H l.length) a' w' → Tr ρ (H m) w ρ' (H l.length) w' → Q .normal a' w') → wpOpsIn (FR S') 0 P ops Q r a w := by
  induction hv with
  | nil hall =>
    rename_i S
    intro hcl hlt m hm hst S' B ρ a w R Q hq
    have hF : fslots V S l 0 (F 0) = F l.length := by
      have h1 := fslots_prefix T l 0 (List.range l.length) l.length (fun k => by simp) (fun k => by simp) (by omega) (by omega)
      rw [← h1]
      funext t
      refine fslots_congr (fun k d hk _ => ?_) rfl
      have hkl := (List.getElem?_eq_some_iff.1 hk).1
      simp only [Nat.zero_add, List.mem_range]
      exact ⟨fun _ => hkl, fun _ => hall k (by omega)⟩
    have hH : H l.length = H m := by
      refine H_const' T hm (Nat.le_refl _) ?_
      rintro e oe he hE ⟨h1, h2⟩
      have := (hst e oe he hE).1 (hall e (by omega))
      omega
    rw [hF] at R
    simp only [wpOpsIn]
    refine hq ρ a w (by rw [hH]; exact R) ?_
    rw [hH]
    exact Tr.refl R.heap
  | cons hoi hnot hedges hvr ih =>
    rename_i S j o r
    intro hcl hlt m hm hst S' B ρ a w R Q hq
    have hjn : j < ops.size := (Array.getElem?_eq_some_iff.1 hoi).1
    have hget : l[j]? = some (l[j]'(by omega)) := List.getElem?_eq_getElem _
    generalize hd0 : l[j]'(by omega) = d at hget
    have hc := hcomp j o d hoi hget
    obtain ⟨q1, q2, q3, q4, q5⟩ := compOper_inv hc
    have hes : (ops.toList.map edgesOf).getD j [] = edgesOf o := by
      simp [List.getD, hoi]
    have hcl' : Closed (ops.toList.map edgesOf) (j :: S) := by
      intro k e hk he
      rcases List.mem_cons.1 hk with rfl | hk
      · rw [hes] at he
        exact List.mem_cons_of_mem _ (hedges e he)
      · exact List.mem_cons_of_mem _ (hcl k e hk he)
    have before : ∀ i, d.pre.testBit i = true → i ∈ S := by
      intro i hb
      rw [hpre j d hget] at hb
      exact pre_closed hcl hback j i (by rw [hes]; exact hedges) hb
    have behind : ∀ k dk, l[k]? = some dk → dk.pre.testBit j = true → k ∉ S := by
      intro k dk hk hb hkS
      rw [hpre k dk hk] at hb
      exact hnot (pre_closed hcl hback k j (fun e he => hcl k e hkS he) hb)
    have slot : ∀ t, touches d t = true → fslots V S l 0 (F 0) t = F j t := by
      intro t ht
      have h1 := fslots_prefix T l 0 (List.range j) j (fun k => by simp) (fun k => by simp) (by omega) (by omega)
      rw [← h1]
      refine fslots_congr (fun k dk hk hdk => ?_) rfl
      simp only [Nat.zero_add, List.mem_range]
      by_cases hkj : k = j
      · subst hkj
        exact ⟨fun h => absurd h hnot, fun h => absurd h (Nat.lt_irrefl _)⟩
      · have hp := pair_slot (pairsOk_get hpairs hk hget) hkj hdk ht
        by_cases hlt' : k < j
        · rw [if_pos hlt'] at hp
          exact ⟨fun _ => hlt', fun _ => before k hp⟩
        · rw [if_neg hlt'] at hp
          exact ⟨fun h => absurd h (behind k dk hk hp), fun h => absurd h hlt'⟩
    have hreads : ∀ t ∈ d.op.reads, fslots V S l 0 (F 0) t = F j t := fun t ht => slot t (by simp [touches, ht])
    have hopds : ∀ t ∈ tmpsOf d.op.op.opds, fslots V S l 0 (F 0) t = F j t := fun t ht => hreads t (by simp [IOper.reads, ht])
    have hwant : wantB d.op.guard (fslots V S l 0 (F 0)) = wantB d.op.guard (F j) := by
      cases hg : d.op.guard with
      | none => rfl
      | some sb =>
        obtain ⟨s, b⟩ := sb
        simp only [wantB]
        rw [hreads s (by simp [IOper.reads, hg])]
    have hgok : gOk d.op.guard (fslots V S l 0 (F 0)) := by
      have := T.gok j d hget
      simp only [Nat.zero_add] at this
      cases hg : d.op.guard with
      | none => trivial
      | some sb =>
        obtain ⟨s, b⟩ := sb
        rw [hg] at this
        simp only [gOk] at this ⊢
        rw [hreads s (by simp [IOper.reads, hg])]
        exact this
    have hwr := wanted_eq q4 R hgok
    have hnew : fslots V (j :: S) l 0 (F 0) = updO (fslots V S l 0 (F 0)) o.dst (V j) := by
      rw [← q5]
      funext t
      by_cases hdt : d.op.dst = some t
      · have h1 := fslots_last (V := V) (S := j :: S) (l := l) (i := 0) (f := F 0) (k := j) (d := d) hget hdt (by simp) (by
          intro k' d' hk' hd' hlt'
          have hp := pair_slot (pairsOk_get hpairs hk' hget) (by omega) hd' (by simp [touches, hdt])
          rw [if_neg (by omega)] at hp
          have := behind k' d' hk' hp
          simp only [Nat.zero_add, List.mem_cons, not_or]
          exact ⟨by omega, this⟩)
        rw [h1]
        simp [hdt, updO, upd_eq]
      · have h1 : fslots V (j :: S) l 0 (F 0) t = fslots V S l 0 (F 0) t := by
          refine fslots_congr (fun k dk hk hdk => ?_) rfl
          have hkj : k ≠ j := by
            rintro rfl
            rw [hget] at hk
            cases hk
            exact hdt hdk
          simp [hkj]
        rw [h1]
        cases hdd : d.op.dst with
        | none => rfl
        | some x =>
          have : t ≠ x := by rintro rfl; exact hdt hdd
          simp [updO, upd_eq, this]
    have hlt2 : ∀ i ∈ j :: S, i < ops.size := by
      intro i hi
      rcases List.mem_cons.1 hi with rfl | hi
      · exact hjn
      · exact hlt i hi
    -- the stage, where the operation writes memory
    have stageE : d.op.op.isE = true → H m = H j ∧ Stage l (j :: S) (j + 1) := by
      intro hE
      have hmj : m ≤ j := by
        apply Classical.byContradiction
        intro h
        exact hnot ((hst j d hget hE).2 (by omega))
      refine ⟨?_, ?_⟩
      · refine (H_const' T hmj (by omega) ?_).symm
        rintro e oe he hEe ⟨h1, h2⟩
        have hb := pair_eff (pairsOk_get hpairs he hget) h2 hEe hE
        have := (hst e oe he hEe).1 (before e hb)
        omega
      · intro e oe he hEe
        rcases Nat.lt_trichotomy e j with hlt' | rfl | hgt
        · have hb := pair_eff (pairsOk_get hpairs he hget) hlt' hEe hE
          exact ⟨fun _ => by omega, fun _ => List.mem_cons_of_mem _ (before e hb)⟩
        · exact ⟨fun _ => by omega, fun _ => by simp⟩
        · have hb := pair_eff (pairsOk_get hpairs hget he) hgt hE hEe
          have := behind e oe he hb
          constructor
          · intro h
            rcases List.mem_cons.1 h with h | h
            · omega
            · exact absurd h this
          · intro h; omega
    have stageN : d.op.op.isE = false → Stage l (j :: S) m := by
      intro hE e oe he hEe
      have hne : e ≠ j := by
        rintro rfl
        rw [hget] at he
        cases he
        rw [hE] at hEe
        cases hEe
      rw [← hst e oe he hEe]
      simp [hne]
    have hyes := T.yes j d hget
    have hno := T.no j d hget
    simp only [Nat.zero_add] at hyes hno
    simp only [wpOpsIn, hoi]
    by_cases hw : wantB d.op.guard (F j) = true
    · rw [if_pos (by rw [hwr, hwant, hw])]
      have hs := hyes hw
      by_cases hE : d.op.op.isE = true
      · obtain ⟨e1, e2⟩ := stageE hE
        rw [← stepK_congr hopds, ← e1] at hs
        obtain ⟨v, h', st, hv, hh⟩ := opStep_of (N := N) q3 q1 hs
        subst hv
        subst hh
        refine st S' B ρ a w R _ _ ?_
        intro ρ' v' w' hvr' HH TT
        have R' := R.putO q2 TT hvr' HH
        rw [← hnew] at R'
        exact ih hcl' hlt2 (j + 1) (by omega) e2 S' B ρ' _ w' R' Q fun ρ'' a'' w'' R'' T'' => hq ρ'' a'' w'' R'' (TT.trans T'')
      · have hE' : d.op.op.isE = false := by simpa using hE
        -- what is looked at has one value at this stage and in the text's order
        have hs' : stepK P d.op.op (fslots V S l 0 (F 0)) (H m) fun v h' => v = V j ∧ h' = H m := by
          rw [stepK_congr hopds]
          cases hop : d.op.op with
          | p po =>
            rw [hop] at hs
            simp only [stepK, oletP] at hs ⊢
            split at hs
            · exact ⟨hs.1, trivial⟩
            · exact hs.elim
          | l lo =>
            have hval : iload lo (ev (F j)) (H m) = some (V j) := by
              have hself : iload lo (ev (F j)) (H j) = some (V j) := by
                rw [hop] at hs
                simp only [stepK, oletP] at hs
                split at hs
                · rename_i v hv
                  rw [hv, hs.1]
                · exact hs.elim
              rcases Nat.le_total m j with hmj | hmj
              · by_cases hex : ∃ e oe, l[e]? = some oe ∧ oe.op.op.isE = true ∧ m ≤ e ∧ e < j
                · -- the least of them
                  have key : ∀ n, (∃ e oe, l[e]? = some oe ∧ oe.op.op.isE = true ∧ m ≤ e ∧ e < j ∧ e < n) → ∃ e oe, l[e]? = some oe ∧ oe.op.op.isE = true ∧ m ≤ e ∧ e < j ∧ ∀ e' oe', l[e']? = some oe' → oe'.op.op.isE = true → ¬ (m ≤ e' ∧ e' < e) := by
                    intro n
                    induction n with
                    | zero => rintro ⟨e, oe, _, _, _, _, h⟩; omega
                    | succ n ihn =>
                      rintro ⟨e, oe, h1, h2, h3, h4, h5⟩
                      by_cases hlo : ∃ e oe, l[e]? = some oe ∧ oe.op.op.isE = true ∧ m ≤ e ∧ e < j ∧ e < n
                      · exact ihn hlo
                      · refine ⟨e, oe, h1, h2, h3, h4, ?_⟩
                        rintro e' oe' k1 k2 ⟨k3, k4⟩
                        exact hlo ⟨e', oe', k1, k2, k3, by omega, by omega⟩
                  obtain ⟨e0, oe0, g1, g2, g3, g4⟩ := hex
                  obtain ⟨e, oe, h1, h2, h3, h4, h5⟩ := key j ⟨e0, oe0, g1, g2, g3, g4, g4⟩
                  have hHe : H e = H m := H_const' T h3 (by omega) (fun e' oe' k1 k2 k3 => h5 e' oe' k1 k2 k3)
                  rw [← hHe]
                  have hnb : d.pre.testBit e = false := by
                    cases hb : d.pre.testBit e with
                    | false => rfl
                    | true =>
                      have := (hst e oe h1 h2).1 (before e hb)
                      omega
                  have := T.past e oe j d lo h1 h2 hget hop (by simpa using hw) h4 (by simpa using hnb)
                  simpa using this
                · have hHm : H j = H m := H_const' T hmj (by omega) (fun e oe h1 h2 h3 => hex ⟨e, oe, h1, h2, h3⟩)
                  rw [← hHm]
                  exact hself
              · by_cases hex : ∃ e oe, l[e]? = some oe ∧ oe.op.op.isE = true ∧ j ≤ e ∧ e < m
                · have key : ∀ n, (∃ e oe, l[e]? = some oe ∧ oe.op.op.isE = true ∧ j ≤ e ∧ e < m ∧ m ≤ e + n) → ∃ e oe, l[e]? = some oe ∧ oe.op.op.isE = true ∧ j ≤ e ∧ e < m ∧ ∀ e' oe', l[e']? = some oe' → oe'.op.op.isE = true → ¬ (e + 1 ≤ e' ∧ e' < m) := by
                    intro n
                    induction n with
                    | zero => rintro ⟨e, oe, _, _, _, _, h⟩; omega
                    | succ n ihn =>
                      rintro ⟨e, oe, h1, h2, h3, h4, h5⟩
                      by_cases hlo : ∃ e oe, l[e]? = some oe ∧ oe.op.op.isE = true ∧ j ≤ e ∧ e < m ∧ m ≤ e + n
                      · exact ihn hlo
                      · refine ⟨e, oe, h1, h2, h3, h4, ?_⟩
                        rintro e' oe' k1 k2 ⟨k3, k4⟩
                        exact hlo ⟨e', oe', k1, k2, by omega, by omega, by omega⟩
                  obtain ⟨e0, oe0, g1, g2, g3, g4⟩ := hex
                  obtain ⟨e, oe, h1, h2, h3, h4, h5⟩ := key m ⟨e0, oe0, g1, g2, g3, g4, by omega⟩
                  have hne : e ≠ j := by
                    rintro rfl
                    rw [hget] at h1
                    cases h1
                    rw [hE'] at h2
                    cases h2
                  have hHe : H m = H (e + 1) := H_const' T (by omega) hm (fun e' oe' k1 k2 k3 => h5 e' oe' k1 k2 k3)
                  rw [hHe]
                  have hnb : oe.pre.testBit j = false := by
                    cases hb : oe.pre.testBit j with
                    | false => rfl
                    | true => exact absurd ((hst e oe h1 h2).2 h4) (behind e oe h1 hb)
                  have := T.fut j d lo e oe hget hop (by simpa using hw) h1 h2 (by omega) (by simpa using hnb)
                  simpa using this
                · have hHm : H m = H j := H_const' T hmj hm (fun e oe h1 h2 h3 => hex ⟨e, oe, h1, h2, h3⟩)
                  rw [hHm]
                  exact hself
            simp [stepK, oletP, hval]
          | e eo => rw [hop] at hE'; cases hE'
          | call g args => rw [hop] at hE'; cases hE'
          | callv x args => rw [hop] at hE'; cases hE'
        obtain ⟨v, h', st, hv, hh⟩ := opStep_of (N := N) q3 q1 hs'
        subst hv
        subst hh
        refine st S' B ρ a w R _ _ ?_
        intro ρ' v' w' hvr' HH TT
        have R' := R.putO q2 TT hvr' HH
        rw [← hnew] at R'
        exact ih hcl' hlt2 m hm (stageN hE') S' B ρ' _ w' R' Q fun ρ'' a'' w'' R'' T'' => hq ρ'' a'' w'' R'' (TT.trans T'')
    · have hw' : wantB d.op.guard (F j) = false := by simpa using hw
      rw [if_neg (by rw [hwr, hwant, hw']; simp)]
      obtain ⟨n1, n2⟩ := hno hw'
      have R' := R.putO q2 (Tr.refl R.heap) (VRel.undef _) R.heap
      rw [n1] at hnew
      rw [← hnew] at R'
      by_cases hE : d.op.op.isE = true
      · obtain ⟨e1, e2⟩ := stageE hE
        have e3 : H (j + 1) = H m := by rw [n2, e1]
        exact ⟨fun _ _ => trivial, ih hcl' hlt2 (j + 1) (by omega) e2 S' B ρ _ w (by rw [e3]; exact R') Q fun ρ'' a'' w'' R'' T'' => hq ρ'' a'' w'' R'' (by rw [e3] at T''; exact T'')⟩
      · exact ⟨fun _ _ => trivial, ih hcl' hlt2 m hm (stageN (by simpa using hE)) S' B ρ _ w R' Q hq⟩

theorem zipD_get : ∀ {ios : List IOper} {ps : List Nat}, ios.length ≤ ps.length → (zipD ios ps).length = ios.length ∧ ∀ (k : Nat) (d : DOper), (zipD ios ps)[k]? = some d → ios[k]? = some d.op ∧ d.pre = ps.getD k 0
  | [], ps, _ => ⟨by simp [zipD], fun k d h => by simp [zipD] at h⟩
  | o :: ios, [], h => by simp at h
  | o :: ios, p :: ps, h => by
    obtain ⟨h1, h2⟩ := zipD_get (ios := ios) (ps := ps) (by simpa using h)
    refine ⟨by simp [zipD, h1], ?_⟩
    intro k d hk
    cases k with
    | zero => simp [zipD] at hk; subst hk; simp
    | succ k =>
      simp only [zipD, List.getElem?_cons_succ] at hk
      obtain ⟨a, b⟩ := h2 k d hk
      exact ⟨by simpa using a, by simpa [List.getD] using b⟩

theorem calcPre_length : ∀ (es : List (List Nat)) (acc : List Nat), (calcPre es acc).length = acc.length + es.length
  | [], acc => by simp [calcPre]
  | e :: es, acc => by simp only [calcPre]; rw [calcPre_length]; simp; omega

theorem compList_get {ops : Array Oper} : ∀ {os : List Oper} {l : List IOper}, compList P N ops os = some l → l.length = os.length ∧ ∀ (k : Nat) (o : Oper) (x : IOper), os[k]? = some o → l[k]? = some x → compOper P N ops o = some x
  | [], l, h => by
    simp [compList] at h
    subst h
    exact ⟨rfl, fun k o x hk => by simp at hk⟩
  | o :: os, l, h => by
    obtain ⟨x, xs, h1, h2, rfl⟩ := compList_inv h
    obtain ⟨e1, e2⟩ := compList_get h2
    refine ⟨by simp [e1], ?_⟩
    intro k o' x' hk hx
    cases k with
    | zero => simp at hk hx; subst hk; subst hx; exact h1
    | succ k => exact e2 k o' x' (by simpa using hk) (by simpa using hx)

/-- A region whose order is open. -/
theorem idops_sound {out : Bool} {id : Nat} {ops : Array Oper} {l : List DOper} {K : (Nat → Value) → Heap → Prop} {f : Nat → Value} {h : Heap} (hc : compD P N ops = some l) (hi : idops P l 0 [] [] K f h) :
    ∃ f' h', Run P N out (.region id ops true) f h .normal f' h' ∧ K f' h' := by
  unfold compD at hc
  split at hc
  · rename_i ios hios
    split at hc
    · rename_i hchk
      simp at hc
      simp only [Bool.and_eq_true] at hchk
      obtain ⟨⟨hmix, hbk⟩, hpairs⟩ := hchk
      rw [hc] at hpairs
      obtain ⟨g1, g2⟩ := compList_get hios
      have hlen0 : ios.length ≤ (calcPre (ops.toList.map edgesOf) []).length := by rw [calcPre_length]; simp [g1]
      obtain ⟨z1, z2⟩ := zipD_get hlen0
      rw [hc] at z1 z2
      have hlen : l.length = ops.size := by rw [z1, g1]; simp
      obtain ⟨F, H, V, f1, f2, f3, T, _, _⟩ := idops_trace hi
      simp only [Nat.zero_add] at f3
      refine ⟨F l.length, H l.length, ?_, f3⟩
      · intro S hS B ρ a w R
        refine wpIn_region_draw ?_
        intro t
        have hsched : Region.schedule (P.follows .mixedOrders) ops t = Region.linearise .any ops t := by
          unfold Region.schedule
          rw [hmix]
          simp
        rw [hsched]
        have hval := linearise_valid hbk t
        have hback : ∀ j e, e ∈ (ops.toList.map edgesOf).getD j [] → e < j := by
          intro j e he
          by_cases hj : j < ops.size
          · have hg : ops.toList[j]? = some ops[j] := by simp [hj]
            have : (ops.toList.map edgesOf).getD j [] = edgesOf ops[j] := by simp [List.getD, hj]
            rw [this] at he
            have := backOk_get hbk j ops[j] hg e he
            omega
          · have : (ops.toList.map edgesOf).getD j [] = [] := by simp [List.getD, Nat.le_of_not_lt hj]
            rw [this] at he
            simp at he
        have hnil : ∀ (l : List DOper) (i : Nat) (f : Nat → Value), fslots V [] l i f = f := by
          intro l
          induction l with
          | nil => intro i f; rfl
          | cons a l ih => intro i f; simp [fslots, ih]
        have R1 : Rel P N B ρ (fslots V [] l 0 (F 0)) (H 0) a { w with drawn := w.drawn + 1 } := by
          rw [hnil, f1, f2]
          exact R.mono (Tr.drew R.heap _) (R.heap.drew _)
        refine dsim T hlen ?_ ?_ hback hpairs hval (fun j e hj => by simp at hj) (fun i hi => by simp at hi) 0 (by omega) (fun e oe _ _ => by simp) S B ρ a _ R1 _ ?_
        · intro k o d hk hd
          exact g2 k o d.op (by simpa using hk) (z2 k d hd).1
        · intro k d hd
          exact (z2 k d hd).2
        · intro ρ' a' w' R' T'
          refine ⟨rfl, ρ', R', ?_⟩
          have T0 := Tr.drew R.heap (w.drawn + 1)
          rw [f2] at T'
          exact T0.trans T'
    · cases hc
  · cases hc

end
end Go.Sim
