/-
  A region whose order is open (2): the simulation.
-/
import Derived.Test.YtjdlcokhlphmhaaSim18
namespace Go.Sim

/-- The slots when some operations have been carried out: their values laid in the text's order. -/
def fslots (V : Nat → Value) (S : List Nat) : List DOper → Nat → (Nat → Value) → (Nat → Value)
  | [], _, f => f
  | d :: ds, i, f => fslots V S ds (i + 1) (if S.contains i then updO f d.op.dst (V i) else f)

theorem fslots_congr {V : Nat → Value} {S S' : List Nat} {t : Nat} : ∀ {l : List DOper} {i : Nat} {f f' : Nat → Value}, (∀ k d, l[k]? = some d → d.op.dst = some t → (i + k ∈ S ↔ i + k ∈ S')) → f t = f' t → fslots V S l i f t = fslots V S' l i f' t
  | [], i, f, f', _, hf => hf
  | d :: ds, i, f, f', h, hf => by
    simp only [fslots]
    refine fslots_congr (fun k d' hk hd => ?_) ?_
    · have := h (k + 1) d' (by simpa using hk) hd
      rw [show i + (k + 1) = i + 1 + k by omega] at this
      exact this
    · by_cases hd : d.op.dst = some t
      · have := h 0 d rfl hd
        simp only [Nat.add_zero] at this
        by_cases hi : i ∈ S
        · simp [hi, this.1 hi, hd, updO, upd_eq]
        · have hi' : i ∉ S' := fun h => hi (this.2 h)
          simp [hi, hi', hf]
      · have hne : ∀ v g, updO g d.op.dst v t = g t := by
          intro v g
          cases hdd : d.op.dst with
          | none => rfl
          | some x =>
            have : t ≠ x := by rintro rfl; exact hd hdd
            simp [updO, upd_eq, this]
        split <;> split <;> simp [hne, hf]

/-- The last writer counts. -/
theorem fslots_last {V : Nat → Value} {S : List Nat} {t : Nat} : ∀ {l : List DOper} {i : Nat} {f : Nat → Value} {k : Nat} {d : DOper}, l[k]? = some d → d.op.dst = some t → i + k ∈ S →
    (∀ k' d', l[k']? = some d' → d'.op.dst = some t → k < k' → i + k' ∉ S) → fslots V S l i f t = V (i + k)
  | [], i, f, k, d, hk, _, _, _ => by simp at hk
  | d0 :: ds, i, f, k, d, hk, hd, hS, hlast => by
    simp only [fslots]
    cases k with
    | zero =>
      simp at hk; subst hk
      simp only [Nat.add_zero] at hS ⊢
      have : fslots V S ds (i + 1) (if S.contains i = true then updO f d0.op.dst (V i) else f) t = fslots V [] ds (i + 1) (if S.contains i = true then updO f d0.op.dst (V i) else f) t := by
        refine fslots_congr (fun k' d' hk' hd' => ?_) rfl
        have := hlast (k' + 1) d' (by simpa using hk') hd' (by omega)
        rw [show i + (k' + 1) = i + 1 + k' by omega] at this
        simp [this]
      rw [this]
      have hnil : ∀ (l : List DOper) (i : Nat) (f : Nat → Value), fslots V [] l i f = f := by
        intro l
        induction l with
        | nil => intro i f; rfl
        | cons a l ih => intro i f; simp [fslots, ih]
      rw [hnil]
      simp [hS, hd, updO, upd_eq]
    | succ k =>
      have := fslots_last (V := V) (S := S) (l := ds) (i := i + 1) (f := if S.contains i = true then updO f d0.op.dst (V i) else f) (k := k) (d := d) (by simpa using hk) hd (by rw [show i + 1 + k = i + (k + 1) by omega]; exact hS) (by
        intro k' d' hk' hd' hlt
        have := hlast (k' + 1) d' (by simpa using hk') hd' (by omega)
        rw [show i + (k' + 1) = i + 1 + k' by omega] at this
        exact this)
      rw [this]
      congr 1
      omega

theorem fslots_prefix {P : Program} {l : List DOper} {F : Nat → Nat → Value} {H : Nat → Heap} {V : Nat → Value} (T : Trace P l 0 F H V) : ∀ (r : List DOper) (i : Nat) (S : List Nat) (j : Nat), (∀ k, r[k]? = l[i + k]?) → (∀ k, k ∈ S ↔ k < j) → i ≤ j → j ≤ i + r.length →
    fslots V S r i (F i) = F j
  | [], i, S, j, _, _, h1, h2 => by
    simp at h2
    obtain rfl : i = j := by omega
    rfl
  | d :: r, i, S, j, hr, hS, h1, h2 => by
    simp only [fslots]
    have h0 := hr 0
    simp only [List.getElem?_cons_zero, Nat.add_zero] at h0
    have hu := T.upd i d h0.symm
    simp only [Nat.zero_add] at hu
    by_cases hij : i < j
    · have : i ∈ S := (hS i).2 hij
      simp only [List.contains_eq_mem, this, decide_true, if_true]
      rw [← hu]
      exact fslots_prefix T r (i + 1) S j (fun k => by have := hr (k + 1); rw [show i + (k + 1) = i + 1 + k by omega] at this; simpa using this) hS (by omega) (by simp at h2; omega)
    · obtain rfl : i = j := by omega
      have hni : i ∉ S := fun h => by have := (hS i).1 h; omega
      simp only [List.contains_eq_mem, hni, decide_false, Bool.false_eq_true, if_false]
      have hskip : ∀ (r : List DOper) (k : Nat) (f : Nat → Value), i ≤ k → fslots V S r k f = f := by
        intro r
        induction r with
        | nil => intro k f _; rfl
        | cons a r ih =>
          intro k f hk
          have : k ∉ S := fun h => by have := (hS k).1 h; omega
          simp [fslots, this, ih (k + 1) f (by omega)]
      exact hskip r (i + 1) _ (by omega)

/-- The masks tell no more than the edges, taken together. -/
def Closed (es : List (List Nat)) (S : List Nat) : Prop := ∀ j e, j ∈ S → e ∈ (es.getD j []) → e ∈ S

theorem preOf_bit {pres : List Nat} : ∀ {es : List Nat} {i : Nat}, (preOf pres es).testBit i = true → ∃ e ∈ es, i = e ∨ (pres.getD e 0).testBit i = true
  | [], i, h => by simp [preOf] at h
  | e :: es, i, h => by
    simp only [preOf, Nat.testBit_or, Bool.or_eq_true] at h
    rcases h with (h | h) | h
    · refine ⟨e, by simp, .inl ?_⟩
      rw [Nat.testBit_two_pow] at h
      exact (by simpa using h : e = i).symm
    · exact ⟨e, by simp, .inr h⟩
    · obtain ⟨e', h1, h2⟩ := preOf_bit h
      exact ⟨e', by simp [h1], h2⟩

theorem calcPre_spec : ∀ {es : List (List Nat)} {acc : List Nat} {all : List (List Nat)}, (∀ k, es[k]? = all[acc.length + k]?) → (∀ j i, j < acc.length → (acc.getD j 0).testBit i = true → ∃ e ∈ all.getD j [], i = e ∨ ((calcPre es acc).getD e 0).testBit i = true) →
    (∀ j i, ((calcPre es acc).getD j 0).testBit i = true → ∃ e ∈ all.getD j [], i = e ∨ ((calcPre es acc).getD e 0).testBit i = true) := by
  intro es
  induction es with
  | nil =>
    intro acc all _ hacc j i h
    simp only [calcPre] at h ⊢ hacc
    by_cases hj : j < acc.length
    · exact hacc j i hj h
    · have : acc.getD j 0 = 0 := by simp [List.getD, Nat.le_of_not_lt hj]
      rw [this] at h
      simp at h
  | cons e0 es ih =>
    intro acc all hall hacc j i h
    simp only [calcPre] at h ⊢ hacc
    have keep : ∀ (es : List (List Nat)) (acc : List Nat) (k : Nat), k < acc.length → (calcPre es acc).getD k 0 = acc.getD k 0 := by
      intro es
      induction es with
      | nil => intro acc k _; rfl
      | cons a es ih' =>
        intro acc k hk
        simp only [calcPre]
        rw [ih' _ k (by simp; omega)]
        simp [List.getD, List.getElem?_append_left hk]
    refine ih (acc := acc ++ [preOf acc e0]) (all := all) ?_ ?_ j i h
    · intro k
      have := hall (k + 1)
      simp only [List.getElem?_cons_succ] at this
      rw [this]
      congr 1
      simp
      omega
    · intro j' i' hj' hb
      by_cases hlt : j' < acc.length
      · rw [show (acc ++ [preOf acc e0]).getD j' 0 = acc.getD j' 0 by simp [List.getD, List.getElem?_append_left hlt]] at hb
        exact hacc j' i' hlt hb
      · obtain rfl : j' = acc.length := by simp at hj'; omega
        rw [show (acc ++ [preOf acc e0]).getD acc.length 0 = preOf acc e0 by simp [List.getD]] at hb
        obtain ⟨e, h1, h2⟩ := preOf_bit hb
        have h0 := hall 0
        simp only [List.getElem?_cons_zero, Nat.add_zero] at h0
        refine ⟨e, by simp [List.getD, ← h0, h1], ?_⟩
        rcases h2 with h2 | h2
        · exact .inl h2
        · right
          have helt : e < acc.length := by
            apply Classical.byContradiction
            intro hge
            have : acc.getD e 0 = 0 := by simp [List.getD, Nat.le_of_not_lt hge]
            rw [this] at h2
            simp at h2
          rw [keep _ _ _ (by simp; omega)]
          simpa [List.getD, List.getElem?_append_left helt] using h2

theorem pre_closed {es : List (List Nat)} {S : List Nat} (hS : Closed es S) (hback : ∀ j e, e ∈ es.getD j [] → e < j) : ∀ (j i : Nat), (∀ e ∈ es.getD j [], e ∈ S) → ((calcPre es []).getD j 0).testBit i = true → i ∈ S := by
  intro j
  induction j using Nat.strongRecOn with
  | _ j ih =>
    intro i he hb
    obtain ⟨e, h1, h2⟩ := calcPre_spec (es := es) (acc := []) (all := es) (fun k => by simp) (fun j i hj => by simp at hj) j i hb
    rcases h2 with rfl | h2
    · exact he _ h1
    · exact ih e (hback j e h1) i (fun e' he' => hS e e' (he e h1) he') h2

end Go.Sim
