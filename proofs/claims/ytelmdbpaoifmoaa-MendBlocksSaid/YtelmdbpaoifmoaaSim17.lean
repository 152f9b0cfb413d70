/-
  Which orders the model may draw for a region.
-/
import Derived.Test.YtelmdbpaoifmoaaMgb
namespace Go.Sim

/-- An order that the model may draw, some operations having been carried out. -/
inductive Valid (ops : Array Oper) : List Nat → List Nat → Prop
  | nil {S : List Nat} : (∀ i, i < ops.size → i ∈ S) → Valid ops S []
  | cons {S : List Nat} {i : Nat} {o : Oper} {l : List Nat} : ops[i]? = some o → i ∉ S → (∀ e ∈ edgesOf o, e ∈ S) → Valid ops (i :: S) l → Valid ops S (i :: l)

theorem backOk_get : ∀ {ops : List Oper} {i : Nat}, backOk ops i = true → ∀ (k : Nat) (o : Oper), ops[k]? = some o → ∀ e ∈ edgesOf o, e < i + k
  | [], i, _, k, o, hk => by simp at hk
  | x :: ops, i, h, k, o, hk => by
    simp only [backOk, Bool.and_eq_true, List.all_eq_true, decide_eq_true_eq] at h
    cases k with
    | zero => simp at hk; subst hk; exact h.1
    | succ k =>
      intro e he
      have := backOk_get h.2 k o (by simpa using hk) e he
      omega

def ready (ops : Array Oper) (listed : Array Bool) (i : Nat) : Bool :=
  !listed.getD i true && ((ops[i]?).map (·.after.all fun e => !Region.binds .any e || listed.getD e.on false)).getD false

theorem go_eq (ops : Array Oper) (fuel t : Nat) (listed : Array Bool) (acc : List Nat) :
    Region.linearise.go .any ops (fuel + 1) t listed acc =
      match ((List.range ops.size).filter (ready ops listed))[t % ((List.range ops.size).filter (ready ops listed)).length]? with
      | some i => Region.linearise.go .any ops fuel (t / ((List.range ops.size).filter (ready ops listed)).length) (listed.setIfInBounds i true) (i :: acc)
      | none => acc.reverse := by
  rw [Region.linearise.go]
  rfl

theorem ready_spec {ops : Array Oper} {listed : Array Bool} {S : List Nat} (hl : listed.size = ops.size) (hS : ∀ i, i < ops.size → (listed.getD i false = true ↔ i ∈ S)) (hb : ∀ (k : Nat) (o : Oper), ops[k]? = some o → ∀ e ∈ edgesOf o, e < k)
    {i : Nat} (hi : i < ops.size) : ready ops listed i = true ↔ i ∉ S ∧ ∀ o, ops[i]? = some o → ∀ e ∈ edgesOf o, e ∈ S := by
  have ho : ops[i]? = some ops[i] := by simp [hi]
  have e1 : listed.getD i true = listed.getD i false := by simp [Array.getD, hl, hi]
  unfold ready
  rw [e1, ho]
  simp only [Option.map_some, Option.getD_some, Bool.and_eq_true, Bool.not_eq_true', Option.some.injEq, forall_eq']
  have h1 : listed.getD i false = false ↔ i ∉ S := by
    rw [← hS i hi]
    cases listed.getD i false <;> simp
  rw [h1]
  refine and_congr_right fun _ => ?_
  rw [Array.all_eq_true']
  constructor
  · intro h e he
    have hlt := hb i _ ho e he
    unfold edgesOf at he
    simp only [List.mem_filterMap] at he
    obtain ⟨x, hx, hxe⟩ := he
    split at hxe
    · rename_i hbd
      simp at hxe
      subst hxe
      have := h x (by simpa using hx)
      simp only [Bool.or_eq_true, Bool.not_eq_true', hbd] at this
      exact (hS _ (by omega)).1 (by simpa using this)
    · cases hxe
  · intro h x hx
    cases hbd : Region.binds .any x with
    | false => simp
    | true =>
      have hm : x.on ∈ edgesOf ops[i] := by
        unfold edgesOf
        simp only [List.mem_filterMap]
        exact ⟨x, by simpa using hx, by simp [hbd]⟩
      have hlt := hb i _ ho _ hm
      simp [(hS x.on (by omega)).2 (h _ hm)]

theorem nodup_le : ∀ {l m : List Nat}, l.Nodup → l ⊆ m → l.length ≤ m.length
  | [], m, _, _ => by simp
  | x :: l, m, hd, hs => by
    have hx : x ∈ m := hs (by simp)
    rw [List.nodup_cons] at hd
    have h1 : l ⊆ m.erase x := by
      intro y hy
      have hne : y ≠ x := by rintro rfl; exact hd.1 hy
      exact (List.mem_erase_of_ne hne).2 (hs (by simp [hy]))
    have h2 := nodup_le hd.2 h1
    rw [List.length_erase_of_mem hx] at h2
    have : 0 < m.length := List.length_pos_of_mem hx
    simp
    omega

theorem countNot {n : Nat} {S : List Nat} (hlen : S.length < n) : ∃ i, i < n ∧ i ∉ S ∧ ∀ k, k < i → k ∈ S := by
  have hex : ∃ i, i < n ∧ i ∉ S := by
    apply Classical.byContradiction
    intro hno
    have hall : ∀ i, i < n → i ∈ S := fun i hi => Classical.byContradiction fun h => hno ⟨i, hi, h⟩
    have hsub : List.range n ⊆ S := fun i hi => hall i (List.mem_range.1 hi)
    have := nodup_le (List.nodup_range (n := n)) hsub
    simp at this
    omega
  have key : ∀ m, (∃ i, i < m ∧ i < n ∧ i ∉ S) → ∃ i, i < n ∧ i ∉ S ∧ ∀ k, k < i → k ∈ S := by
    intro m
    induction m with
    | zero => rintro ⟨i, h, _⟩; omega
    | succ m ih =>
      rintro ⟨i, h1, h2, h3⟩
      by_cases hlo : ∃ i, i < m ∧ i < n ∧ i ∉ S
      · exact ih hlo
      · have him : i = m := by
          by_cases e : i = m
          · exact e
          · exact absurd ⟨i, by omega, h2, h3⟩ hlo
        subst him
        refine ⟨i, h2, h3, fun k hk => Classical.byContradiction fun hkS => hlo ⟨k, hk, by omega, hkS⟩⟩
  obtain ⟨i, h1, h2⟩ := hex
  exact key n ⟨i, h1, h1, h2⟩

theorem go_valid {ops : Array Oper} (hb : ∀ (k : Nat) (o : Oper), ops[k]? = some o → ∀ e ∈ edgesOf o, e < k) : ∀ (fuel t : Nat) (listed : Array Bool) (acc : List Nat), listed.size = ops.size →
    (∀ i, i < ops.size → (listed.getD i false = true ↔ i ∈ acc)) → acc.Nodup → (∀ i ∈ acc, i < ops.size) → acc.length + fuel = ops.size →
    ∃ l, Region.linearise.go .any ops fuel t listed acc = acc.reverse ++ l ∧ Valid ops acc l
  | 0, t, listed, acc, hl, hS, hd, hlt, hf => by
    refine ⟨[], by simp [Region.linearise.go], .nil ?_⟩
    intro i hi
    apply Classical.byContradiction
    intro h
    have hsub : (i :: acc) ⊆ List.range ops.size := by
      intro x hx
      rcases List.mem_cons.1 hx with rfl | hx
      · simpa using hi
      · simpa using hlt x hx
    have := nodup_le (List.nodup_cons.2 ⟨h, hd⟩) hsub
    simp at this
    omega
  | fuel + 1, t, listed, acc, hl, hS, hd, hlt, hf => by
    rw [go_eq]
    obtain ⟨i0, hi0, hi0n, hi0l⟩ := countNot (n := ops.size) (S := acc) (by omega)
    have hr0 : ready ops listed i0 = true := (ready_spec hl hS hb hi0).2 ⟨hi0n, fun o ho e he => hi0l e (hb i0 o ho e he)⟩
    have hpos : 0 < ((List.range ops.size).filter (ready ops listed)).length := List.length_pos_of_mem (List.mem_filter.2 ⟨List.mem_range.2 hi0, hr0⟩)
    have hget : ∃ i, ((List.range ops.size).filter (ready ops listed))[t % ((List.range ops.size).filter (ready ops listed)).length]? = some i := ⟨_, List.getElem?_eq_getElem (Nat.mod_lt _ hpos)⟩
    obtain ⟨i, hi⟩ := hget
    rw [hi]
    have hmem := List.mem_of_getElem? hi
    simp only [List.mem_filter, List.mem_range] at hmem
    obtain ⟨hin, hready⟩ := hmem
    obtain ⟨hnot, hedges⟩ := (ready_spec hl hS hb hin).1 hready
    obtain ⟨l, h1, h2⟩ := go_valid hb fuel (t / ((List.range ops.size).filter (ready ops listed)).length) (listed.setIfInBounds i true) (i :: acc) (by simpa using hl) (by
      intro k hk
      by_cases e : k = i
      · subst e; simp [Array.getD, hl, hk]
      · have : (listed.setIfInBounds i true).getD k false = listed.getD k false := by
          simp only [Array.getD_eq_getD_getElem?, Array.getElem?_setIfInBounds]
          rw [if_neg (Ne.symm e)]
        rw [this, hS k hk]
        simp [e]) (List.nodup_cons.2 ⟨hnot, hd⟩) (by
      intro k hk
      rcases List.mem_cons.1 hk with rfl | hk
      · exact hin
      · exact hlt k hk) (by simp; omega)
    refine ⟨i :: l, by simp only [h1]; simp, ?_⟩
    exact .cons (o := ops[i]) (by simp [hin]) hnot (hedges _ (by simp [hin])) h2

theorem linearise_valid {ops : Array Oper} (hb : backOk ops.toList 0 = true) (t : Nat) : Valid ops [] (Region.linearise .any ops t) := by
  have hb' : ∀ (k : Nat) (o : Oper), ops[k]? = some o → ∀ e ∈ edgesOf o, e < k := by
    intro k o hk e he
    have := backOk_get hb k o (by simpa using hk) e he
    omega
  obtain ⟨l, h1, h2⟩ := go_valid hb' ops.size t (Array.replicate ops.size false) [] (by simp) (by intro i hi; simp [Array.getD, hi]) .nil (by simp) (by simp)
  have : Region.linearise .any ops t = l := by
    unfold Region.linearise
    rw [h1]
    simp
  rw [this]
  exact h2

end Go.Sim
