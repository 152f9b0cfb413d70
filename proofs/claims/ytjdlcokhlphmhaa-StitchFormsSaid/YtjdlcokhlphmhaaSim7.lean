/-
  The relation between the heaps under the steps that memory takes.
-/
import Derived.Test.YtjdlcokhlphmhaaSim6
namespace Go.Sim

theorem CellsRel.mono {ρ ρ' : RMap} (h : ρ.le ρ') {c : Array Value} {sh : Nat} {xs : List Value} (hc : CellsRel ρ c sh xs) : CellsRel ρ' c sh xs := by
  intro j x hj
  obtain ⟨h1, y, hy, hr⟩ := hc j x hj
  exact ⟨h1, y, hy, hr.mono h⟩

theorem objRel.mono {ρ ρ' : RMap} {w w' : World} {r : RI} {o : IObj} (hle : ρ.le ρ') (hw : w'.heap[r.blk]? = w.heap[r.blk]?) (h : objRel ρ w r o) : objRel ρ' w' r o := by
  cases o with
  | ro e xs =>
    obtain ⟨h1, c, t, fr, h2, h3, h4⟩ := h
    exact ⟨h1, c, t, fr, by rw [hw]; exact h2, h3, h4.mono hle⟩
  | arr e xs =>
    obtain ⟨h1, h0, c, h2, h3, h4⟩ := h
    exact ⟨h1, h0, c, by rw [hw]; exact h2, h3, h4.mono hle⟩
  | smap es =>
    obtain ⟨ents, clock, h1, h2, h3⟩ := h
    refine ⟨ents, clock, by rw [hw]; exact h1, h2, ?_⟩
    intro j k v hj
    obtain ⟨en, he, hk, hv⟩ := h3 j k v hj
    exact ⟨en, he, hk, hv.mono hle⟩
  | loop c ls vs =>
    obtain ⟨rec, h1, h2, h3, h4, h5, h6, h7, h8⟩ := h
    exact ⟨rec, by rw [hw]; exact h1, h2, h3, h4, h5, h6, h7, fun t => (h8 t).mono hle⟩
  | dead => trivial

/-- The map with one more id. -/
def RMap.add (ρ : RMap) (i : Nat) (r : RI) : RMap := fun j => if j = i then some r else ρ j

theorem RMap.le_add {ρ : RMap} {i : Nat} {r : RI} (h : ρ i = none) : ρ.le (ρ.add i r) := by
  intro j s hj
  unfold RMap.add
  split
  · rename_i e; subst e; rw [h] at hj; cases hj
  · exact hj

theorem HRel.none {P : Program} {ρ : RMap} {h : Heap} {w : World} (H : HRel P ρ h w) : ρ h.length = none := by
  cases hr : ρ h.length with
  | none => rfl
  | some r => exact absurd (H.lt hr) (Nat.lt_irrefl _)

theorem objBlk {P : Program} {ρ : RMap} {h : Heap} {w : World} (H : HRel P ρ h w) {i : Nat} {r : RI} (hi : ρ i = some r) (hl : isLive h i) : r.blk < w.heap.size := by
  obtain ⟨o, ho, hr⟩ := H.obj i r hi
  obtain ⟨o', ho', hne⟩ := hl
  rw [ho] at ho'
  cases ho'
  have key : ∀ {x : Obj}, w.heap[r.blk]? = some x → r.blk < w.heap.size := fun h => (Array.getElem?_eq_some_iff.1 h).1
  cases o with
  | ro e xs => obtain ⟨_, c, _, fr, h2, _⟩ := hr; exact key h2
  | arr e xs => obtain ⟨_, _, c, h2, _⟩ := hr; exact key h2
  | smap es => obtain ⟨ents, clock, h1, _⟩ := hr; exact key h1
  | loop c ls vs => obtain ⟨rec, h1, _⟩ := hr; exact key h1
  | dead => exact absurd rfl hne

/-- A world with one more block, whose draws may have moved. -/
structure NewBlock (w : World) (b : Obj) (w' : World) : Prop where
  heap : w'.heap = w.heap.push b
  os : w'.os = w.os
  tape : w'.tape = w.tape
  output : w'.output = w.output

theorem NewBlock.alloc (w : World) (b : Obj) : NewBlock w b (w.alloc b) := ⟨rfl, rfl, rfl, rfl⟩
theorem NewBlock.drew (w : World) (b : Obj) : NewBlock w b (w.drew.alloc b) := ⟨rfl, rfl, rfl, rfl⟩

theorem NewBlock.old {w w' : World} {b : Obj} (n : NewBlock w b w') {k : Nat} (h : k < w.heap.size) : w'.heap[k]? = w.heap[k]? := by
  rw [n.heap, Array.getElem?_push, if_neg (by omega)]
theorem NewBlock.new {w w' : World} {b : Obj} (n : NewBlock w b w') : w'.heap[w.heap.size]? = some b := by
  rw [n.heap, Array.getElem?_push, if_pos rfl]
theorem NewBlock.size {w w' : World} {b : Obj} (n : NewBlock w b w') : w'.heap.size = w.heap.size + 1 := by
  rw [n.heap]; simp

/-- A new object in a new block. -/
theorem HRel.new {P : Program} {ρ : RMap} {h h₀ : Heap} {w w' : World} {b : Obj} {r : RI} {o : IObj} (H : HRel P ρ h w) (nb : NewBlock w b w') (hb : r.blk = w.heap.size) (he : r.esz = P.cellsOf r.elem)
    (hk : h₀.length = h.length) (hd : ∀ i : Nat, h₀[i]? = h[i]? ∨ h₀[i]? = some IObj.dead)
    (ho : objRel (ρ.add h.length r) w' r o) : HRel P (ρ.add h.length r) (h₀ ++ [o]) w' ∧ Tr ρ h w (ρ.add h.length r) (h₀ ++ [o]) w' := by
  have hle := RMap.le_add (r := r) H.none
  have hmut : ∀ i, i < h.length → isMut (h₀ ++ [o]) i → isMut h i := by
    intro i hi hm
    unfold isMut at hm ⊢
    rw [List.getElem?_append_left (by omega)] at hm
    rcases hd i with e | e <;> rw [e] at hm
    · exact hm
    · rcases hm with ⟨_, _, hm⟩ | ⟨_, hm⟩ | ⟨_, _, _, hm⟩ <;> cases hm
  have hliv : ∀ i, i < h.length → isLive (h₀ ++ [o]) i → isLive h i := by
    intro i hi hm
    unfold isLive at hm ⊢
    rw [List.getElem?_append_left (by omega)] at hm
    rcases hd i with e | e <;> rw [e] at hm
    · exact hm
    · obtain ⟨o', h1, h2⟩ := hm; cases h1; exact absurd rfl h2
  have blk : ∀ i s, ρ i = some s → isLive (h₀ ++ [o]) i → s.blk < w.heap.size := fun i s hi hl => objBlk H hi (hliv i (H.lt hi) hl)
  constructor
  · constructor
    · intro i s hi
      unfold RMap.add at hi
      split at hi
      · rename_i e
        subst e
        cases hi
        refine ⟨o, ?_, ho⟩
        rw [← hk]
        simp
      · obtain ⟨o', ho', hr⟩ := H.obj i s hi
        have hlt := H.lt hi
        rw [List.getElem?_append_left (by omega)]
        rcases hd i with e | e
        · refine ⟨o', by rw [e]; exact ho', ?_⟩
          by_cases hdead : o' = .dead
          · subst hdead; trivial
          · exact hr.mono hle (nb.old (objBlk H hi ⟨o', ho', hdead⟩))
        · exact ⟨.dead, e, trivial⟩
    · intro i j s t hi hj hst hm hl
      unfold RMap.add at hi hj
      split at hi <;> split at hj
      · omega
      · rename_i e1 e2
        cases hi
        have := blk j t hj hl
        omega
      · rename_i e1 e2
        cases hj
        have := blk i s hi hm.live
        omega
      · exact H.inj i j s t hi hj hst (hmut i (H.lt hi) hm) (hliv j (H.lt hj) hl)
    · intro i s hi
      unfold RMap.add at hi
      split at hi
      · cases hi; exact he
      · exact H.esz i s hi
  · exact {
      ext := hle
      len := by simp; omega
      dom := fun i s hi => H.lt hi
      kinds := hmut
      fresh := by
        intro i s hi hn
        unfold RMap.add at hi
        split at hi
        · rename_i e; cases hi; exact ⟨by omega, .inl (by omega)⟩
        · rw [hn] at hi; cases hi
      wsize := by rw [nb.size]; omega
      wblk := fun k hk' _ => nb.old hk'
      os := nb.os
      tape := nb.tape
      output := nb.output }

/-- A world in which one block has turned. -/
structure SetBlock (w : World) (k : Nat) (b : Obj) (w' : World) : Prop where
  here : w'.heap[k]? = some b
  other : ∀ j, j ≠ k → w'.heap[j]? = w.heap[j]?
  size : w'.heap.size = w.heap.size
  os : w'.os = w.os
  tape : w'.tape = w.tape
  output : w'.output = w.output

theorem SetBlock.row {w : World} {g : Nat} {c : Array Value} {e : TypeId} {fr : Nat × Nat} (hg : w.heap[g]? = some (.cells c e fr)) (c' : Array Value) : SetBlock w g (.cells c' e fr) (w.setRow g c') where
  here := by simp [World.setRow, Array.getElem?_modify, hg]
  other := by intro j hj; simp [World.setRow, Array.getElem?_modify, Ne.symm hj]
  size := by simp [World.setRow]
  os := rfl
  tape := rfl
  output := rfl

/-- An owned object turns. -/
theorem HRel.set {P : Program} {ρ : RMap} {h : Heap} {w w' : World} {b : Obj} {i : Nat} {r : RI} {o : IObj} (H : HRel P ρ h w) (hi : ρ i = some r) (hm : isMut h i) (sb : SetBlock w r.blk b w')
    (ho : objRel ρ w' r o) : HRel P ρ (h.set i o) w' ∧ Tr ρ h w ρ (h.set i o) w' := by
  have hlt := H.lt hi
  have hmut : ∀ j, isMut (h.set i o) j → isMut h j := by
    intro j hj
    by_cases e : j = i
    · subst e; exact hm
    · unfold isMut at hj ⊢
      rw [List.getElem?_set_ne (Ne.symm e)] at hj
      exact hj
  have hliv : ∀ j, isLive (h.set i o) j → isLive h j := by
    intro j hj
    by_cases e : j = i
    · subst e; exact hm.live
    · unfold isLive at hj ⊢
      rw [List.getElem?_set_ne (Ne.symm e)] at hj
      exact hj
  constructor
  · constructor
    · intro j s hj
      by_cases e : j = i
      · subst e
        rw [hi] at hj
        cases hj
        exact ⟨o, by rw [List.getElem?_set_self hlt], ho⟩
      · obtain ⟨o', ho', hr⟩ := H.obj j s hj
        refine ⟨o', by rw [List.getElem?_set_ne (Ne.symm e)]; exact ho', ?_⟩
        by_cases hdead : o' = .dead
        · subst hdead; trivial
        · refine hr.mono (.refl _) (sb.other _ ?_)
          intro hb
          exact e (H.inj i j r s hi hj hb.symm hm ⟨o', ho', hdead⟩).symm
    · intro j k s t hj hk hst hm' hl
      exact H.inj j k s t hj hk hst (hmut j hm') (hliv k hl)
    · exact H.esz
  · exact {
      ext := .refl _
      len := by simp
      dom := fun j s hj => H.lt hj
      kinds := fun j _ hj => hmut j hj
      fresh := fun j s h1 h2 => by rw [h1] at h2; cases h2
      wsize := by rw [sb.size]; exact Nat.le_refl _
      wblk := fun k _ hno => sb.other k fun e => hno i r hi e.symm hm
      os := sb.os
      tape := sb.tape
      output := sb.output }

/-- An owned object turns and gets a new id: an append within the capacity. -/
theorem HRel.move {P : Program} {ρ : RMap} {h : Heap} {w w' : World} {b : Obj} {i : Nat} {r : RI} {o : IObj} (H : HRel P ρ h w) (hi : ρ i = some r) (hm : isMut h i) (sb : SetBlock w r.blk b w')
    (ho : objRel (ρ.add h.length r) w' r o) : HRel P (ρ.add h.length r) (h.set i .dead ++ [o]) w' ∧ Tr ρ h w (ρ.add h.length r) (h.set i .dead ++ [o]) w' := by
  have hlt := H.lt hi
  have hle := RMap.le_add (r := r) H.none
  have get : ∀ j, j < h.length → j ≠ i → (h.set i .dead ++ [o])[j]? = h[j]? := by
    intro j hj e
    rw [List.getElem?_append_left (by simpa using hj), List.getElem?_set_ne (Ne.symm e)]
  have getI : (h.set i .dead ++ [o])[i]? = some .dead := by
    rw [List.getElem?_append_left (by simpa using hlt), List.getElem?_set_self hlt]
  have hmut : ∀ j, j < h.length → isMut (h.set i .dead ++ [o]) j → isMut h j ∧ j ≠ i := by
    intro j hj hm'
    have hne : j ≠ i := by
      intro e
      subst e
      unfold isMut at hm'
      rw [getI] at hm'
      rcases hm' with ⟨_, _, h1⟩ | ⟨_, h1⟩ | ⟨_, _, _, h1⟩ <;> cases h1
    refine ⟨?_, hne⟩
    unfold isMut at hm' ⊢
    rw [get j hj hne] at hm'
    exact hm'
  have hliv : ∀ j, j < h.length → isLive (h.set i .dead ++ [o]) j → isLive h j ∧ j ≠ i := by
    intro j hj hm'
    have hne : j ≠ i := by
      intro e
      subst e
      obtain ⟨o', h1, h2⟩ := hm'
      rw [getI] at h1
      cases h1
      exact h2 rfl
    refine ⟨?_, hne⟩
    unfold isLive at hm' ⊢
    rw [get j hj hne] at hm'
    exact hm'
  constructor
  · constructor
    · intro j s hj
      unfold RMap.add at hj
      split at hj
      · rename_i e
        subst e
        cases hj
        exact ⟨o, by rw [List.getElem?_append_right (by simp)]; simp, ho⟩
      · by_cases e : j = i
        · subst e
          exact ⟨.dead, getI, trivial⟩
        · obtain ⟨o', ho', hr⟩ := H.obj j s hj
          refine ⟨o', by rw [get j (H.lt hj) e]; exact ho', ?_⟩
          by_cases hdead : o' = .dead
          · subst hdead; trivial
          · refine hr.mono hle (sb.other _ ?_)
            intro hb
            exact e (H.inj i j r s hi hj hb.symm hm ⟨o', ho', hdead⟩).symm
    · intro j k s t hj hk hst hm' hl
      unfold RMap.add at hj hk
      split at hj <;> split at hk
      · omega
      · cases hj
        obtain ⟨h1, h2⟩ := hliv k (H.lt hk) hl
        exact absurd (H.inj i k r t hi hk hst hm h1).symm h2
      · cases hk
        obtain ⟨h1, h2⟩ := hmut j (H.lt hj) hm'
        exact absurd (H.inj j i s r hj hi hst h1 hm.live) h2
      · exact H.inj j k s t hj hk hst (hmut j (H.lt hj) hm').1 (hliv k (H.lt hk) hl).1
    · intro j s hj
      unfold RMap.add at hj
      split at hj
      · cases hj; exact H.esz i r hi
      · exact H.esz j s hj
  · exact {
      ext := hle
      len := by simp
      dom := fun j s hj => H.lt hj
      kinds := fun j hj hm' => (hmut j hj hm').1
      fresh := by
        intro j s hj hn
        unfold RMap.add at hj
        split at hj
        · rename_i e; cases hj; exact ⟨by omega, .inr ⟨i, r, hi, rfl, hm⟩⟩
        · rw [hn] at hj; cases hj
      wsize := by rw [sb.size]; exact Nat.le_refl _
      wblk := fun k _ hno => sb.other k fun e => hno i r hi e.symm hm
      os := sb.os
      tape := sb.tape
      output := sb.output }

end Go.Sim
