/-
  Operations that look at no memory: all of them.
-/
import Derived.Test.YtjdlcokhlphmhaaSim4
namespace Go.Sim

theorem setAt_cons (l : List Value) (o : Nat) (v : Value) (vs : List Value) (h : o < l.length) : setAt (l.set o v) (o + 1) vs = setAt l o (v :: vs) := by
  have e : l.set o v = l.take o ++ v :: l.drop (o + 1) := by rw [List.set_eq_take_append_cons_drop, if_pos h]
  have hl : (l.take o).length = o := by simp; omega
  unfold setAt
  have e1 : (l.set o v).take (o + 1) = l.take o ++ [v] := by
    rw [e, List.take_append, hl, List.take_of_length_le (by omega)]
    simp
  have e2 : (l.set o v).drop (o + 1 + vs.length) = l.drop (o + (v :: vs).length) := by
    rw [List.drop_set, if_pos (by omega)]
    congr 1
    simp
    omega
  rw [e1, e2]
  simp

theorem setFold_eq (vs : List Value) : ∀ (off i : Nat) (cs : Array Value), off + i + vs.length ≤ cs.size →
    ((vs.zipIdx i).foldl (fun cs (c, j) => cs.setIfInBounds (off + j) c) cs).toList = setAt cs.toList (off + i) vs := by
  induction vs with
  | nil => intro off i cs h; simp [setAt]
  | cons v vs ih =>
    intro off i cs h
    simp only [List.zipIdx_cons, List.foldl_cons]
    rw [ih off (i + 1) _ (by simp at h ⊢; omega)]
    rw [Array.toList_setIfInBounds, show off + (i + 1) = off + i + 1 by omega]
    exact setAt_cons _ _ _ _ (by simp at h ⊢; omega)

theorem setAt_rel {ρ : RMap} {xs ys : List Value} (h : VsRel ρ xs ys) {o : Nat} {vs vs' : List Value} (hv : VsRel ρ vs vs') : VsRel ρ (setAt xs o vs) (setAt ys o vs') := by
  unfold setAt
  rw [← hv.length]
  exact ((h.take o).append hv).append (h.drop _)

theorem setAt_mem {xs : List Value} {o : Nat} {vs : List Value} {p : Value → Prop} (h : ∀ x ∈ xs, p x) (hv : ∀ x ∈ vs, p x) : ∀ x ∈ setAt xs o vs, p x := by
  intro x hx
  unfold setAt at hx
  simp only [List.mem_append] at hx
  rcases hx with (hx | hx) | hx
  · exact h x (List.mem_of_mem_take hx)
  · exact hv x hx
  · exact h x (List.mem_of_mem_drop hx)

/-- The parts of a literal, in the ideal machine and in the model. -/
inductive PartsRel (ρ : RMap) (place : Nat → Option (Nat × Nat)) : List (Nat × Nat × Value) → List (Nat × Value) → Prop
  | nil : PartsRel ρ place [] []
  | cons {o s i : Nat} {v v' : Value} {ps : List (Nat × Nat × Value)} {qs : List (Nat × Value)} : place i = some (o, s) → VRel ρ v v' → PartsRel ρ place ps qs → PartsRel ρ place ((o, s, v) :: ps) ((i, v') :: qs)

theorem fill_rel {ρ : RMap} {place : Nat → Option (Nat × Nat)} {ps : List (Nat × Nat × Value)} {qs : List (Nat × Value)} (hp : PartsRel ρ place ps qs) :
    ∀ {xs cs : List Value} {ys : Array Value}, fillL xs ps = some cs → VsRel ρ xs ys.toList → (∀ x ∈ xs, isCell x = true) →
      ∃ cs', Instr.fill place ys qs = some cs' ∧ VsRel ρ cs cs'.toList ∧ (∀ x ∈ cs, isCell x = true) ∧ cs.length = xs.length := by
  induction hp with
  | nil =>
    intro xs cs ys h hs h1
    simp [fillL] at h
    subst h
    exact ⟨ys, by simp [Instr.fill], hs, h1, rfl⟩
  | cons hpl hv _ ih =>
    rename_i o s i v v' ps qs _
    intro xs cs ys h hs h1
    simp only [fillL] at h
    split at h
    · rename_i hc
      obtain ⟨ht, hl, ho⟩ := hc
      have hvc := hv.cells ht
      have hl' : v'.cells.size = s := by rw [← hl, hvc.length]; simp [vcells]
      have hsz : o + v'.cells.size ≤ ys.size := by have := hs.length; simp at this; omega
      have hfold := setFold_eq (vcells v') o 0 ys (by simp [vcells]; omega)
      simp only [Nat.add_zero] at hfold
      have harr : v'.cells.zipIdx.foldl (fun cs x => cs.setIfInBounds (o + x.2) x.1) ys = (setAt ys.toList o (vcells v')).toArray := by
        apply Array.ext'
        rw [← hfold, ← Array.foldl_toList]
        simp [vcells, Array.toList_zipIdx]
      obtain ⟨cs', hf, hr, h2, hlen⟩ := ih (ys := (setAt ys.toList o (vcells v')).toArray) h (by simpa using setAt_rel hs hvc) (setAt_mem h1 (hv.cellsOne ht))
      refine ⟨cs', ?_, hr, h2, ?_⟩
      · unfold Instr.fill
        simp only [hpl]
        rw [if_neg (by simp [hl']; omega)]
        rw [← hf, ← harr]
      · rw [hlen]
        simp [setAt]
        omega
    · cases h

theorem zeroOf_some {P : Program} {t : TypeId} {zs : List Value} (h : zeroOf P t = some zs) :
    ∃ i z, P.info? t = some i ∧ i.zero = some z ∧ zs = vcells z ∧ noTuple z = true ∧ (∀ x ∈ zs, cvOk x = true ∧ isCell x = true) ∧ zs.length = i.size := by
  unfold zeroOf at h
  split at h
  · rename_i i hi
    split at h
    · rename_i z hz
      split at h
      · rename_i hc
        simp at h
        subst h
        simp only [Bool.and_eq_true, List.all_eq_true, cellOk, beq_iff_eq] at hc
        exact ⟨i, z, hi, hz, rfl, hc.1.1, fun x hx => hc.1.2 x hx, hc.2⟩
      · cases h
    · cases h
  · cases h

theorem VsRel.closed {ρ : RMap} : ∀ {zs : List Value}, (∀ x ∈ zs, cvOk x = true) → VsRel ρ zs zs
  | [], _ => .nil
  | x :: zs, h => .cons (cvOk.rel (h x (by simp))) (VsRel.closed fun y hy => h y (by simp [hy]))

section
variable {P : Program} (w : World)

theorem run_zeroValue' {t : TypeId} {i : TypeInfo} {z : Value} (hi : P.info? t = some i) (hz : i.zero = some z) : (zeroValue t).run P w = .ok z w := by
  simp [zeroValue, typeInfo, hi, hz]

theorem run_mapM_places : ∀ (fs : List Field), (∀ f ∈ fs, infoOk P f.type = true) →
    (fs.mapM (m := Sem) fun f => do pure (f.offset, ← sizeOf f.type)).run P w = .ok (fs.map fun f => (f.offset, P.cellsOf f.type)) w
  | [], _ => rfl
  | f :: fs, h => by
    have ih := run_mapM_places fs (fun g hg => h g (by simp [hg]))
    simp only [List.mapM_cons, Sem.run_bind, run_sizeOf' w (h f (by simp)), Result.andThen_ok, Sem.run_pure, ih, List.map_cons]

end
end Go.Sim
