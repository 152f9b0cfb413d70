/-
  A range over a function is sound; so is a round.
-/
import Derived.Test.YtjdlcokhlphmhaaSim18c
namespace Go.Sim

section
variable {P : Program} {w : World} {ρ : RMap} {h : Heap}

theorem HRel.alloc (H : HRel P ρ h w) (b : Obj) : HRel P ρ h (w.alloc b) ∧ Tr ρ h w ρ h (w.alloc b) := by
  have nb := NewBlock.alloc w b
  refine ⟨⟨?_, H.inj, H.esz⟩, ?_⟩
  · intro i r hi
    obtain ⟨o, ho, hr⟩ := H.obj i r hi
    refine ⟨o, ho, ?_⟩
    by_cases hd : o = .dead
    · subst hd; trivial
    · exact hr.mono (.refl _) (nb.old (objBlk H hi ⟨o, ho, hd⟩))
  · exact {
      ext := .refl _
      len := Nat.le_refl _
      dom := fun i r hi => H.lt hi
      kinds := fun i _ hm => hm
      fresh := fun i s h1 h2 => by rw [h1] at h2; cases h2
      wsize := by rw [nb.size]; omega
      wblk := fun k hk _ => nb.old hk
      os := nb.os
      tape := nb.tape
      output := nb.output }

theorem putObj_get {l k : Nat} {o : Obj} (hk : k ≠ l) : (w.putObj l o).heap[k]? = w.heap[k]? := World.putObj_heap_other hk

/-- A block that no live object names turns. -/
theorem HRel.put (H : HRel P ρ h w) {l : Nat} (hno : ∀ j s, ρ j = some s → s.blk = l → ¬ isLive h j) (o : Obj) : HRel P ρ h (w.putObj l o) := by
  refine ⟨?_, H.inj, H.esz⟩
  intro i r hi
  obtain ⟨o', ho, hr⟩ := H.obj i r hi
  refine ⟨o', ho, ?_⟩
  by_cases hd : o' = .dead
  · subst hd; trivial
  · refine hr.mono (.refl _) (putObj_get ?_)
    intro e
    exact hno i r hi e ⟨o', ho, hd⟩

/-- A live object whose block is a loop's record is that loop. -/
theorem HRel.isLoop (H : HRel P ρ h w) {l : Nat} {rec : Loop} (hl : w.heap[l]? = some (.loop rec)) {j : Nat} {s : RI} (hj : ρ j = some s) (hs : s.blk = l) (hv : isLive h j) : ∃ c ls vs, h[j]? = some (.loop c ls vs) := by
  obtain ⟨o, ho, hne⟩ := hv
  obtain ⟨o', ho', hr⟩ := H.obj j s hj
  rw [ho] at ho'
  cases ho'
  subst hs
  cases o with
  | ro e xs => obtain ⟨_, c, _, fr, h2, _⟩ := hr; rw [hl] at h2; cases h2
  | arr e xs => obtain ⟨_, _, c, h2, _⟩ := hr; rw [hl] at h2; cases h2
  | smap es => obtain ⟨ents, clock, h1, _⟩ := hr; rw [hl] at h1; cases h1
  | loop c ls vs => exact ⟨c, ls, vs, ho⟩
  | dead => exact absurd rfl hne

/-- What turned last lay beyond what there was: the whole step still holds. -/
theorem Tr.late {ρ' : RMap} {h' : Heap} {w' : World} (T : Tr ρ h w ρ' h' w') {l : Nat} (hl : w.heap.size ≤ l) (o : Obj) (i : Nat) : Tr ρ h w ρ' (h'.set i .dead) (w'.putObj l o) where
  ext := T.ext
  len := by simpa using T.len
  dom := T.dom
  kinds := by
    intro j hj hm
    refine T.kinds j hj ?_
    by_cases e : j = i
    · subst e
      have hlt : j < h'.length := Nat.lt_of_lt_of_le hj T.len
      unfold isMut at hm
      rw [List.getElem?_set_self hlt] at hm
      rcases hm with ⟨_, _, h1⟩ | ⟨_, h1⟩ | ⟨_, _, _, h1⟩ <;> cases h1
    · unfold isMut at hm ⊢
      rw [List.getElem?_set_ne (Ne.symm e)] at hm
      exact hm
  fresh := T.fresh
  wsize := by rw [World.putObj_size]; exact T.wsize
  wblk := fun k hk hno => by rw [putObj_get (by omega)]; exact T.wblk k hk hno
  os := T.os
  tape := T.tape
  output := T.output

theorem HRel.kill (H : HRel P ρ h w) (i : Nat) : HRel P ρ (h.set i .dead) w := by
  have hm : ∀ j, isMut (h.set i .dead) j → isMut h j := by
    intro j hj
    by_cases e : j = i
    · subst e
      unfold isMut at hj
      by_cases hlt : j < h.length
      · rw [List.getElem?_set_self hlt] at hj
        rcases hj with ⟨_, _, h1⟩ | ⟨_, h1⟩ | ⟨_, _, _, h1⟩ <;> cases h1
      · rw [List.getElem?_eq_none (by simpa using Nat.le_of_not_lt hlt)] at hj
        rcases hj with ⟨_, _, h1⟩ | ⟨_, h1⟩ | ⟨_, _, _, h1⟩ <;> cases h1
    · unfold isMut at hj ⊢
      rw [List.getElem?_set_ne (Ne.symm e)] at hj
      exact hj
  have hl : ∀ j, isLive (h.set i .dead) j → isLive h j := by
    intro j hj
    by_cases e : j = i
    · subst e
      obtain ⟨o, ho, hne⟩ := hj
      by_cases hlt : j < h.length
      · rw [List.getElem?_set_self hlt] at ho
        cases ho
        exact absurd rfl hne
      · rw [List.getElem?_eq_none (by simpa using Nat.le_of_not_lt hlt)] at ho
        cases ho
    · unfold isLive at hj ⊢
      rw [List.getElem?_set_ne (Ne.symm e)] at hj
      exact hj
  refine ⟨?_, fun a b r s ha hb hrs h1 h2 => H.inj a b r s ha hb hrs (hm a h1) (hl b h2), H.esz⟩
  intro j r hj
  by_cases e : j = i
  · subst e
    exact ⟨.dead, by rw [List.getElem?_set_self (H.lt hj)], trivial⟩
  · obtain ⟨o, ho, hr⟩ := H.obj j r hj
    exact ⟨o, by rw [List.getElem?_set_ne (Ne.symm e)]; exact ho, hr⟩

theorem run_ofValue {g : FuncId} {first cap : Array Value} (hco : callOk P g = true) (a : Act) (gx : Operand) (hy : a.eval gx = .func (.func g) first cap) (l : Nat) (w : World) :
    ∃ d, (resolve a.eval (rangeCall gx l) 0).run P w = .ok d w ∧ (invoke d.target d.args).run P w = .ok (.enter g (first ++ #[.func (.yield l) #[] #[]] ++ cap)) w := by
  refine ⟨_, by simp [resolve, hy, Deferred.ofValue]; rfl, ?_⟩
  simp [invoke, callFunc_ok hco, Act.eval]

theorem range_sound {N : Nat} {g : Operand} {ps : Array Tmp} {asg body : Code} {ls : List Nat} {K : Heap → Prop} {f : Nat → Value} (hok : opdOk g = true)
    (hi : rangeK P (ev f g) ls (ls.map f) ⟨N, ps, asg, body⟩ h K) : ∃ h', Run P N true (.rangeFunc g ps asg body) f h .normal f h' ∧ K h' := by
  unfold rangeK at hi
  split at hi
  · rename_i F first cap hx
    obtain ⟨hco, v, h', hcall, ⟨c', ls', vs', hget⟩, hk⟩ := hi
    refine ⟨_, ?_, hk⟩
    intro S hS B ρ a w R
    obtain rfl := hS rfl
    refine wpIn_rangeFunc fun fn _ => ?_
    obtain ⟨H0, T0⟩ := R.heap.alloc (.deferred (some []))
    have hsz : (w.alloc (.deferred (some []))).heap.size = w.heap.size + 1 := World.size_alloc _ _
    have nb := NewBlock.alloc (w.alloc (.deferred (some []))) (.loop { state := .ready, pending := none, fn, tmps := a.tmps, params := ps, assign := asg, body, defers := w.heap.size })
    obtain ⟨H1, T1⟩ := H0.new (h₀ := h) (o := .loop ⟨N, ps, asg, body⟩ ls (ls.map f)) (r := ⟨w.heap.size + 1, 0, 0, P.cellsOf 0, 0⟩) nb hsz.symm rfl rfl (fun _ => .inl rfl)
      ⟨_, by rw [← hsz]; exact nb.new, rfl, rfl, rfl, rfl, rfl, R.size, fun t => by
        rcases ofl_weaker f ls t with e | e
        · rw [e]; exact (R.tmp t).mono (RMap.le_add R.heap.none)
        · rw [e]; exact .any _⟩
    have hr := R.ev hok
    rw [hx] at hr
    generalize hy : a.eval g = y at hr
    cases hr with
    | func _ s1 s2 r1 r2 =>
      rename_i first' cap'
      obtain ⟨d, hres, hinv⟩ := run_ofValue (w := ((w.alloc (.deferred (some []))).alloc (.loop { state := .ready, pending := none, fn, tmps := a.tmps, params := ps, assign := asg, body, defers := w.heap.size }))) hco a g hy (w.heap.size + 1)
      refine ⟨_, _, _, d, _, F, _, _, run_enterLoop_outer fn a.tmps ps asg body, hres, fun _ _ => trivial, hinv, fun h => (by cases h), ?_⟩
      have hle := RMap.le_add (r := ⟨w.heap.size + 1, 0, 0, P.cellsOf 0, 0⟩) R.heap.none
      have hargs : VsRel (ρ.add h.length ⟨w.heap.size + 1, 0, 0, P.cellsOf 0, 0⟩) (first.toList ++ [.func (.yield h.length) #[] #[]] ++ cap.toList) (first' ++ #[Value.func (.yield (w.heap.size + 1)) #[] #[]] ++ cap').toList := by
        have q1 := (VsRel.toArr s1 r1).mono hle
        have q3 := (VsRel.toArr s2 r2).mono hle
        have q2 : VsRel (ρ.add h.length ⟨w.heap.size + 1, 0, 0, P.cellsOf 0, 0⟩) [.func (.yield h.length) #[] #[]] [.func (.yield (w.heap.size + 1)) #[] #[]] :=
          .cons (VRel.yield (i := h.length) (r := ⟨w.heap.size + 1, 0, 0, P.cellsOf 0, 0⟩) (by simp [RMap.add])) .nil
        simpa using (q1.append q2).append q3
      refine (calls_fr (hcall _ _ _ hargs H1) none _).mono ?_
      rintro e w3 ⟨v', ρ', rfl, hv, H3, T3⟩
      have hρi : ρ' h.length = some ⟨w.heap.size + 1, 0, 0, P.cellsOf 0, 0⟩ := T3.ext _ _ (by simp [RMap.add])
      obtain ⟨o, ho, hor⟩ := H3.obj _ _ hρi
      rw [hget] at ho
      cases ho
      obtain ⟨rec, g1, g2, g3, g4, g5, g6, g7, g8⟩ := hor
      have hrun := run_endLoop (P := P) g1 (by rw [g2]; decide)
      refine ⟨_, _, hrun, ?_⟩
      split
      rotate_left
      · rename_i c hc; rw [g3] at hc; cases hc
      have TT := (T0.trans (T1.trans T3))
      have Hk := H3.kill h.length
      have hput : HRel P ρ' (h'.set h.length .dead) (w3.putObj (w.heap.size + 1) (.loop { rec with state := .exhausted })) := by
        refine Hk.put ?_ _
        intro j s hj hs hlv
        obtain ⟨c, _, _, hc⟩ := Hk.isLoop g1 hj hs hlv
        have hne : j ≠ h.length := by
          rintro rfl
          rw [List.getElem?_set_self (H3.lt hρi)] at hc
          cases hc
        rw [List.getElem?_set_ne (Ne.symm hne)] at hc
        exact hne (H3.inj _ _ _ _ hj hρi hs (.inr (.inr ⟨_, _, _, hc⟩)) ⟨_, hget, by simp⟩)
      have TL := TT.late (l := w.heap.size + 1) (by omega) (.loop { rec with state := .exhausted }) h.length
      refine ⟨rfl, ρ', ⟨R.size, ?_, fun t => (R.tmp t).mono TL.ext, hput⟩, TL⟩
      have hD : (w3.putObj (w.heap.size + 1) (.loop { rec with state := .exhausted })).heap[w.heap.size]? = some (.deferred (some [])) := by
        rw [putObj_get (by omega)]
        have e1 : (w.alloc (.deferred (some []))).heap[w.heap.size]? = some (.deferred (some [])) := World.alloc_heap_new _ _
        have e2 := nb.old (k := w.heap.size) (by omega)
        rw [T3.wblk _ (by rw [nb.size]; omega) ?_, e2, e1]
        intro j s hj hs hm
        exact H1.notDef (e2.trans e1) hj hs hm.live
      refine ⟨⟨w.heap.size, rfl, marks.base R.defers, hD, ?_⟩, marks.tr R.heap TL R.defers⟩
      intro d' hd' he
      obtain ⟨D, e1, e2⟩ := marks.lt R.defers d' hd'
      rw [e1] at he
      have := mark_inj he
      omega
  · exact hi.elim

end
end Go.Sim
