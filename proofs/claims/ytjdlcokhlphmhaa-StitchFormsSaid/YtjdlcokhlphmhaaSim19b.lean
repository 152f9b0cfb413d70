/-
  A round of a range over a function is sound.
-/
import Derived.Test.YtjdlcokhlphmhaaSim19
namespace Go.Sim

section
variable {P : Program} {ρ : RMap} {h : Heap} {w : World}

/-- yield's arguments go into the loop's frame. -/
def pfr : List Tmp → List Value → (Nat → Value) → Nat → Value
  | p :: ps, v :: vs, f => pfr ps vs (upd f p v)
  | _, _, f => f

theorem pfr_rel {N : Nat} : ∀ {ps : List Tmp} {args args' : List Value} {f : Nat → Value} {tmps : Array Value}, VsRel ρ args args' → (∀ p ∈ ps, p < N) → tmps.size = N → (∀ t, VRel ρ (f t) (tmps.getD t Go.undef)) →
    ((ps.zip args').foldl (fun (t : Array Value) (p, v) => t.setIfInBounds p v) tmps).size = N ∧
      ∀ t, VRel ρ (pfr ps args f t) (((ps.zip args').foldl (fun (t : Array Value) (p, v) => t.setIfInBounds p v) tmps).getD t Go.undef)
  | [], args, args', f, tmps, _, _, hs, hf => ⟨hs, hf⟩
  | p :: ps, _, _, f, tmps, .nil, _, hs, hf => ⟨hs, hf⟩
  | p :: ps, _, _, f, tmps, .cons (x := x) (y := y) ha hr, hp, hs, hf => by
    simp only [List.zip_cons_cons, List.foldl_cons, pfr]
    refine pfr_rel hr (fun q hq => hp q (by simp [hq])) (by simpa using hs) ?_
    intro t
    simp only [upd_eq]
    by_cases ht : t = p
    · subst ht
      have : t < tmps.size := by rw [hs]; exact hp t (by simp)
      simp [Array.getD, this]
      exact ha
    · rw [if_neg ht]
      have e : (tmps.setIfInBounds p y).getD t Go.undef = tmps.getD t Go.undef := by
        simp only [Array.getD_eq_getD_getElem?, Array.getElem?_setIfInBounds]
        rw [if_neg (by omega)]
      rw [e]
      exact hf t

theorem marks.put {B : Nat} {l : Nat} {o : Obj} : ∀ {ds : List Deferred}, (∀ d ∈ ds, d ≠ mark l) → marks B ds w → marks B ds (w.putObj l o)
  | [], _, h => by simpa [marks] using h
  | d :: ds, hne, ⟨⟨D, h1, h2, h3, h4⟩, h5⟩ => by
    refine ⟨⟨D, h1, h2, ?_, h4⟩, marks.put (fun d hd => hne d (by simp [hd])) h5⟩
    rw [putObj_get]
    · exact h3
    · rintro rfl
      exact hne d (by simp) h1

theorem marks.ne {B l : Nat} {rec : Loop} (hl : w.heap[l]? = some (.loop rec)) : ∀ {ds : List Deferred}, marks B ds w → ∀ d ∈ ds, d ≠ mark l
  | [], _, d, hd => by simp at hd
  | d :: ds, ⟨⟨D, h1, h2, h3, h4⟩, h5⟩, d', hd => by
    rcases List.mem_cons.1 hd with rfl | hd
    · rintro e
      rw [h1] at e
      obtain rfl := mark_inj e
      rw [hl] at h3
      cases h3
    · exact marks.ne hl h5 d' hd

theorem noLive_step {ρ' : RMap} {h' : Heap} {w' : World} (H' : HRel P ρ' h' w') (T : Tr ρ h w ρ' h' w') {l : Nat} {rec : Loop} (hlt : l < w.heap.size) (hl : w'.heap[l]? = some (.loop rec))
    (no : ∀ j s, ρ j = some s → s.blk = l → ¬ isMut h j) : ∀ j s, ρ' j = some s → s.blk = l → ¬ isLive h' j := by
  intro j s hj hs hv
  obtain ⟨c, ls, vs, hc⟩ := H'.isLoop hl hj hs hv
  cases hr : ρ j with
  | some s' =>
    have := T.ext j s' hr
    rw [hj] at this
    cases this
    exact no j s hr hs (T.kinds j (T.dom j s hr) (.inr (.inr ⟨_, _, _, hc⟩)))
  | none =>
    obtain ⟨_, q⟩ := T.fresh j s hj hr
    rcases q with q | ⟨j', s', q1, q2, q3⟩
    · omega
    · exact no j' s' q1 (q2.trans hs) q3

theorem HRel.revive (H : HRel P ρ h w) {i : Nat} {r : RI} {o : IObj} {x : Obj} (hi : ρ i = some r) (no : ∀ j s, ρ j = some s → s.blk = r.blk → ¬ isLive h j) (ho : objRel ρ (w.putObj r.blk x) r o) :
    HRel P ρ (h.set i o) (w.putObj r.blk x) := by
  have hlt := H.lt hi
  have ml : ∀ j, j ≠ i → isMut (h.set i o) j → isMut h j := by
    intro j e hm
    unfold isMut at hm ⊢
    rw [List.getElem?_set_ne (Ne.symm e)] at hm
    exact hm
  have ll : ∀ j, j ≠ i → isLive (h.set i o) j → isLive h j := by
    intro j e hm
    unfold isLive at hm ⊢
    rw [List.getElem?_set_ne (Ne.symm e)] at hm
    exact hm
  refine ⟨?_, ?_, H.esz⟩
  · intro j s hj
    by_cases e : j = i
    · subst e
      rw [hi] at hj
      cases hj
      exact ⟨o, by rw [List.getElem?_set_self hlt], ho⟩
    · obtain ⟨o', ho', hr⟩ := H.obj j s hj
      refine ⟨o', by rw [List.getElem?_set_ne (Ne.symm e)]; exact ho', ?_⟩
      by_cases hd : o' = .dead
      · subst hd; trivial
      · refine hr.mono (.refl _) (putObj_get ?_)
        intro e'
        exact no j s hj e' ⟨o', ho', hd⟩
  · intro a b s t ha hb hst hm hl
    by_cases ea : a = i <;> by_cases eb : b = i
    · omega
    · subst ea
      rw [hi] at ha; cases ha
      exact absurd (ll b eb hl) (no b t hb hst.symm)
    · subst eb
      rw [hi] at hb; cases hb
      exact absurd (ml a ea hm).live (no a s ha hst)
    · exact H.inj a b s t ha hb hst (ml a ea hm) (ll b eb hl)

theorem Tr.revive {ρ' : RMap} {h' : Heap} {w' : World} {i : Nat} (hm : isMut h i) (T : Tr ρ (h.set i .dead) w ρ' h' w') (o : IObj) : Tr ρ h w ρ' (h'.set i o) w' := by
  have ml : ∀ j, isMut (h.set i .dead) j → isMut h j := by
    intro j hj
    by_cases e : j = i
    · subst e; exact hm
    · unfold isMut at hj ⊢
      rw [List.getElem?_set_ne (Ne.symm e)] at hj
      exact hj
  exact {
    ext := T.ext
    len := by simpa using T.len
    dom := fun j s hj => by simpa using T.dom j s hj
    kinds := by
      intro j hj hj'
      by_cases e : j = i
      · subst e; exact hm
      · refine ml j (T.kinds j (by simpa using hj) ?_)
        unfold isMut at hj' ⊢
        rw [List.getElem?_set_ne (Ne.symm e)] at hj'
        exact hj'
    fresh := by
      intro j s h1 h2
      obtain ⟨q1, q2⟩ := T.fresh j s h1 h2
      refine ⟨by simpa using q1, q2.imp (fun h => h) ?_⟩
      rintro ⟨j', s', a, b, c⟩
      exact ⟨j', s', a, b, ml j' c⟩
    wsize := T.wsize
    wblk := fun k hk hno => T.wblk k hk fun j s hj hs hmm => hno j s hj hs (ml j hmm)
    os := T.os
    tape := T.tape
    output := T.output }

theorem Tr.putMut {i : Nat} {r : RI} (hd : ∀ j s, ρ j = some s → j < h.length) (hi : ρ i = some r) {h₁ : Heap} (hl : h₁.length = h.length) (hm : isMut h₁ i) (x : Obj) : Tr ρ h₁ w ρ h₁ (w.putObj r.blk x) where
  ext := .refl _
  len := Nat.le_refl _
  dom := fun j s hj => by rw [hl]; exact hd j s hj
  kinds := fun _ _ h => h
  fresh := fun j s h1 h2 => by rw [h1] at h2; cases h2
  wsize := by rw [World.putObj_size]; exact Nat.le_refl _
  wblk := fun k hk hno => putObj_get fun e => hno i r hi e.symm hm
  os := rfl
  tape := rfl
  output := rfl

theorem set_id {h : Heap} {i : Nat} {o : IObj} (hi : h[i]? = some o) : h.set i o = h := by
  apply List.ext_getElem?
  intro j
  by_cases e : j = i
  · subst e
    rw [List.getElem?_set_self (List.getElem?_eq_some_iff.1 hi).1, hi]
  · rw [List.getElem?_set_ne (Ne.symm e)]

theorem yield_intro {i : Nat} {c : LoopC} {ls : List Nat} {vs args : List Value} {ia ib : ICode} {hs1 hs2 hs1' hs2' : Hints} {K : Value → Heap → Prop} (hi : h[i]? = some (.loop c ls vs)) (hn : args.length = c.ps.size)
    (hps : c.ps.all (· < c.N) = true) (ha : compCode P c.N c.asg hs1 = some (ia, hs1')) (hb : compCode P c.N c.body hs2 = some (ib, hs2')) (na : noRange c.asg = true) (nb : noRange c.body = true)
    (hw : iwp P ia (fun e f1 h1 => e = .normal ∧ h1[i]? = some .dead ∧ iwp P ib (fun e _ h2 => e = .normal ∧ h2[i]? = some .dead ∧ K (.bool true) (h2.set i (.loop c ls vs))) f1 h1) (pfr c.ps.toList args (ofl ls vs)) (h.set i .dead)) :
    iyield P i args h K := by
  obtain ⟨e1, f1, h1, r1, rfl, d1, hw2⟩ := iwp_sound (out := false) ha (.inr na) hw
  obtain ⟨e2, f2, h2, r2, rfl, d2, hk⟩ := iwp_sound (out := false) hb (.inr nb) hw2
  refine ⟨.bool true, h2.set i (.loop c ls vs), ?_, hk⟩
  intro ρ r args' w hri hargs H
  have hmi : isMut h i := .inr (.inr ⟨_, _, _, hi⟩)
  obtain ⟨o, ho, hor⟩ := H.obj i r hri
  rw [hi] at ho
  cases ho
  obtain ⟨rec, g1, g2, g3, g4, g5, g6, g7, g8⟩ := hor
  have hlt := (Array.getElem?_eq_some_iff.1 g1).1
  have hsz : args'.size = rec.params.size := by
    have := hargs.length
    rw [g6, ← hn, this]
    simp
  refine ⟨rec.fn, _, rec.assign, rec.body, run_yield g1 hsz, ?_⟩
  rw [g4, g5]
  have hfold : (rec.params.zip args').foldl (fun (t : Array Value) (p, v) => t.setIfInBounds p v) rec.tmps = (c.ps.toList.zip args'.toList).foldl (fun (t : Array Value) (p, v) => t.setIfInBounds p v) rec.tmps := by
    rw [g6, ← Array.toList_zip, Array.foldl_toList]
  obtain ⟨p1, p2⟩ := pfr_rel (N := c.N) (ps := c.ps.toList) (f := ofl ls vs) (tmps := rec.tmps) hargs (by
    intro p hp
    rw [Array.all_eq_true'] at hps
    exact of_decide_eq_true (hps p (by simpa using hp))) g7 g8
  have R0 : Rel P c.N w.heap.size ρ (pfr c.ps.toList args (ofl ls vs)) (h.set i .dead) { tmps := (rec.params.zip args').foldl (fun (t : Array Value) (p, v) => t.setIfInBounds p v) rec.tmps, defers := [] } w :=
    ⟨by rw [hfold]; exact p1, Nat.le_refl _, fun t => by rw [hfold]; exact p2 t, H.kill i⟩
  refine roundIn_of_wpIn (F := Fence.wide) trivial ?_
  refine wpIn_mono (r1 (some r.blk) (fun h => by cases h) _ ρ _ w R0) ?_
  rintro e a1 w1 ⟨rfl, ρ1, R1, T1⟩
  have u1 : ∀ j s, ρ j = some s → s.blk = r.blk → ¬ isMut (h.set i .dead) j := by
    intro j s hj hs hm
    by_cases e : j = i
    · subst e
      unfold isMut at hm
      rw [List.getElem?_set_self (H.lt hri)] at hm
      rcases hm with ⟨_, _, h1⟩ | ⟨_, h1⟩ | ⟨_, _, _, h1⟩ <;> cases h1
    · refine e (H.inj j i s r hj hri hs ?_ hmi.live)
      unfold isMut at hm ⊢
      rw [List.getElem?_set_ne (Ne.symm e)] at hm
      exact hm
  have l1 : w1.heap[r.blk]? = some (.loop rec) := (T1.wblk _ hlt u1).trans g1
  have hlt1 := (Array.getElem?_eq_some_iff.1 l1).1
  refine ⟨_, run_beginRound l1 g2, ?_⟩
  have no1 := noLive_step R1.heap T1 hlt l1 u1
  have l2 : (w1.putObj r.blk (.loop { rec with state := .busy })).heap[r.blk]? = some (.loop { rec with state := .busy }) := World.putObj_heap_same hlt1
  have R2 : Rel P c.N w.heap.size ρ1 f1 h1 a1 (w1.putObj r.blk (.loop { rec with state := .busy })) :=
    ⟨R1.size, marks.put (marks.ne l1 R1.defers) R1.defers, R1.tmp, R1.heap.put no1 _⟩
  refine wpIn_mono (r2 (some r.blk) (fun h => by cases h) _ ρ1 a1 _ R2) ?_
  rintro e a3 w3 ⟨rfl, ρ3, R3, T3⟩
  have l3 : w3.heap[r.blk]? = some (.loop { rec with state := .busy }) := (T3.wblk _ (by simpa using hlt1) fun j s hj hs hm => no1 j s hj hs hm.live).trans l2
  have no3 := noLive_step R3.heap T3 (by simpa using hlt1) l3 fun j s hj hs hm => no1 j s hj hs hm.live
  have hrec : ({ ({ rec with state := .busy } : Loop) with state := if (none : Option Code).isNone then .ready else .done, pending := none } : Loop) = rec := by
    cases rec
    simp only at g2 g3
    subst g2
    subst g3
    rfl
  have he := run_endRound (P := P) none l3
  rw [hrec] at he
  have hρ1 : ρ1 i = some r := T1.ext _ _ hri
  have hρ3 : ρ3 i = some r := T3.ext _ _ hρ1
  have hlt3 := (Array.getElem?_eq_some_iff.1 l3).1
  refine ⟨_, _, he, .bool true, ρ3, rfl, .bool _, ?_, ?_⟩
  · refine R3.heap.revive hρ3 no3 ⟨rec, World.putObj_heap_same hlt3, g2, g3, g4, g5, g6, g7, fun t => (g8 t).mono (T1.ext.trans T3.ext)⟩
  · have m1 : isMut (h1.set i (.loop c ls vs)) i := .inr (.inr ⟨c, ls, vs, List.getElem?_set_self (R1.heap.lt hρ1)⟩)
    have m3 : isMut (h2.set i (.loop c ls vs)) i := .inr (.inr ⟨c, ls, vs, List.getElem?_set_self (R3.heap.lt hρ3)⟩)
    have A := T1.revive hmi (.loop c ls vs)
    have B := Tr.putMut (w := w1) (fun j s hj => R1.heap.lt hj) hρ1 (h₁ := h1.set i (.loop c ls vs)) (by simp) m1 (.loop { rec with state := .busy })
    have e1 : (h1.set i (.loop c ls vs)).set i .dead = h1 := by rw [List.set_set, set_id d1]
    have C : Tr ρ1 (h1.set i (.loop c ls vs)) _ ρ3 (h2.set i (.loop c ls vs)) w3 := Tr.revive m1 (by rw [e1]; exact T3) _
    have D := Tr.putMut (w := w3) (fun j s hj => R3.heap.lt hj) hρ3 (h₁ := h2.set i (.loop c ls vs)) (by simp) m3 (.loop rec)
    exact ((A.trans B).trans C).trans D

end
end Go.Sim
