/-
  The model does what the ideal operations on memory say: those that read.
-/
import Derived.Test.YtjdlcokhlphmhaaSim8
namespace Go.Sim

section
variable {P : Program} {w : World} {ρ : RMap} {h : Heap}

/-- The cells of a live row, in the model. -/
theorem HRel.cells (H : HRel P ρ h w) {i : Nat} {r : RI} {xs : List Value} (hi : ρ i = some r) (hx : objCells h i = some xs) :
    ∃ c t fr, w.heap[r.blk]? = some (.cells c t fr) ∧ CellsRel ρ c r.sh xs := by
  obtain ⟨o, ho, hr⟩ := H.obj i r hi
  unfold objCells at hx
  rw [ho] at hx
  cases o with
  | ro e ys =>
    simp at hx; subst hx
    obtain ⟨h1, c, t, fr, h2, h3, h4⟩ := hr
    exact ⟨c, t, fr, h2, h4⟩
  | arr e ys =>
    simp at hx; subst hx
    obtain ⟨h1, h0, c, h2, h3, h4⟩ := hr
    subst h1
    exact ⟨c, _, (0, 0), h2, by rw [h0]; exact h4⟩
  | smap es => simp at hx
  | loop c ls vs => simp at hx
  | dead => simp at hx

/-- A window of a live row: the model's cells there. -/
theorem CellsRel.window {c : Array Value} {sh o n : Nat} {xs : List Value} (hc : CellsRel ρ c sh xs) (hl : o + n ≤ xs.length) :
    ∃ ys : List Value, VsRel ρ ((xs.drop o).take n) ys ∧ ys.length = n ∧ (∀ x ∈ (xs.drop o).take n, isCell x = true) ∧ ∀ j v, ys[j]? = some v → c[sh + o + j]? = some v := by
  have key : ∀ j, j < n → ∃ x y, ((xs.drop o).take n)[j]? = some x ∧ c[sh + o + j]? = some y ∧ VRel ρ x y ∧ isCell x = true := by
    intro j hj
    have hx : xs[o + j]? = some (xs[o + j]'(by omega)) := List.getElem?_eq_getElem _
    obtain ⟨h1, y, hy, hr⟩ := hc (o + j) _ hx
    refine ⟨_, y, ?_, by rw [← hy]; congr 1; omega, hr, h1⟩
    rw [List.getElem?_take, if_pos hj, List.getElem?_drop]
    exact hx
  have hlen : ((xs.drop o).take n).length = n := by simp; omega
  refine ⟨(List.range n).map fun j => c.getD (sh + o + j) Go.undef, ?_, by simp, ?_, ?_⟩
  · refine VsRel.of_get (by simp; omega) ?_
    intro k x y hx hy
    have hk : k < n := by have := (List.getElem?_eq_some_iff.1 hx).1; omega
    obtain ⟨x', y', h1, h2, h3, _⟩ := key k hk
    rw [h1] at hx; cases hx
    simp [hk] at hy
    subst hy
    simpa [Array.getD, Array.getElem?_eq_some_iff.1 h2 |>.1, (Array.getElem?_eq_some_iff.1 h2).2] using h3
  · intro x hx
    obtain ⟨k, hk⟩ := List.getElem?_of_mem hx
    have hk' : k < n := by have := (List.getElem?_eq_some_iff.1 hk).1; omega
    obtain ⟨x', y', h1, h2, h3, h4⟩ := key k hk'
    rw [h1] at hk; cases hk
    exact h4
  · intro j v hv
    by_cases hj : j < n
    · obtain ⟨x', y', h1, h2, h3, _⟩ := key j hj
      simp [hj] at hv
      rw [h2, ← hv]
      simp [Array.getElem?_eq_some_iff.1 h2 |>.1, (Array.getElem?_eq_some_iff.1 h2).2]
    · simp [hj] at hv

theorem cell_row {g o : Nat} {c : Array Value} {t : TypeId} {fr : Nat × Nat} (hg : w.heap[g]? = some (.cells c t fr)) : w.cell? ⟨g, o, none⟩ = c[o]? := by
  simp [World.cell?, hg]

theorem run_loadWin {g o n : Nat} {c : Array Value} {t : TypeId} {fr : Nat × Nat} {ys : List Value} (hg : w.heap[g]? = some (.cells c t fr)) (hl : ys.length = n) (hy : ∀ j v, ys[j]? = some v → c[o + j]? = some v) :
    (loadCells ⟨g, o, none⟩ n).run P w = .ok ys.toArray w := by
  subst hl
  exact run_loadCells_list w _ ys fun j v hj => by rw [Addr.add_lit, cell_row hg]; exact hy j v hj

theorem run_iLoad (H : HRel P ρ h w) {t : TypeId} {d : TypeDesc} {a a' v : Value} (ht : P.underlying t = some d) (hk : infoOk P t = true) (hi : iLoad (isAggD d) (P.cellsOf t) h a = some v) (ha : VRel ρ a a') :
    ∃ v', (Instr.loadAt t a').run P w = .ok v' w ∧ VRel ρ v v' := by
  unfold iLoad at hi
  split at hi
  · rename_i i o
    obtain ⟨r, hr, rfl⟩ := ha.ptr_inv
    simp only [Option.bind_eq_some_iff] at hi
    obtain ⟨xs, hx, hp⟩ := hi
    obtain ⟨c, _, fr, hb, hc⟩ := H.cells hr hx
    unfold iPart at hp
    cases hd : isAggD d
    · rw [hd] at hp
      simp at hp
      obtain ⟨h1, y, hy, hv⟩ := hc o v hp
      refine ⟨y, ?_, hv⟩
      have : w.cell? ⟨r.blk, r.sh + o, none⟩ = some y := by rw [cell_row hb, hy]
      simp [Instr.loadAt, Instr.sureAddr, loadVar, run_isAgg' w ht, hd, this]
    · rw [hd] at hp
      simp at hp
      obtain ⟨hl, rfl⟩ := hp
      obtain ⟨ys, h1, h2, h3, h4⟩ := hc.window hl
      refine ⟨.agg ys.toArray, ?_, .aggL h1 h3⟩
      simp [Instr.loadAt, Instr.sureAddr, loadVar, run_isAgg' w ht, hd, run_sizeOf' w hk, run_loadWin (P := P) hb h2 h4]
  · cases hi

/-- The cells of a slice, in the model. -/
theorem sliceCells_rel (H : HRel P ρ h w) {esz : Nat} {x x' : Value} {cs : List Value} (hs : sliceCells h esz x = some cs) (hx : VRel ρ x x') :
    (x' = .slice none 0 0 ∧ cs = []) ∨ (∃ b o n c', x' = .slice (some ⟨b, o, none⟩) n c' ∧ lenOfSl x = some n ∧ cs.length = n * esz ∧ (∀ v ∈ cs, isCell v = true) ∧
      ∃ ys, VsRel ρ cs ys ∧ ∀ j v, ys[j]? = some v → w.cell? ⟨b, o + j, none⟩ = some v) := by
  unfold sliceCells at hs
  split at hs
  · simp at hs; subst hs
    cases hx
    exact .inl ⟨rfl, rfl⟩
  · rename_i i o e n c
    cases hx with
    | slice hr ho hn hc hb =>
      rename_i o' c' r
      split at hs
      · rename_i h0
        simp at hs; subst hs; subst h0
        exact .inr ⟨_, _, _, _, rfl, rfl, by simp, by simp, [], .nil, by simp⟩
      · rename_i h0
        simp only [Option.bind_eq_some_iff] at hs
        obtain ⟨xs, hx, hl⟩ := hs
        split at hl
        · rename_i hle
          simp at hl; subst hl
          obtain ⟨c, _, fr, hbk, hc⟩ := H.cells hr hx
          obtain ⟨ys, h1, h2, h3, h4⟩ := hc.window hle
          have ho' : o' = r.sh + o := by
            rcases ho with ho | ⟨q1, q2, q3⟩
            · exact ho
            · omega
          subst ho'
          refine .inr ⟨_, _, _, _, rfl, rfl, by simp; omega, h3, ys, h1, ?_⟩
          intro j v hj
          rw [cell_row hbk]
          exact h4 j v hj
        · cases hl
  · cases hs

theorem mapM_bytes : ∀ {cs : List Value} {l : List UInt8}, cs.mapM byteOf1 = some l → ∃ ns : List Int, cs = ns.map (Value.int .u8) ∧ l = ns.map fun n => UInt8.ofNat n.toNat
  | [], l, h => by simp at h; subst h; exact ⟨[], rfl, rfl⟩
  | c :: cs, l, h => by
    simp only [List.mapM_cons, Option.bind_eq_bind, Option.bind_eq_some_iff] at h
    obtain ⟨b, hb, bs, hbs, h⟩ := h
    simp at h; subst h
    obtain ⟨ns, rfl, rfl⟩ := mapM_bytes hbs
    unfold byteOf1 at hb
    split at hb
    · rename_i n
      simp at hb; subst hb
      exact ⟨n :: ns, rfl, rfl⟩
    · cases hb

theorem VsRel.ints {ns : List Int} {k : IntKind} {ys : List Value} (h : VsRel ρ (ns.map (Value.int k)) ys) : ys = ns.map (Value.int k) := by
  induction ns generalizing ys with
  | nil => cases h; rfl
  | cons n ns ih =>
    cases h with
    | cons a b => rw [a.int_inv, ih b]; rfl

theorem push_fold (ns : List Int) : ∀ (s : ByteArray), ns.foldl (fun r n => r.push (UInt8.ofNat n.toNat)) s = ⟨(bytes s ++ ns.map fun n => UInt8.ofNat n.toNat).toArray⟩ := by
  induction ns with
  | nil => intro s; simp [mk_bytes]
  | cons n ns ih =>
    intro s
    rw [List.foldl_cons, ih]
    simp [bytes]

theorem run_iB2s (H : HRel P ρ h w) {x x' v : Value} (hi : iB2s h x = some v) (hx : VRel ρ x x') : (Conv.bytesToString x').run P w = .ok v w ∧ VRel ρ v v := by
  unfold iB2s at hi
  simp only [Option.bind_eq_some_iff, Option.map_eq_some_iff] at hi
  obtain ⟨cs, hs, l, hl, rfl⟩ := hi
  refine ⟨?_, VRel.S _ _⟩
  obtain ⟨ns, rfl, rfl⟩ := mapM_bytes hl
  rcases sliceCells_rel H hs hx with ⟨rfl, h0⟩ | ⟨b, o, n, c', rfl, _, hlen, _, ys, hy, hcell⟩
  · have : ns = [] := by simpa using h0
    subst this
    simp [Conv.bytesToString, S]
    rfl
  · have e := hy.ints
    subst e
    simp at hlen
    have hld : (loadCells ⟨b, o, none⟩ n).run P w = .ok (ns.map (Value.int .u8)).toArray w := by
      have := run_loadCells_list (P := P) w ⟨b, o, none⟩ (ns.map (Value.int .u8)) (fun j v hj => by rw [Addr.add_lit]; exact hcell j v hj)
      simpa [hlen] using this
    rw [run_bytesToString w _ n c' ns hld, push_fold]
    rfl

end
end Go.Sim
