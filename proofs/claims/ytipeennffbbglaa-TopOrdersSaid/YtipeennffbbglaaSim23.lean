/-
  What comes in: a law's arguments, as the ideal machine sees them.
-/
import Derived.Test.YtipeennffbbglaaSim21
import Derived.ProofKit
import Derived.OpenShut
namespace Go.Sim
open Go.ChangeShapes Go.WideShapes Go.ChangeAt Go.RowKit

/-- Nothing may be written. -/
def roH (h : Heap) : Prop := ∀ i, ¬ isMut h i

section
variable {P : Program} {W : World} {ρ : RMap} {h : Heap}

theorem HRel.start (P : Program) (W : World) : HRel P (fun _ => Option.none) [] W := ⟨fun i r hi => (by cases hi), fun i j r s hi => (by cases hi), fun i r hi => (by cases hi)⟩
theorem roH.start : roH [] := fun i hm => by unfold isMut at hm; simp at hm

/-- One object more, of what was there. -/
theorem HRel.addRo (H : HRel P ρ h W) (hr : roH h) {r : RI} (he : r.esz = P.cellsOf r.elem) {o : IObj} (hno : o = .dead ∨ ∃ e xs, o = .ro e xs) (ho : objRel (ρ.add h.length r) W r o) :
    HRel P (ρ.add h.length r) (h ++ [o]) W ∧ roH (h ++ [o]) ∧ ρ.le (ρ.add h.length r) := by
  have hro : roH (h ++ [o]) := by
    intro i hm
    unfold isMut at hm
    by_cases hi : i < h.length
    · rw [List.getElem?_append_left hi] at hm
      exact hr i hm
    · by_cases he : i = h.length
      · subst he
        have e : (h ++ [o])[h.length]? = some o := by simp
        rw [e] at hm
        rcases hno with rfl | ⟨_, _, rfl⟩ <;> rcases hm with ⟨_, _, h1⟩ | ⟨_, h1⟩ | ⟨_, _, _, h1⟩ | ⟨_, _, h1⟩ <;> cases h1
      · rw [List.getElem?_eq_none (by simp; omega)] at hm
        rcases hm with ⟨_, _, h1⟩ | ⟨_, h1⟩ | ⟨_, _, _, h1⟩ | ⟨_, _, h1⟩ <;> cases h1
  refine ⟨⟨?_, fun i j r s _ _ _ hm => absurd hm (hro i), ?_⟩, hro, RMap.le_add H.none⟩
  · intro i s hi
    unfold RMap.add at hi
    split at hi
    · rename_i e
      subst e
      cases hi
      exact ⟨o, by simp, ho⟩
    · obtain ⟨o', h1, h2⟩ := H.obj i s hi
      exact ⟨o', by rw [List.getElem?_append_left (H.lt hi)]; exact h1, h2.mono (RMap.le_add H.none) rfl⟩
  · intro i s hi
    unfold RMap.add at hi
    split at hi
    · cases hi; exact he
    · exact H.esz i s hi

theorem scal.self {v : Value} (hs : scal v = true) (ρ : RMap) : VRel ρ v v := by
  unfold scal at hs
  split at hs
  · exact .bool _
  · exact .int _ _
  · exact .string _
  · exact .nilFunc
  · exact .nilIface
  · exact .nilPtr
  · exact .nilMap
  · exact .nilSlice
  · cases hs

theorem scal.cell {v : Value} (hs : scal v = true) : isCell v = true := by
  unfold scal at hs
  split at hs <;> first | rfl | cases hs

variable {H : Type} {enc : TypeId × Value → H}

theorem addr_eq {a : Addr} (hs : a.spot = none) (n : Nat) : a.add n = ⟨a.block, a.off + n, none⟩ := by
  obtain ⟨b, o, s⟩ := a
  simp only at hs
  subst hs
  unfold Addr.add
  split
  · rename_i h; subst h; rfl
  · rfl

/-- A slice of plain elements that came in. -/
theorem emb_slice {t e : TypeId} (ht : P.underlying t = some (.slice e)) (hpos : P.cellsOf e ≠ 0)
    (flat : ∀ n cs y, DataW.trod enc P W 0 (fun _ => true) true n e cs = some y → cs.length = P.cellsOf e ∧ ∀ x ∈ cs, scal x = true)
    {fuel b : Nat} {v : Value} {x : DataW H × List MemPlace} (hd : DataW.trod enc P W 0 (fun _ => true) true fuel t [v] = some x) (hok : Cell.okWide P W .any b t v) (HR : HRel P ρ h W) (hro : roH h) :
    ∃ (ρ' : RMap) (g : Heap) (v' : Value) (n : Nat) (xs : List Value), ρ.le ρ' ∧ HRel P ρ' (h ++ g) W ∧ roH (h ++ g) ∧ VRel ρ' v' v ∧ isCell v' = true ∧
      ((v' = .slice none 0 0 ∧ n = 0) ∨ ∃ i, v' = sl e i 0 n ∧ (n = 0 ∨ objCells (h ++ g) i = some xs)) ∧ xs.length = n * P.cellsOf e ∧ (∀ y ∈ xs, scal y = true) ∧
      ∀ i, i < n → ∃ m y, DataW.trod enc P W 0 (fun _ => true) true m e ((xs.drop (i * P.cellsOf e)).take (P.cellsOf e)) = some y := by
  rcases DataW.trod_slice ht hd with ⟨h1, _⟩ | ⟨a, len, cap, elems, rest, n, _, h1, _, hb, hl, hm, hlen, hel, hsp, _⟩
  · obtain rfl : v = .slice none 0 0 := by simpa using h1
    exact ⟨ρ, [], .slice none 0 0, 0, [], .refl _, by simpa using HR, by simpa using hro, .nilSlice, rfl, .inl ⟨rfl, rfl⟩, by simp, by simp, fun i hi => by omega⟩
  · obtain rfl : v = .slice (some a) len cap := by simpa using h1
    have hspot : a.spot = none := by
      simp only [Cell.okWide, ht, Cell.ok] at hok
      exact hok.2.2.2.1
    obtain ⟨hrl, hr⟩ := hsp rfl
    -- every element's cells lie there
    have each : ∀ i, i < cap → ∃ cs y, W.cells? 0 (a.add (i * P.cellsOf e)) (P.cellsOf e) = some cs ∧ DataW.trod enc P W 0 (fun _ => true) true n e cs = some y := by
      intro i hi
      have hb' : ∃ y, (W.cells? 0 (a.add (i * P.cellsOf e)) (P.cellsOf e)).bind (DataW.trod enc P W 0 (fun _ => true) true n e) = some y := by
        by_cases hil : i < len
        · rw [hel i hil, List.getElem?_eq_getElem (by omega)]
          exact ⟨_, rfl⟩
        · have := hr (i - len) (by omega)
          rw [show len + (i - len) = i by omega] at this
          rw [this, List.getElem?_eq_getElem (by omega)]
          exact ⟨_, rfl⟩
      obtain ⟨y, hy⟩ := hb'
      rw [Option.bind_eq_some_iff] at hy
      obtain ⟨cs, h1, h2⟩ := hy
      exact ⟨cs, y, h1, h2⟩
    by_cases hc0 : cap = 0
    · subst hc0
      obtain rfl : len = 0 := by omega
      obtain ⟨H', hro', hle⟩ := HR.addRo hro (r := ⟨a.block, a.off, e, P.cellsOf e, a.off⟩) rfl (.inl rfl) trivial
      refine ⟨_, [.dead], sl e h.length 0 0, 0, [], hle, H', hro', ?_, rfl, .inr ⟨_, rfl, .inl rfl⟩, by simp, by simp, fun i hi => by omega⟩
      obtain ⟨ab, ao, as⟩ := a
      simp only at hspot
      subst hspot
      exact VRel.slice (ρ := ρ.add h.length ⟨ab, ao, e, P.cellsOf e, ao⟩) (i := h.length) (o := 0) (n := 0) (o' := ao) (c' := 0) (r := ⟨ab, ao, e, P.cellsOf e, ao⟩) (by simp [RMap.add]) (.inl rfl) (Nat.le_refl _) (by unfold maxLen; omega) (by simp)
    · have hesz : 0 < P.cellsOf e := by omega
      -- the block
      have hblk : ∃ c tt fr, W.heap[a.block]? = some (.cells c tt fr) := by
        obtain ⟨cs, y, h1, h2⟩ := each 0 (by omega)
        obtain ⟨_, g2, g3⟩ := World.cells?_some h1
        have := g3 0 hesz
        rw [Nat.zero_mul, addr_eq hspot 0, addr_eq rfl 0, List.getElem?_eq_getElem (by omega)] at this
        unfold World.cell? at this
        split at this
        · rename_i c tt fr hh; exact ⟨c, tt, fr, hh⟩
        · cases this
      obtain ⟨c, tt, fr, hcell⟩ := hblk
      have get : ∀ i cs, W.cells? 0 (a.add (i * P.cellsOf e)) (P.cellsOf e) = some cs → ∀ j, j < P.cellsOf e → c[a.off + (i * P.cellsOf e + j)]? = cs[j]? := by
        intro i cs h1 j hj
        obtain ⟨_, g2, g3⟩ := World.cells?_some h1
        have := g3 j hj
        rw [addr_eq hspot, addr_eq rfl] at this
        simp only [World.cell?, hcell] at this
        simpa [Nat.add_assoc] using this
      have here : ∀ j, j < cap * P.cellsOf e → ∃ y, c[a.off + j]? = some y ∧ scal y = true := by
        intro j hj
        have hi : j / P.cellsOf e < cap := (Nat.div_lt_iff_lt_mul hesz).2 hj
        obtain ⟨cs, y, h1, h2⟩ := each _ hi
        obtain ⟨f1, f2⟩ := flat n cs y h2
        have hmod : j % P.cellsOf e < P.cellsOf e := Nat.mod_lt _ hesz
        have := get _ cs h1 (j % P.cellsOf e) hmod
        rw [show j / P.cellsOf e * P.cellsOf e + j % P.cellsOf e = j by rw [Nat.mul_comm]; exact Nat.div_add_mod j _] at this
        rw [this, List.getElem?_eq_getElem (by omega)]
        exact ⟨_, rfl, f2 _ (List.getElem_mem _)⟩
      let xs := (List.range (len * P.cellsOf e)).map fun j => c.getD (a.off + j) Go.undef
      have hxl : xs.length = len * P.cellsOf e := by simp [xs]
      have hlc : len * P.cellsOf e ≤ cap * P.cellsOf e := Nat.mul_le_mul_right _ hl
      have hxg : ∀ j, j < len * P.cellsOf e → xs[j]? = c[a.off + j]? := by
        intro j hj
        obtain ⟨y, h1, _⟩ := here j (by omega)
        simp [xs, hj, h1]
      have hxs : ∀ y ∈ xs, scal y = true := by
        intro y hy
        obtain ⟨j, hj⟩ := List.getElem?_of_mem hy
        have hlt : j < len * P.cellsOf e := by have := (List.getElem?_eq_some_iff.1 hj).1; omega
        obtain ⟨z, h1, h2⟩ := here j (by omega)
        rw [hxg j hlt, h1] at hj
        cases hj
        exact h2
      have hsize : a.off + cap * P.cellsOf e ≤ c.size := by
        have hpos' : 0 < cap * P.cellsOf e := Nat.mul_pos (by omega) hesz
        obtain ⟨y, h1, _⟩ := here (cap * P.cellsOf e - 1) (by omega)
        have := (Array.getElem?_eq_some_iff.1 h1).1
        omega
      obtain ⟨H', hro', hle⟩ := HR.addRo hro (r := ⟨a.block, a.off, e, P.cellsOf e, c.size⟩) rfl (.inr ⟨e, xs, rfl⟩) ⟨rfl, c, tt, fr, hcell, rfl, fun j y hj => by
        have hlt : j < len * P.cellsOf e := by have := (List.getElem?_eq_some_iff.1 hj).1; omega
        rw [hxg j hlt] at hj
        obtain ⟨z, h1, h2⟩ := here j (by omega)
        rw [h1] at hj
        cases hj
        exact ⟨scal.cell h2, _, h1, scal.self h2 _⟩⟩
      refine ⟨_, [.ro e xs], sl e h.length 0 len, len, xs, hle, H', hro', ?_, rfl, .inr ⟨_, rfl, .inr (by simp [objCells])⟩, hxl, hxs, ?_⟩
      · obtain ⟨ab, ao, as⟩ := a
        simp only at hspot
        subst hspot
        exact VRel.slice (ρ := ρ.add h.length ⟨ab, ao, e, P.cellsOf e, c.size⟩) (i := h.length) (o := 0) (n := len) (o' := ao) (c' := cap) (r := ⟨ab, ao, e, P.cellsOf e, c.size⟩) (by simp [RMap.add]) (.inl rfl) hl hm hsize
      · intro i hi
        obtain ⟨cs, y, h1, h2⟩ := each i (by omega)
        refine ⟨n, y, ?_⟩
        have hcl := (flat n cs y h2).1
        have hmul : (i + 1) * P.cellsOf e ≤ len * P.cellsOf e := Nat.mul_le_mul_right _ hi
        rw [Nat.add_mul, Nat.one_mul] at hmul
        have : (xs.drop (i * P.cellsOf e)).take (P.cellsOf e) = cs := by
          apply List.ext_getElem?
          intro j
          rw [List.getElem?_take]
          by_cases hj : j < P.cellsOf e
          · rw [if_pos hj, List.getElem?_drop, hxg _ (by omega), get i cs h1 j hj]
          · rw [if_neg hj, List.getElem?_eq_none (by omega)]
        rw [this]
        exact h2

theorem emb_string {t : TypeId} (ht : P.underlying t = some .string) {b : Nat} {v : Value} {d : DataW H} {ps : List MemPlace} (hok : Value.okWide P W .any b t v) (hd : DataW.Trod enc P W 0 (fun _ => true) true t v d ps) :
    ∃ s : List UInt8, v = S s := by
  obtain ⟨s, rfl, _⟩ := Go.ChangeMaps.open_string ht hok hd
  exact ⟨bytes s, (S_bytes s).symm⟩

theorem trod_ints_flat {e : TypeId} {k : IntKind} (he : P.underlying e = some (.int k)) (hc : P.cellsOf e = 1) : ∀ n cs y, DataW.trod enc P W 0 (fun _ => true) true n e cs = some y → cs.length = P.cellsOf e ∧ ∀ x ∈ cs, scal x = true := by
  intro n cs y h
  obtain ⟨m, rfl, _, _⟩ := DataW.trod_int he h
  exact ⟨by rw [hc]; rfl, by simp [scal]⟩

theorem trodAll_below (hl : laidOutB P = true) {W' : World} (hb : Below W.heap.size W W') : ∀ {ts : List TypeId} {vs : List Value} {ds : List (DataW H)} {p : List MemPlace}, (∀ t ∈ ts, P.readableRec t = true ∧ t < P.types.size) →
    DataW.TrodAll enc P W 0 (fun _ => true) true ts vs ds p → (∀ x ∈ p, x.block < W.heap.size) → DataW.TrodAll enc P W' 0 (fun b => decide (b < W.heap.size)) true ts vs ds p
  | [], vs, ds, p, _, h, _ => by
    obtain ⟨rfl, rfl, rfl⟩ := trodAll_nil h
    exact trodAll_mk0
  | t :: ts, vs, ds, p, hr, h, hlt => by
    obtain ⟨v, vs', d, ds', a, b, rfl, rfl, rfl, h1, h2⟩ := trodAll_cons h
    exact trodAll_cons_mk (Below.trod hl (hr t (by simp)).1 (hr t (by simp)).2 h1 hb fun x hx => hlt x (by simp [hx]))
      (trodAll_below hl hb (fun t ht => hr t (by simp [ht])) h2 fun x hx => hlt x (by simp [hx]))

/-- Behind a law's call: true; what came in reads as it did. -/
theorem post_law (hl : laidOutB P = true) {f : Func} {s : ChangeSpec} {t4 : TypeId} {W' : World} {args : Array Value} {ds gs : List (DataW H)} {before : List MemPlace} (hW : DataW.Whole enc P f.params.toList s.vars false W args.toList ds gs before)
    (hv : s.vars = []) (ht4 : P.underlying t4 = some .bool) (hr : f.resultTypes = #[t4]) (hfn : ∀ gs', gs' = [] → s.fn H (ds ++ gs') = { results := [.lit (.bool true)], args := ds })
    (hread : ∀ t ∈ f.params.toList, P.readableRec t = true ∧ t < P.types.size) (hb : Below W.heap.size W W') : s.post enc P f false true false false W args (.bool true) W' := by
  have hW' := hW
  obtain ⟨p, q, hA, hV, rfl, _, _⟩ := hW
  rw [hv] at hV
  obtain ⟨rfl, rfl⟩ := trodVars_none hV
  have hlt : ∀ x ∈ p, x.block < W.heap.size := fun x hx => hW'.lt x (by simp [hx])
  have e := hfn [] rfl
  refine ⟨ds, [], p ++ [], [], p, [], hW', ?_, ?_, ?_, hb.frame _, fun h => by cases h⟩
  · rw [e, hr]
    exact trodAll_mk1 (shut_bool ht4 true)
  · rw [e]
    exact trodAll_below hl hb hread hA hlt
  · rw [e, hv]
    rfl

end
end Go.Sim
