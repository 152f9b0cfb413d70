/-
  What a call leaves behind, its result not named ahead; numbers that came in.
-/
import Derived.Test.YtipeennffbbglaaSim23
namespace Go.Sim

theorem callP_newE {P : Program} {F : FuncId} {args : List Value} {h : Heap} {K : Value → Heap → Prop}
    (hc : CallP P F args h fun u h' => EX h h' ∧ ∃ i o V, h.length ≤ i ∧ h'[i]? = some o ∧ plainObj o = true ∧ Ren V ∧ u = V i ∧ K (V h.length) (h ++ [o])) : CallP P F args h K := by
  rw [CallP_eq] at hc
  obtain ⟨u, h', hc, hex, i, o, V, h1, h2, h3, h4, h5, h6⟩ := hc
  exact callP_new h4 h3 (.mk ⟨u, h', hc, hex, i, h1, h2, h5⟩) h6

theorem callP_gcE {P : Program} {F : FuncId} {args : List Value} {h : Heap} {K : Value → Heap → Prop} (hc : CallP P F args h fun u h' => EX h h' ∧ (Ren fun _ => u) ∧ K u h) : CallP P F args h K := by
  rw [CallP_eq] at hc
  obtain ⟨u, h', hc, hex, h1, h2⟩ := hc
  exact callP_gc h1 (.mk ⟨u, h', hc, rfl, hex⟩) h2

theorem rem_nat (k : IntKind) (a b : Nat) (hb : b ≠ 0) : iBin .rem (.int k (a : Int)) (.int k (b : Int)) = some (.int k ((a % b : Nat) : Int)) := by
  have h : ¬ ((b : Int) = 0) := by omega
  simp only [iBin, iInt, if_true, if_neg h]
  congr 2

theorem incM (i : Nat) (h : i < maxLen) : IntKind.wrap .i64 ((i : Int) + 1) = ((i + 1 : Nat) : Int) := by
  unfold maxLen at h
  rw [wrap64 (by omega) (by omega)]; omega

/-- Numbers of some kind in memory. -/
structure NS (h : Heap) (v : Value) (k : IntKind) (ns : List Int) : Prop where
  len : iLenSl v = some (I ns.length)
  get : ∀ i (hi : i < ns.length), ∃ b o, iAdrSl 1 v (I i) = some (pt b o) ∧ iLoad false 1 h (pt b o) = some (.int k ns[i])
  le : ns.length ≤ maxLen

theorem load_EX {h h' : Heap} (k : EX h h') {agg : Bool} {n : Nat} {a v : Value} (hl : iLoad agg n h a = some v) : iLoad agg n h' a = some v := by
  unfold iLoad at hl ⊢
  split at hl
  · rename_i i o
    cases hc : objCells h i with
    | none => rw [hc] at hl; cases hl
    | some xs => rw [hc] at hl; rw [k.cells hc]; exact hl
  · cases hl

theorem NS.mono {h h' : Heap} {v : Value} {k : IntKind} {ns : List Int} (e : EX h h') (p : NS h v k ns) : NS h' v k ns :=
  ⟨p.len, fun j hj => let ⟨i, o, a, b⟩ := p.get j hj; ⟨i, o, a, load_EX e b⟩, p.le⟩

theorem NS.nil (h : Heap) (k : IntKind) : NS h (.slice none 0 0) k [] := ⟨rfl, fun i hi => by simp at hi, by simp⟩

theorem NS.sl {h : Heap} {e : TypeId} {i : Nat} {k : IntKind} {ns : List Int} (hc : ns = [] ∨ objCells h i = some (ns.map (Value.int k))) (hl : ns.length ≤ maxLen) : NS h (sl e i 0 ns.length) k ns := by
  refine ⟨rfl, fun j hj => ⟨i, j, ?_, ?_⟩, hl⟩
  · have : (0 : Int) ≤ (j : Int) ∧ (j : Int) < (ns.length : Int) := by omega
    simp [Go.Sim.sl, iAdrSl, this]
  · have hc := hc.resolve_left (by rintro rfl; simp at hj)
    simp [iLoad, hc, iPart, hj]

theorem take_drop_one {α : Type} {s : List α} {i : Nat} (h : i < s.length) : (s.take (i + 1)).drop i = [s[i]] := by
  apply List.ext_getElem?
  intro m
  rw [List.getElem?_drop, List.getElem?_take]
  match m with
  | 0 => simp [h]
  | m + 1 => simp

section
open Go.ChangeShapes
variable {P : Program} {W : World} {ρ : RMap} {h : Heap} {H : Type} {enc : TypeId × Value → H}

theorem ints_of {e : TypeId} {k : IntKind} (he : P.underlying e = some (.int k)) : ∀ {n : Nat} {xs : List Value}, xs.length = n * 1 → (∀ i, i < n → ∃ m y, DataW.trod enc P W 0 (fun _ => true) true m e ((xs.drop (i * 1)).take 1) = some y) →
    ∃ ns : List Int, ns.length = n ∧ xs = ns.map (Value.int k) ∧ ∀ x ∈ ns, (Lit.int k x).wf = true
  | 0, xs, hl, _ => ⟨[], rfl, by simpa using hl, by simp⟩
  | n + 1, xs, hl, hp => by
    match xs, hl with
    | x :: xs, hl =>
      obtain ⟨m, y, hy⟩ := hp 0 (by omega)
      simp at hy
      obtain ⟨z, hz, _, hw⟩ := DataW.trod_int he hy
      simp at hz
      subst hz
      obtain ⟨ns, h1, h2, h3⟩ := ints_of he (n := n) (xs := xs) (by simp at hl; omega) fun i hi => by
        have := hp (i + 1) (by omega)
        rw [show (i + 1) * 1 = i * 1 + 1 by omega] at this
        simpa using this
      exact ⟨z :: ns, by simp [h1], by simp [h2], by intro a ha; rcases List.mem_cons.1 ha with rfl | ha; exact hw; exact h3 a ha⟩

/-- A slice of numbers that came in. -/
theorem emb_ints {t e : TypeId} {k : IntKind} (ht : P.underlying t = some (.slice e)) (he : P.underlying e = some (.int k)) (hc1 : P.cellsOf e = 1)
    {fuel b : Nat} {v : Value} {x : DataW H × List MemPlace} (hd : DataW.trod enc P W 0 (fun _ => true) true fuel t [v] = some x) (hok : Cell.okWide P W .any b t v) (HR : HRel P ρ h W) (hro : roH h) :
    ∃ (ρ' : RMap) (g : Heap) (v' : Value) (ns : List Int), ρ.le ρ' ∧ HRel P ρ' (h ++ g) W ∧ roH (h ++ g) ∧ VRel ρ' v' v ∧ isCell v' = true ∧ NS (h ++ g) v' k ns ∧ ∀ x ∈ ns, (Lit.int k x).wf = true := by
  obtain ⟨ρ', g, v', n, xs, e1, e2, e3, e4, e5, e6, e7, e8, e9⟩ := emb_slice ht (by rw [hc1]; exact Nat.succ_ne_zero 0) (trod_ints_flat he hc1) hd hok HR hro
  rw [hc1] at e7 e9
  obtain ⟨ns, q1, rfl, q3⟩ := ints_of he e7 e9
  refine ⟨ρ', g, v', ns, e1, e2, e3, e4, e5, ?_, q3⟩
  have hlen : n ≤ maxLen := by
    rcases e6 with ⟨rfl, rfl⟩ | ⟨i, rfl, _⟩
    · simp
    · obtain ⟨r, o', c', _, _, _, _, h4, h5, _⟩ := slice_inv e4
      omega
  rcases e6 with ⟨rfl, rfl⟩ | ⟨i, rfl, h0⟩
  · have : ns = [] := List.length_eq_zero_iff.1 q1
    subst this
    exact NS.nil _ _
  · subst q1
    exact NS.sl (h0.imp (fun h => List.length_eq_zero_iff.1 h) id) hlen
end
end Go.Sim
