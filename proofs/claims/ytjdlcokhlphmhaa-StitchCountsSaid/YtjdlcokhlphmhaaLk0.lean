/-
  The law's arguments, seen by the ideal machine.
-/
import Derived.Test.YtjdlcokhlphmhaaRows
import Derived.Test.YtjdlcokhlphmhaaSim23
import Derived.Test.YtjdlcokhlphmhaaMg1
namespace Go.Proofs.Ytjdlcokhlphmhaa
open Go.Sim Go.ChangeShapes Go.WideShapes Go.ChangeAt Go.RowKit

theorem Try.own : ownKnob Try.prog.godebug = none := by kernel_rfl
theorem Try.laidOut : laidOutB Try.prog = true := by kernel_rfl
theorem cells98 : Try.prog.cellsOf 98 = 2 := by kernel_rfl
theorem cells24 : Try.prog.cellsOf 24 = 2 := by kernel_rfl
theorem cells22 : Try.prog.cellsOf 22 = 1 := by kernel_rfl
theorem cells3 : Try.prog.cellsOf 3 = 1 := by kernel_rfl
theorem cellTypes24 : Try.prog.cellTypes Try.prog.depth 24 = some [3, 22] := by kernel_rfl

section
variable {H : Type} {enc : TypeId × Value → H} {W : World} {ρ : RMap} {h : Heap}

theorem pair_inv {n : Nat} {cs : List Value} {y : DataW H × List MemPlace} (hd : DataW.trod enc Try.prog W 0 (fun _ => true) true n 98 cs = some y) : ∃ a b, cs = [I a, I b] := by
  obtain ⟨y0, y1, m, _, hl, h0, h1⟩ := trod_struct2 Try.underlying98 hd
  simp only [cells98, cells3] at hl h0 h1
  obtain ⟨a, ha, _, _⟩ := DataW.trod_int Try.underlying3 h0
  obtain ⟨b, hb, _, _⟩ := DataW.trod_int Try.underlying3 h1
  match cs, hl with
  | [c0, c1], _ =>
    simp at ha hb
    exact ⟨a, b, by rw [ha, hb]⟩

theorem pair_flat (n : Nat) (cs : List Value) (y : DataW H × List MemPlace) (hd : DataW.trod enc Try.prog W 0 (fun _ => true) true n 98 cs = some y) : cs.length = Try.prog.cellsOf 98 ∧ ∀ x ∈ cs, scal x = true := by
  obtain ⟨a, b, rfl⟩ := pair_inv hd
  exact ⟨by rw [cells98]; rfl, by simp [scal]⟩

theorem pairs_of : ∀ {n : Nat} {xs : List Value}, xs.length = n * 2 → (∀ i, i < n → ∃ a b, (xs.drop (i * 2)).take 2 = [I a, I b]) → ∃ ps : List (Int × Int), ps.length = n ∧ xs = pcells ps
  | 0, xs, hl, _ => ⟨[], rfl, by simpa [pcells] using hl⟩
  | n + 1, xs, hl, hp => by
    obtain ⟨a, b, hab⟩ := hp 0 (by omega)
    match xs, hl with
    | x :: y :: xs, hl =>
      simp at hab
      obtain ⟨rfl, rfl⟩ := hab
      obtain ⟨ps, h1, h2⟩ := pairs_of (n := n) (xs := xs) (by simp at hl; omega) fun i hi => by
        have := hp (i + 1) (by omega)
        rw [show (i + 1) * 2 = i * 2 + 1 + 1 by omega] at this
        simpa using this
      exact ⟨(a, b) :: ps, by simp [h1], by simp [pcells, h2]⟩

set_option maxRecDepth 100000 in
theorem emb_threads {b : Nat} {v : Value} {d : DataW H} {ps : List MemPlace} (hok : Value.okWide Try.prog W .any b 24 v) (hd : DataW.Trod enc Try.prog W 0 (fun _ => true) true 24 v d ps) (HR : HRel Try.prog ρ h W) (hro : roH h) :
    ∃ (ρ' : RMap) (g : Heap) (k : Int) (pv : Value) (qs : List (Int × Int)), ρ.le ρ' ∧ HRel Try.prog ρ' (h ++ g) W ∧ roH (h ++ g) ∧ VRel ρ' (.agg #[I k, pv]) v ∧ PSl (h ++ g) pv qs := by
  simp only [Value.okWide, Try.underlying24] at hok
  obtain ⟨cs, rfl, hsz, ts, hts, _, hcells⟩ := hok
  rw [cellTypes24] at hts
  obtain rfl := (Option.some.inj hts).symm
  obtain ⟨fuel, hf⟩ := hd
  simp only [Value.cells] at hf
  obtain ⟨y0, y1, m, _, hl, h0, h1⟩ := trod_struct2 Try.underlying24 hf
  simp only [cells24, cells22, cells3] at hl h0 h1
  obtain ⟨c0, c1, hcs⟩ : ∃ c0 c1, cs.toList = [c0, c1] := by
    match cs.toList, hl with
    | [c0, c1], _ => exact ⟨c0, c1, rfl⟩
  rw [hcs] at h0 h1
  simp at h0 h1
  obtain ⟨k, hk, _, _⟩ := DataW.trod_int Try.underlying3 h0
  simp at hk
  subst hk
  obtain rfl : cs = #[I k, c1] := by
    apply Array.ext'
    simpa using hcs
  obtain ⟨u, hu, hc⟩ := hcells 1 c1 rfl
  simp at hu
  subst hu
  have hne : Try.prog.cellsOf 98 ≠ 0 := by rw [cells98]; exact Nat.succ_ne_zero 1
  have key := emb_slice (P := Try.prog) (W := W) (enc := enc) (ρ := ρ) (h := h) Try.underlying22 hne pair_flat (fuel := m) (v := c1) (x := y1) (b := b)
  obtain ⟨ρ', g, v', n, xs, e1, e2, e3, e4, e5, e6, e7, e8, e9⟩ := key h1 hc HR hro
  rw [cells98] at e7 e9
  obtain ⟨qs, q1, rfl⟩ := pairs_of e7 fun i hi => by
    obtain ⟨m, y, hy⟩ := e9 i hi
    exact pair_inv hy
  refine ⟨ρ', g, k, v', qs, e1, e2, e3, ?_, ?_⟩
  · refine VRel.aggL (ρ := ρ') (xs := [I k, v']) (xs' := [I k, c1]) (.cons (.int .i64 k) (.cons e4 .nil)) ?_
    intro x hx
    rcases List.mem_cons.1 hx with rfl | hx
    · rfl
    · rw [List.mem_singleton.1 hx]
      exact e5
  · rcases e6 with ⟨rfl, h0⟩ | ⟨i, rfl, h0⟩
    · subst h0
      exact .inl ⟨rfl, List.length_eq_zero_iff.1 q1⟩
    · subst q1
      exact .inr ⟨i, rfl, h0.imp (fun h => List.length_eq_zero_iff.1 h) id⟩

end

end Go.Proofs.Ytjdlcokhlphmhaa
