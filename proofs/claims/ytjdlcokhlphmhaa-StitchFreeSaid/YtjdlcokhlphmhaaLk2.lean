/-
  More of the laws' arguments, seen by the ideal machine.
-/
import Derived.Test.YtjdlcokhlphmhaaLk0
import Derived.Test.YtjdlcokhlphmhaaSim24
namespace Go.Proofs.Ytjdlcokhlphmhaa
open Go.Sim Go.ChangeShapes Go.WideShapes Go.ChangeAt Go.RowKit

set_option maxRecDepth 100000

theorem cells54 : Try.prog.cellsOf 54 = 2 := by kernel_rfl
theorem cells5 : Try.prog.cellsOf 5 = 1 := by kernel_rfl
theorem cells52 : Try.prog.cellsOf 52 = 1 := by kernel_rfl
theorem cells55 : Try.prog.cellsOf 55 = 1 := by kernel_rfl

section
variable {H : Type} {enc : TypeId × Value → H} {W : World} {ρ : RMap} {h : Heap}

theorem wf_u8 {x : Int} (h : (Lit.int .u8 x).wf = true) : 0 ≤ x ∧ x < 256 := by
  simp [Lit.wf, IntKind.min, IntKind.max, IntKind.signed, IntKind.bits] at h
  omega

theorem cells_agg_two {cs : Array Value} {a b : Value} (h : cs.toList = [a, b]) : cs = #[a, b] := by
  apply Array.ext'
  simpa using h

theorem emb_cloth {b : Nat} {v : Value} {d : DataW H} {ps : List MemPlace} (hok : Value.okWide Try.prog W .any b 54 v) (hd : DataW.Trod enc Try.prog W 0 (fun _ => true) true 54 v d ps) :
    ∃ kk f : Int, v = .agg #[.int .u8 kk, .int .u16 f] ∧ 0 ≤ kk ∧ kk < 256 := by
  simp only [Value.okWide, Try.underlying54] at hok
  obtain ⟨cs, rfl, _⟩ := hok
  obtain ⟨fuel, hf⟩ := hd
  simp only [Value.cells] at hf
  obtain ⟨y0, y1, m, _, hl, h0, h1⟩ := trod_struct2 Try.underlying54 hf
  simp only [cells54, cells5, cells52] at hl h0 h1
  obtain ⟨c0, c1, hcs⟩ : ∃ c0 c1, cs.toList = [c0, c1] := by
    match cs.toList, hl with
    | [c0, c1], _ => exact ⟨c0, c1, rfl⟩
  rw [hcs] at h0 h1
  simp at h0 h1
  obtain ⟨k, hk, _, hw⟩ := DataW.trod_int Try.underlying5 h0
  obtain ⟨f, hf, _, _⟩ := DataW.trod_int Try.underlying52 h1
  simp at hk hf
  subst hk
  subst hf
  exact ⟨k, f, by rw [cells_agg_two hcs], wf_u8 hw⟩

theorem emb_u8s {b : Nat} {v : Value} {d : DataW H} {ps : List MemPlace} (hok : Value.okWide Try.prog W .any b 55 v) (hd : DataW.Trod enc Try.prog W 0 (fun _ => true) true 55 v d ps) (HR : HRel Try.prog ρ h W) (hro : roH h) :
    ∃ (ρ' : RMap) (g : Heap) (v' : Value) (ns : List Int), ρ.le ρ' ∧ HRel Try.prog ρ' (h ++ g) W ∧ roH (h ++ g) ∧ VRel ρ' v' v ∧ NS (h ++ g) v' .u8 ns ∧ ∀ x ∈ ns, 0 ≤ x ∧ x < 256 := by
  simp only [Value.okWide, Try.underlying55] at hok
  obtain ⟨fuel, hf⟩ := hd
  have hv : v.cells.toList = [v] := by
    have hok' := hok
    simp only [Cell.okWide, Try.underlying55, Cell.ok] at hok'
    cases v <;> simp at hok' <;> rfl
  rw [hv] at hf
  have key := emb_ints (P := Try.prog) (W := W) (enc := enc) (ρ := ρ) (h := h) Try.underlying55 Try.underlying5 cells5 (fuel := fuel) (v := v) (x := (d, ps)) (b := b)
  obtain ⟨ρ', g, v', ns, e1, e2, e3, e4, _, e6, e7⟩ := key hf hok HR hro
  exact ⟨ρ', g, v', ns, e1, e2, e3, e4, e6, fun x hx => wf_u8 (e7 x hx)⟩

end
end Go.Proofs.Ytjdlcokhlphmhaa
