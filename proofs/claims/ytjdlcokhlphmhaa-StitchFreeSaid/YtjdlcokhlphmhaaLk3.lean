/-
  Arrays of two among the laws' arguments.
-/
import Derived.Test.YtjdlcokhlphmhaaLk2
import Derived.Test.YtjdlcokhlphmhaaMg2
namespace Go.Proofs.Ytjdlcokhlphmhaa
open Go.Sim Go.ChangeShapes Go.WideShapes Go.ChangeAt Go.RowKit

set_option maxRecDepth 100000

theorem und83 : Try.prog.underlying 83 = some (.array 2 55) := by kernel_rfl
theorem und67 : Try.prog.underlying 67 = some (.array 2 5) := by kernel_rfl
theorem cells83 : Try.prog.cellsOf 83 = 2 := by kernel_rfl
theorem cells67 : Try.prog.cellsOf 67 = 2 := by kernel_rfl
theorem cellTypes83 : Try.prog.cellTypes Try.prog.depth 83 = some [55, 55] := by kernel_rfl

section
variable {H : Type} {enc : TypeId × Value → H} {W : World} {ρ : RMap} {h : Heap}

theorem list_two {α : Type} {l : List α} (h : l.length = 2) : ∃ a b, l = [a, b] := by
  match l, h with
  | [a, b], _ => exact ⟨a, b, rfl⟩

theorem emb_bytes2 {b : Nat} {v : Value} {d : DataW H} {ps : List MemPlace} (hok : Value.okWide Try.prog W .any b 67 v) (hd : DataW.Trod enc Try.prog W 0 (fun _ => true) true 67 v d ps) :
    ∃ a0 a1 : Int, v = .agg #[.int .u8 a0, .int .u8 a1] ∧ (0 ≤ a0 ∧ a0 < 256) ∧ (0 ≤ a1 ∧ a1 < 256) := by
  simp only [Value.okWide, und67] at hok
  obtain ⟨cs, rfl, _⟩ := hok
  obtain ⟨fuel, hf⟩ := hd
  simp only [Value.cells] at hf
  obtain ⟨xs, m, _, _, hl, hn, hel⟩ := DataW.trod_array und67 hf
  rw [cells67] at hl
  obtain ⟨c0, c1, hcs⟩ := list_two hl
  obtain ⟨y0, y1, rfl⟩ := list_two hn
  have h0 := hel 0 (by omega)
  have h1 := hel 1 (by omega)
  rw [hcs, cells5] at h0 h1
  simp at h0 h1
  obtain ⟨a0, e0, _, w0⟩ := DataW.trod_int Try.underlying5 h0
  obtain ⟨a1, e1, _, w1⟩ := DataW.trod_int Try.underlying5 h1
  simp at e0 e1
  subst e0
  subst e1
  exact ⟨a0, a1, by rw [cells_agg_two hcs], wf_u8 w0, wf_u8 w1⟩

theorem emb_u8c {b fuel : Nat} {v : Value} {x : DataW H × List MemPlace} (hok : Cell.okWide Try.prog W .any b 55 v) (hd : DataW.trod enc Try.prog W 0 (fun _ => true) true fuel 55 [v] = some x) (HR : HRel Try.prog ρ h W) (hro : roH h) :
    ∃ (ρ' : RMap) (g : Heap) (v' : Value) (ns : List Int), ρ.le ρ' ∧ HRel Try.prog ρ' (h ++ g) W ∧ roH (h ++ g) ∧ VRel ρ' v' v ∧ isCell v' = true ∧ NS (h ++ g) v' .u8 ns ∧ U8 ns := by
  have key := emb_ints (P := Try.prog) (W := W) (enc := enc) (ρ := ρ) (h := h) Try.underlying55 Try.underlying5 cells5 (fuel := fuel) (v := v) (x := x) (b := b)
  obtain ⟨ρ', g, v', ns, e1, e2, e3, e4, e5, e6, e7⟩ := key hd hok HR hro
  exact ⟨ρ', g, v', ns, e1, e2, e3, e4, e5, e6, fun x hx => wf_u8 (e7 x hx)⟩

theorem emb_two8 {b : Nat} {v : Value} {d : DataW H} {ps : List MemPlace} (hok : Value.okWide Try.prog W .any b 83 v) (hd : DataW.Trod enc Try.prog W 0 (fun _ => true) true 83 v d ps) (HR : HRel Try.prog ρ h W) (hro : roH h) :
    ∃ (ρ' : RMap) (g : Heap) (xv0 xv1 : Value) (ns0 ns1 : List Int), ρ.le ρ' ∧ HRel Try.prog ρ' (h ++ g) W ∧ roH (h ++ g) ∧ VRel ρ' (.agg #[xv0, xv1]) v ∧ NS (h ++ g) xv0 .u8 ns0 ∧ U8 ns0 ∧ NS (h ++ g) xv1 .u8 ns1 ∧ U8 ns1 := by
  simp only [Value.okWide, und83] at hok
  obtain ⟨cs, rfl, hsz, ts, hts, _, hcells⟩ := hok
  rw [cellTypes83] at hts
  obtain rfl := (Option.some.inj hts).symm
  obtain ⟨fuel, hf⟩ := hd
  simp only [Value.cells] at hf
  obtain ⟨xs, m, _, _, hl, hn, hel⟩ := DataW.trod_array und83 hf
  rw [cells83] at hl
  obtain ⟨c0, c1, hcs⟩ := list_two hl
  obtain ⟨y0, y1, rfl⟩ := list_two hn
  have h0 := hel 0 (by omega)
  have h1 := hel 1 (by omega)
  rw [hcs, cells55] at h0 h1
  simp at h0 h1
  obtain rfl := cells_agg_two hcs
  obtain ⟨u0, hu0, hc0⟩ := hcells 0 c0 rfl
  simp at hu0
  subst hu0
  obtain ⟨u1, hu1, hc1⟩ := hcells 1 c1 rfl
  simp at hu1
  subst hu1
  obtain ⟨ρ1, g1, v0, ns0, a1, a2, a3, a4, a5, a6, a7⟩ := emb_u8c hc0 h0 HR hro
  obtain ⟨ρ2, g2, v1, ns1, b1, b2, b3, b4, b5, b6, b7⟩ := emb_u8c hc1 h1 a2 a3
  rw [List.append_assoc] at b2 b3 b6
  refine ⟨ρ2, g1 ++ g2, v0, v1, ns0, ns1, fun i r hi => b1 i r (a1 i r hi), b2, b3, ?_, ?_, a7, b6, b7⟩
  · refine VRel.aggL (ρ := ρ2) (xs := [v0, v1]) (xs' := [c0, c1]) (.cons (a4.mono b1) (.cons b4 .nil)) ?_
    intro x hx
    rcases List.mem_cons.1 hx with rfl | hx
    · exact a5
    · rw [List.mem_singleton.1 hx]
      exact b5
  · have := a6.mono (EX.append (h ++ g1) g2)
    rwa [List.append_assoc] at this

end
end Go.Proofs.Ytjdlcokhlphmhaa
