/-
  The laws' arguments, seen by the ideal machine.
-/
import Derived.Test.YtelmdbpaoifmoaaRows
import Derived.Test.YtelmdbpaoifmoaaMgd
import Derived.Test.YtelmdbpaoifmoaaLv1
namespace Go.Proofs.Ytelmdbpaoifmoaa
open Go.Sim Go.ChangeShapes Go.WideShapes Go.ChangeAt Go.RowKit

set_option maxRecDepth 100000

theorem Try.own : ownKnob Try.prog.godebug = none := by kernel_rfl
theorem Try.laidOut : laidOutB Try.prog = true := by kernel_rfl
theorem und51 : Try.prog.underlying 51 = some (.array 2 5) := by kernel_rfl
theorem cells51 : Try.prog.cellsOf 51 = 2 := by kernel_rfl
theorem cells35 : Try.prog.cellsOf 35 = 2 := by kernel_rfl
theorem cells54 : Try.prog.cellsOf 54 = 2 := by kernel_rfl
theorem cells38 : Try.prog.cellsOf 38 = 2 := by kernel_rfl
theorem cells23 : Try.prog.cellsOf 23 = 1 := by kernel_rfl
theorem cells24 : Try.prog.cellsOf 24 = 1 := by kernel_rfl
theorem cells3 : Try.prog.cellsOf 3 = 1 := by kernel_rfl
theorem cells5 : Try.prog.cellsOf 5 = 1 := by kernel_rfl
theorem cellTypes38 : Try.prog.cellTypes Try.prog.depth 38 = some [23, 24] := by kernel_rfl

/-- Pairs of bytes in memory. -/
def bcells (ps : List (Int × Int)) : List Value := ps.flatMap fun p => [.int .u8 p.1, .int .u8 p.2]
def byte2 (ps : List (Int × Int)) : Prop := ∀ p ∈ ps, (0 ≤ p.1 ∧ p.1 < 256) ∧ 0 ≤ p.2 ∧ p.2 < 256

section
variable {H : Type} {enc : TypeId × Value → H} {W : World} {ρ : RMap} {h : Heap}

theorem wf_u8 {x : Int} (h : (Lit.int .u8 x).wf = true) : 0 ≤ x ∧ x < 256 := by
  simp [Lit.wf, IntKind.min, IntKind.max, IntKind.signed, IntKind.bits] at h
  omega

theorem cells_agg_two {cs : Array Value} {a b : Value} (h : cs.toList = [a, b]) : cs = #[a, b] := by
  apply Array.ext'
  simpa using h

theorem list_two {α : Type} {l : List α} (h : l.length = 2) : ∃ a b, l = [a, b] := by
  match l, h with
  | [a, b], _ => exact ⟨a, b, rfl⟩

theorem pairs_of : ∀ {n : Nat} {xs : List Value}, xs.length = n * 2 → (∀ i, i < n → ∃ a b, (xs.drop (i * 2)).take 2 = [I a, I b]) → ∃ ps : List (Int × Int), ps.length = n ∧ xs = pcells ps
  | 0, xs, hl, _ => ⟨[], rfl, by simpa [pcells] using hl⟩
  | n + 1, xs, hl, hp => by
    obtain ⟨a, b, hab⟩ := hp 0 (by omega)
    match xs, hl with
    | x :: y :: xs, hl =>
      simp at hab
      obtain ⟨rfl, rfl⟩ := hab
      obtain ⟨ps, h1, h2⟩ := pairs_of (n := n) (xs := xs) (by simp at hl; omega) fun i hi => by
        have := hp (i + 1) (by omega)
        rw [show (i + 1) * 2 = i * 2 + 1 + 1 by omega] at this
        simpa using this
      exact ⟨(a, b) :: ps, by simp [h1], by simp [pcells, h2]⟩

theorem bytes_of : ∀ {n : Nat} {xs : List Value}, xs.length = n * 2 → (∀ i, i < n → ∃ a b : Int, (xs.drop (i * 2)).take 2 = [.int .u8 a, .int .u8 b] ∧ (0 ≤ a ∧ a < 256) ∧ 0 ≤ b ∧ b < 256) → ∃ ps : List (Int × Int), ps.length = n ∧ xs = bcells ps ∧ byte2 ps
  | 0, xs, hl, _ => ⟨[], rfl, by simpa [bcells] using hl, fun p hp => by simp at hp⟩
  | n + 1, xs, hl, hp => by
    obtain ⟨a, b, hab, wa⟩ := hp 0 (by omega)
    match xs, hl with
    | x :: y :: xs, hl =>
      simp at hab
      obtain ⟨rfl, rfl⟩ := hab
      obtain ⟨ps, h1, h2, h3⟩ := bytes_of (n := n) (xs := xs) (by simp at hl; omega) fun i hi => by
        have := hp (i + 1) (by omega)
        rw [show (i + 1) * 2 = i * 2 + 1 + 1 by omega] at this
        simpa using this
      exact ⟨(a, b) :: ps, by simp [h1], by simp [bcells, h2], fun p hp => by rcases List.mem_cons.1 hp with rfl | hp; exact wa; exact h3 p hp⟩

theorem job_inv {n : Nat} {cs : List Value} {y : DataW H × List MemPlace} (hd : DataW.trod enc Try.prog W 0 (fun _ => true) true n 35 cs = some y) : ∃ a b, cs = [I a, I b] := by
  obtain ⟨y0, y1, m, _, hl, h0, h1⟩ := trod_struct2 Try.underlying35 hd
  simp only [cells35, cells3] at hl h0 h1
  obtain ⟨a, ha, _, _⟩ := DataW.trod_int Try.underlying3 h0
  obtain ⟨b, hb, _, _⟩ := DataW.trod_int Try.underlying3 h1
  match cs, hl with
  | [c0, c1], _ =>
    simp at ha hb
    exact ⟨a, b, by rw [ha, hb]⟩

theorem pair_inv {n : Nat} {cs : List Value} {y : DataW H × List MemPlace} (hd : DataW.trod enc Try.prog W 0 (fun _ => true) true n 54 cs = some y) : ∃ a b, cs = [I a, I b] := by
  obtain ⟨y0, y1, m, _, hl, h0, h1⟩ := trod_struct2 Try.underlying54 hd
  simp only [cells54, cells3] at hl h0 h1
  obtain ⟨a, ha, _, _⟩ := DataW.trod_int Try.underlying3 h0
  obtain ⟨b, hb, _, _⟩ := DataW.trod_int Try.underlying3 h1
  match cs, hl with
  | [c0, c1], _ =>
    simp at ha hb
    exact ⟨a, b, by rw [ha, hb]⟩

theorem two_inv {n : Nat} {cs : List Value} {y : DataW H × List MemPlace} (hd : DataW.trod enc Try.prog W 0 (fun _ => true) true n 51 cs = some y) : ∃ a b : Int, cs = [.int .u8 a, .int .u8 b] ∧ (0 ≤ a ∧ a < 256) ∧ 0 ≤ b ∧ b < 256 := by
  obtain ⟨xs, m, _, _, hl, hn, hel⟩ := DataW.trod_array und51 hd
  rw [cells51] at hl
  obtain ⟨c0, c1, rfl⟩ := list_two hl
  have h0 := hel 0 (by omega)
  have h1 := hel 1 (by omega)
  rw [cells5] at h0 h1
  obtain ⟨y0, y1, rfl⟩ := list_two hn
  simp at h0 h1
  obtain ⟨a, e0, _, w0⟩ := DataW.trod_int Try.underlying5 h0
  obtain ⟨b, e1, _, w1⟩ := DataW.trod_int Try.underlying5 h1
  simp at e0 e1
  subst e0
  subst e1
  exact ⟨a, b, rfl, wf_u8 w0, wf_u8 w1⟩

theorem job_flat (n : Nat) (cs : List Value) (y : DataW H × List MemPlace) (hd : DataW.trod enc Try.prog W 0 (fun _ => true) true n 35 cs = some y) : cs.length = Try.prog.cellsOf 35 ∧ ∀ x ∈ cs, scal x = true := by
  obtain ⟨a, b, rfl⟩ := job_inv hd
  exact ⟨by rw [cells35]; rfl, by simp [scal]⟩
theorem pair_flat (n : Nat) (cs : List Value) (y : DataW H × List MemPlace) (hd : DataW.trod enc Try.prog W 0 (fun _ => true) true n 54 cs = some y) : cs.length = Try.prog.cellsOf 54 ∧ ∀ x ∈ cs, scal x = true := by
  obtain ⟨a, b, rfl⟩ := pair_inv hd
  exact ⟨by rw [cells54]; rfl, by simp [scal]⟩
theorem two_flat (n : Nat) (cs : List Value) (y : DataW H × List MemPlace) (hd : DataW.trod enc Try.prog W 0 (fun _ => true) true n 51 cs = some y) : cs.length = Try.prog.cellsOf 51 ∧ ∀ x ∈ cs, scal x = true := by
  obtain ⟨a, b, rfl, _⟩ := two_inv hd
  exact ⟨by rw [cells51]; rfl, by simp [scal]⟩

theorem emb_jobs {b fuel : Nat} {v : Value} {x : DataW H × List MemPlace} (hok : Cell.okWide Try.prog W .any b 23 v) (hd : DataW.trod enc Try.prog W 0 (fun _ => true) true fuel 23 [v] = some x) (HR : HRel Try.prog ρ h W) (hro : roH h) :
    ∃ (ρ' : RMap) (g : Heap) (v' : Value) (js : List (Int × Int)), ρ.le ρ' ∧ HRel Try.prog ρ' (h ++ g) W ∧ roH (h ++ g) ∧ VRel ρ' v' v ∧ isCell v' = true ∧ IPS (h ++ g) 35 v' js := by
  obtain ⟨ρ', g, v', n, xs, e1, e2, e3, e4, e5, e6, e7, e8, e9⟩ := emb_slice (P := Try.prog) (W := W) (enc := enc) (ρ := ρ) (h := h) Try.underlying23 (by rw [cells35]; omega) job_flat hd hok HR hro
  rw [cells35] at e7 e9
  obtain ⟨js, q1, rfl⟩ := pairs_of e7 fun i hi => by obtain ⟨m, y, hy⟩ := e9 i hi; exact job_inv hy
  subst q1
  exact ⟨ρ', g, v', js, e1, e2, e3, e4, e5, e7, e6⟩

theorem emb_pairs {b fuel : Nat} {v : Value} {x : DataW H × List MemPlace} (hok : Cell.okWide Try.prog W .any b 24 v) (hd : DataW.trod enc Try.prog W 0 (fun _ => true) true fuel 24 [v] = some x) (HR : HRel Try.prog ρ h W) (hro : roH h) :
    ∃ (ρ' : RMap) (g : Heap) (v' : Value) (js : List (Int × Int)), ρ.le ρ' ∧ HRel Try.prog ρ' (h ++ g) W ∧ roH (h ++ g) ∧ VRel ρ' v' v ∧ isCell v' = true ∧ IPS (h ++ g) 54 v' js := by
  obtain ⟨ρ', g, v', n, xs, e1, e2, e3, e4, e5, e6, e7, e8, e9⟩ := emb_slice (P := Try.prog) (W := W) (enc := enc) (ρ := ρ) (h := h) Try.underlying24 (by rw [cells54]; omega) pair_flat hd hok HR hro
  rw [cells54] at e7 e9
  obtain ⟨js, q1, rfl⟩ := pairs_of e7 fun i hi => by obtain ⟨m, y, hy⟩ := e9 i hi; exact pair_inv hy
  subst q1
  exact ⟨ρ', g, v', js, e1, e2, e3, e4, e5, e7, e6⟩

/-- Jobs and pairs that came in. -/
theorem emb_shop {b : Nat} {v : Value} {d : DataW H} {ps : List MemPlace} (hok : Value.okWide Try.prog W .any b 38 v) (hd : DataW.Trod enc Try.prog W 0 (fun _ => true) true 38 v d ps) (HR : HRel Try.prog ρ h W) (hro : roH h) :
    ∃ (ρ' : RMap) (g : Heap) (vj vp : Value) (js qs : List (Int × Int)), ρ.le ρ' ∧ HRel Try.prog ρ' (h ++ g) W ∧ roH (h ++ g) ∧ VRel ρ' (.agg #[vj, vp]) v ∧ IPS (h ++ g) 35 vj js ∧ IPS (h ++ g) 54 vp qs := by
  simp only [Value.okWide, Try.underlying38] at hok
  obtain ⟨cs, rfl, hsz, ts, hts, _, hcells⟩ := hok
  rw [cellTypes38] at hts
  obtain rfl := (Option.some.inj hts).symm
  obtain ⟨fuel, hf⟩ := hd
  simp only [Value.cells] at hf
  obtain ⟨y0, y1, m, _, hl, h0, h1⟩ := trod_struct2 Try.underlying38 hf
  simp only [cells38, cells23, cells24] at hl h0 h1
  obtain ⟨c0, c1, hcs⟩ : ∃ c0 c1, cs.toList = [c0, c1] := list_two (by simpa using hl)
  rw [hcs] at h0 h1
  simp at h0 h1
  obtain rfl := cells_agg_two hcs
  obtain ⟨u0, hu0, hc0⟩ := hcells 0 c0 rfl
  simp at hu0
  subst hu0
  obtain ⟨u1, hu1, hc1⟩ := hcells 1 c1 rfl
  simp at hu1
  subst hu1
  obtain ⟨ρ1, g1, v0, ns0, a1, a2, a3, a4, a5, a6⟩ := emb_jobs hc0 h0 HR hro
  obtain ⟨ρ2, g2, v1, ns1, b1, b2, b3, b4, b5, b6⟩ := emb_pairs hc1 h1 a2 a3
  rw [List.append_assoc] at b2 b3 b6
  refine ⟨ρ2, g1 ++ g2, v0, v1, ns0, ns1, fun i r hi => b1 i r (a1 i r hi), b2, b3, ?_, ?_, b6⟩
  · refine VRel.aggL (ρ := ρ2) (xs := [v0, v1]) (xs' := [c0, c1]) (.cons (a4.mono b1) (.cons b4 .nil)) ?_
    intro x hx
    rcases List.mem_cons.1 hx with rfl | hx
    · exact a5
    · rw [List.mem_singleton.1 hx]
      exact b5
  · have : IPS ((h ++ g1) ++ g2) 35 v0 ns0 := IS.mono (EX.append (h ++ g1) g2) a6
    rwa [List.append_assoc] at this

theorem slice_one {b : Nat} {t : TypeId} {e : TypeId} {v : Value} (ht : Try.prog.underlying t = some (.slice e)) (hok : Cell.okWide Try.prog W .any b t v) : v.cells.toList = [v] := by
  simp only [Cell.okWide, ht, Cell.ok] at hok
  cases v <;> simp at hok <;> rfl

/-- Numbers that came in. -/
theorem emb_list {b : Nat} {v : Value} {d : DataW H} {ps : List MemPlace} (hok : Value.okWide Try.prog W .any b 27 v) (hd : DataW.Trod enc Try.prog W 0 (fun _ => true) true 27 v d ps) (HR : HRel Try.prog ρ h W) (hro : roH h) :
    ∃ (ρ' : RMap) (g : Heap) (v' : Value) (ns : List Int), ρ.le ρ' ∧ HRel Try.prog ρ' (h ++ g) W ∧ roH (h ++ g) ∧ VRel ρ' v' v ∧ INS (h ++ g) 3 .i64 v' ns := by
  simp only [Value.okWide, Try.underlying27] at hok
  obtain ⟨fuel, hf⟩ := hd
  rw [slice_one Try.underlying27 hok] at hf
  obtain ⟨ρ', g, v', n, xs, e1, e2, e3, e4, e5, e6, e7, e8, e9⟩ := emb_slice (P := Try.prog) (W := W) (enc := enc) (ρ := ρ) (h := h) Try.underlying27 (by rw [cells3]; omega) (trod_ints_flat Try.underlying3 cells3) hf hok HR hro
  rw [cells3] at e7 e9
  obtain ⟨ns, q1, rfl, q3⟩ := ints_of Try.underlying3 e7 e9
  subst q1
  exact ⟨ρ', g, v', ns, e1, e2, e3, e4, e7, e6⟩

/-- Pairs of bytes that came in. -/
theorem emb_twos {b : Nat} {v : Value} {d : DataW H} {ps : List MemPlace} (hok : Value.okWide Try.prog W .any b 22 v) (hd : DataW.Trod enc Try.prog W 0 (fun _ => true) true 22 v d ps) (HR : HRel Try.prog ρ h W) (hro : roH h) :
    ∃ (ρ' : RMap) (g : Heap) (v' : Value) (bs : List (Int × Int)), ρ.le ρ' ∧ HRel Try.prog ρ' (h ++ g) W ∧ roH (h ++ g) ∧ VRel ρ' v' v ∧ IS (h ++ g) 51 2 v' (bcells bs) bs.length ∧ byte2 bs := by
  simp only [Value.okWide, Try.underlying22] at hok
  obtain ⟨fuel, hf⟩ := hd
  rw [slice_one Try.underlying22 hok] at hf
  obtain ⟨ρ', g, v', n, xs, e1, e2, e3, e4, e5, e6, e7, e8, e9⟩ := emb_slice (P := Try.prog) (W := W) (enc := enc) (ρ := ρ) (h := h) Try.underlying22 (by rw [cells51]; omega) two_flat hf hok HR hro
  rw [cells51] at e7 e9
  obtain ⟨js, q1, rfl, q3⟩ := bytes_of e7 fun i hi => by obtain ⟨m, y, hy⟩ := e9 i hi; exact two_inv hy
  subst q1
  exact ⟨ρ', g, v', js, e1, e2, e3, e4, ⟨e7, e6⟩, q3⟩

/-- Two bytes that came in. -/
theorem emb_two {b : Nat} {v : Value} {d : DataW H} {ps : List MemPlace} (hok : Value.okWide Try.prog W .any b 51 v) (hd : DataW.Trod enc Try.prog W 0 (fun _ => true) true 51 v d ps) :
    ∃ a0 a1 : Int, v = .agg #[.int .u8 a0, .int .u8 a1] ∧ (0 ≤ a0 ∧ a0 < 256) ∧ (0 ≤ a1 ∧ a1 < 256) := by
  simp only [Value.okWide, und51] at hok
  obtain ⟨cs, rfl, _⟩ := hok
  obtain ⟨fuel, hf⟩ := hd
  simp only [Value.cells] at hf
  obtain ⟨a, b, e, wa, wb⟩ := two_inv hf
  exact ⟨a, b, by rw [cells_agg_two e], wa, wb⟩
end

end Go.Proofs.Ytelmdbpaoifmoaa
