/-
  The statement TopOrdersSaid, out of the contract of its law: no condition.
-/
import Derived.Test.YtipeennffbbglaaRows
import Derived.Test.YtipeennffbbglaaSim23
import Derived.Test.YtipeennffbbglaaMgm
namespace Go.Proofs.Ytipeennffbbglaa
open Go.Sim Go.ChangeShapes Go.WideShapes Go.ChangeAt Go.RowKit

theorem Try.own : ownKnob Try.prog.godebug = none := by kernel_rfl
theorem Try.laidOut : laidOutB Try.prog = true := by kernel_rfl
theorem und28 : Try.prog.underlying 28 = some (.array 3 5) := by kernel_rfl
theorem cells28 : Try.prog.cellsOf 28 = 3 := by kernel_rfl
theorem cells23 : Try.prog.cellsOf 23 = 1 := by kernel_rfl
theorem cells5 : Try.prog.cellsOf 5 = 1 := by kernel_rfl

section
variable {H : Type} {enc : TypeId × Value → H} {W : World} {ρ : RMap} {h : Heap}

theorem wf_u8 {x : Int} (h : (Lit.int .u8 x).wf = true) : 0 ≤ x ∧ x < 256 := by
  simp [Lit.wf, IntKind.min, IntKind.max, IntKind.signed, IntKind.bits] at h
  omega

theorem threes (n : Nat) (cs : List Value) (y : DataW H × List MemPlace) (hd : DataW.trod enc Try.prog W 0 (fun _ => true) true n 28 cs = some y) : cs.length = 3 ∧ ∀ c, c < 3 → ∃ a : Nat, a < 256 ∧ cs[c]? = some (.int .u8 (a : Int)) := by
  obtain ⟨xs, m, _, _, hl, hn, hel⟩ := DataW.trod_array und28 hd
  rw [cells28] at hl
  refine ⟨hl, fun c hc => ?_⟩
  have h0 := hel c (by omega)
  rw [cells5, List.getElem?_eq_getElem (by omega)] at h0
  obtain ⟨a, ea, _, wa⟩ := DataW.trod_int Try.underlying5 h0
  have wa := wf_u8 wa
  refine ⟨a.toNat, by omega, ?_⟩
  have e : ((cs.drop (c * 1)).take 1)[0]? = some (.int .u8 a) := by rw [ea]; rfl
  rw [List.getElem?_take_of_lt (by omega), List.getElem?_drop] at e
  rw [Int.toNat_of_nonneg wa.1]
  simpa using e

theorem threes_flat (n : Nat) (cs : List Value) (y : DataW H × List MemPlace) (hd : DataW.trod enc Try.prog W 0 (fun _ => true) true n 28 cs = some y) : cs.length = Try.prog.cellsOf 28 ∧ ∀ x ∈ cs, scal x = true := by
  obtain ⟨h1, h2⟩ := threes n cs y hd
  refine ⟨by rw [cells28]; exact h1, fun x hx => ?_⟩
  obtain ⟨i, hi, e⟩ := List.mem_iff_getElem.1 hx
  obtain ⟨a, _, h3⟩ := h2 i (by omega)
  rw [List.getElem?_eq_getElem hi, e] at h3
  injection h3 with h3
  rw [h3]; rfl

/-- A number among the cells. -/
def cellN (xs : List Value) (i c : Nat) : Nat := match xs[i * 3 + c]? with | some (.int _ z) => z.toNat | _ => 0

theorem emb_threes {b : Nat} {v : Value} {d : DataW H} {ps : List MemPlace} (hok : Value.okWide Try.prog W .any b 23 v) (hd : DataW.Trod enc Try.prog W 0 (fun _ => true) true 23 v d ps) (HR : HRel Try.prog ρ h W) (hro : roH h) :
    ∃ (ρ' : RMap) (g : Heap) (v' : Value) (n : Nat) (f : Nat → Nat → Nat), ρ.le ρ' ∧ HRel Try.prog ρ' (h ++ g) W ∧ roH (h ++ g) ∧ VRel ρ' v' v ∧ XS (h ++ g) v' n f := by
  simp only [Value.okWide, Try.underlying23] at hok
  obtain ⟨fuel, hf⟩ := hd
  have hv : v.cells.toList = [v] := by
    have hok' := hok
    simp only [Cell.okWide, Try.underlying23, Cell.ok] at hok'
    cases v <;> simp at hok' <;> rfl
  rw [hv] at hf
  obtain ⟨ρ', g, v', n, xs, e1, e2, e3, e4, e5, e6, e7, e8, e9⟩ := emb_slice (P := Try.prog) (W := W) (enc := enc) (ρ := ρ) (h := h) Try.underlying23 (by rw [cells28]; omega) threes_flat hf hok HR hro
  rw [cells28] at e7 e9
  refine ⟨ρ', g, v', n, cellN xs, e1, e2, e3, e4, ?_, ?_⟩
  · rcases e6 with ⟨rfl, rfl⟩ | ⟨i, rfl, _⟩ <;> rfl
  · intro i hi
    rcases e6 with ⟨rfl, rfl⟩ | ⟨id, rfl, h0⟩
    · omega
    · have hc := h0.resolve_left (by omega)
      refine ⟨id, i * 3, ?_, fun c hc3 => ?_⟩
      · have : (0 : Int) ≤ (i : Int) ∧ (i : Int) < (n : Int) := by omega
        simp [Go.Sim.sl, iAdrSl, this]
      · obtain ⟨m, y, hy⟩ := e9 i hi
        obtain ⟨a, ha, hac⟩ := (threes _ _ _ hy).2 c hc3
        rw [List.getElem?_take_of_lt hc3, List.getElem?_drop] at hac
        have e : cellN xs i c = a := by unfold cellN; rw [hac]; simp
        rw [e]
        exact ⟨by simp [iLoad, hc, iPart, hac], ha⟩

end

set_option maxRecDepth 100000 in
theorem lifted3 (os : Os) (started : os.Started) (H : Type) (enc : TypeId × Value → H) :
    ReturnsInHanded {} Try.checked os 3 .any (Rows.topOrdersSpec.pre6 enc Try.prog Try.f3 Rows.topOrdersRow.domain false) (Rows.topOrdersSpec.post enc Try.prog Try.f3 false true false false) := by
  refine returnsInHanded_of_change (C := Try.checked) Try.own started (by kernel_rfl) Try.func3
    (ChangeSpec.witness6 (enc := enc) (C := Try.checked) false ⟨#[], #[.int .u16 0, .slice none 0 0], []⟩ 8 (by kernel_rfl) (by kernel_rfl) (by kernel_rfl) (by kernel_rfl)) ?_
  intro W base args ds gs before hval0 hW _ _
  have hval : ∀ (j : Nat) t v, Try.f3.params[j]? = some t → args[j]? = some v → Value.okWide Try.prog W .any base t v := hval0
  have hW' := hW
  obtain ⟨p, q, hA0, hV, rfl, hfz, hnd⟩ := hW
  have hA : DataW.TrodAll enc Try.prog W 0 (fun _ => true) true Try.f3.params.toList args.toList ds p := hA0
  rw [Try.params3] at hA hval
  obtain ⟨v0, v1, d0, d1, p0, p1, rfl, rfl, rfl, h0, h1⟩ := trodAll_two hA
  obtain ⟨x0, rfl, rfl, rfl, wx0⟩ := open_int Try.underlying22 (hval 0 22 v0 rfl rfl) h0
  obtain ⟨ρ1, g1, u1, n1, f1, l1, H1, R1, r1, q1⟩ := emb_threes (hval 1 23 v1 rfl rfl) h1 (HRel.start _ W) roH.start
  have hc := C3 (f := x0) (K := fun v _ => v = .bool true) q1 fun _ => rfl
  rw [CallP_eq] at hc
  refine (icall_below hc (args' := #[.int .u16 x0, v1]) (.cons (.int _ _) (.cons r1 .nil)) H1 R1).mono ?_
  rintro e W' ⟨⟨v', r2, rfl, hv'⟩, hb⟩
  rw [hv'.bool_inv]
  exact ⟨_, rfl, post_law Try.laidOut hW' rfl Try.underlying4 (by kernel_rfl) (fun gs' hg => by subst hg; rfl) (by rw [Try.params3]; intro t ht; simp at ht; rcases ht with rfl | rfl <;> exact ⟨by kernel_rfl, of_decide_eq_true (by kernel_rfl)⟩) hb⟩

theorem topOrders_holds : Rows.TopOrdersSaid :=
  OpenClaim.holds_of_wide 3 Try.f3 rfl rfl rfl rfl rfl rfl rfl ⟨rfl, rfl, rfl, rfl, rfl⟩ rfl rfl rfl rfl rfl (by kernel_rfl) Try.func3 (by kernel_rfl)
    (of_decide_eq_true (by kernel_rfl)) (by unfold Func.isWrapper; first | (rw [if_pos (by decide +kernel)]; kernel_rfl) | (rw [if_neg (by decide +kernel)]; exact ⟨rfl, rfl⟩))
    (fun os started H enc _ => lifted3 os started H enc)

end Go.Proofs.Ytipeennffbbglaa
