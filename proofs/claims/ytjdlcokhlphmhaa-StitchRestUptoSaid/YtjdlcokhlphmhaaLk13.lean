/-
  The statement StitchRestUptoSaid, out of the contract of its law: the numbers that come in, together, are not beyond what append bears.
-/
import Derived.Test.YtjdlcokhlphmhaaLk2
import Derived.Test.YtjdlcokhlphmhaaCt19
import Derived.JoinedCond
import Derived.OpenShut
namespace Go.Proofs.Ytjdlcokhlphmhaa
open Go.Sim Go.ChangeShapes Go.WideShapes Go.ChangeAt Go.RowKit

theorem bulk_one {H : Type} (d : DataW H) : 1 ≤ Rows.uptoBulk d := by
  cases d with
  | lit l => cases l <;> simp [Rows.uptoBulk]
  | nil => simp [Rows.uptoBulk]
  | ptr d => simp [Rows.uptoBulk]
  | slice elems spare => simp [Rows.uptoBulk]
  | agg parts => simp [Rows.uptoBulk]
  | iface t d => simp [Rows.uptoBulk]
  | map entries => simp [Rows.uptoBulk]
  | held h => simp [Rows.uptoBulk]

theorem bulk_len {H : Type} (l : List (DataW H)) : l.length ≤ Rows.uptoBulkAll l := by
  induction l with
  | nil => simp [Rows.uptoBulkAll]
  | cons x r ih => have := bulk_one x; simp only [Rows.uptoBulkAll, List.length_cons]; omega

section
variable {H : Type} {enc : TypeId × Value → H} {W : World} {ρ : RMap} {h : Heap}

set_option maxRecDepth 100000 in
theorem emb_u8i {b : Nat} {v : Value} {d : DataW H} {ps : List MemPlace} (hok : Value.okWide Try.prog W .any b 55 v) (hd : DataW.Trod enc Try.prog W 0 (fun _ => true) true 55 v d ps) (HR : HRel Try.prog ρ h W) (hro : roH h) :
    ∃ (ρ' : RMap) (g : Heap) (v' : Value) (ns : List Int), ρ.le ρ' ∧ HRel Try.prog ρ' (h ++ g) W ∧ roH (h ++ g) ∧ VRel ρ' v' v ∧ ISl (h ++ g) v' ns ∧ (∀ x ∈ ns, 0 ≤ x ∧ x < 256) ∧ ns.length ≤ Rows.uptoBulk d := by
  simp only [Value.okWide, Try.underlying55] at hok
  obtain ⟨fuel, hf⟩ := hd
  have hv : v.cells.toList = [v] := by
    have hok' := hok
    simp only [Cell.okWide, Try.underlying55, Cell.ok] at hok'
    cases v <;> simp at hok' <;> rfl
  rw [hv] at hf
  have hbulk : ∀ a n c, v = .slice a n c → n ≤ Rows.uptoBulk d := by
    intro a n c hvv
    rcases DataW.trod_slice Try.underlying55 hf with ⟨h1, _⟩ | ⟨a', len, cap, elems, rest, m, _, h1, h2, _, _, _, h3, _⟩
    · rw [hvv] at h1
      simp at h1
      omega
    · rw [hvv] at h1
      simp at h1
      have hd2 : d = .slice (elems.map (·.1)) (rest.map (·.1)) := congrArg Prod.fst h2
      rw [hd2]
      have := bulk_len (elems.map (·.1))
      simp only [List.length_map] at this
      simp only [Rows.uptoBulk]
      omega
  have hne : Try.prog.cellsOf 5 ≠ 0 := by rw [cells5]; exact Nat.succ_ne_zero 0
  obtain ⟨ρ', g, v', n, xs, e1, e2, e3, e4, e5, e6, e7, e8, e9⟩ := emb_slice Try.underlying55 hne (trod_ints_flat Try.underlying5 cells5) hf hok HR hro
  rw [cells5] at e7 e9
  obtain ⟨ns, q1, rfl, q3⟩ := ints_of Try.underlying5 e7 e9
  refine ⟨ρ', g, v', ns, e1, e2, e3, e4, ?_, fun x hx => wf_u8 (q3 x hx), ?_⟩
  · rcases e6 with ⟨rfl, h0⟩ | ⟨i, rfl, h0⟩
    · subst h0
      exact .inl ⟨rfl, List.length_eq_zero_iff.1 q1⟩
    · subst q1
      exact .inr ⟨5, i, rfl, h0.imp (fun h => List.length_eq_zero_iff.1 h) id⟩
  · rcases e6 with ⟨rfl, h0⟩ | ⟨i, rfl, h0⟩
    · omega
    · obtain ⟨r, o', c', _, _, hy, _⟩ := slice_inv e4
      rw [q1]
      exact hbulk _ _ _ hy

end

set_option maxRecDepth 100000 in
theorem lifted13 (os : Os) (started : os.Started) (H : Type) (enc : TypeId × Value → H) (F : Stop.Interp) :
    ReturnsInHanded {} Try.checked os 13 .any ((Rows.OpenSpec.upto Rows.stitchRestSpec).pre6 enc Try.prog Try.f13 Rows.stitchRestUptoRow.domain false) (((Rows.OpenSpec.upto Rows.stitchRestSpec).at F).post enc Try.prog Try.f13 false true false false) := by
  refine returnsInHanded_of_cond (C := Try.checked) (s := Rows.OpenSpec.upto Rows.stitchRestSpec) (k := Rows.uptoSmall) rfl Try.own started (by kernel_rfl) Try.func13
    (OpenSpec.witness (enc := enc) (C := Try.checked) (s := Rows.OpenSpec.upto Rows.stitchRestSpec) (k := Rows.uptoSmall) rfl false ⟨#[], #[.agg #[.int .u8 0, .int .u16 0], .slice none 0 0, .slice none 0 0], []⟩ 8 (by kernel_rfl) (by kernel_rfl) (by kernel_rfl)
      (x := ([.agg [.lit (.int .u8 0), .lit (.int .u16 0)], .nil, .nil], [], [])) (by kernel_rfl) rfl (by kernel_rfl)) ?_
  intro W base args ds gs before hval0 hW _ hk _
  have hval : ∀ (j : Nat) t v, Try.f13.params[j]? = some t → args[j]? = some v → Value.okWide Try.prog W .any base t v := hval0
  have hW' : DataW.Whole enc Try.prog Try.f13.params.toList Rows.stitchRestSpec.vars false W args.toList ds gs before := hW
  obtain ⟨p, q, hA0, hV, rfl, hfz, hnd⟩ := hW
  have hA : DataW.TrodAll enc Try.prog W 0 (fun _ => true) true Try.f13.params.toList args.toList ds p := hA0
  rw [Try.params13] at hA hval
  obtain ⟨v0, v1, v2, d0, d1, d2, p0, p1, p2, rfl, rfl, rfl, h0, h1, h2⟩ := trodAll_three hA
  obtain ⟨kk, ff, rfl, hk0, hk1⟩ := emb_cloth (hval 0 54 v0 rfl rfl) h0
  obtain ⟨ρ1, g1, u1, ns1, l1, H1, R1, r1, q1, b1, c1⟩ := emb_u8i (hval 1 55 v1 rfl rfl) h1 (HRel.start _ W) (roH.start)
  obtain ⟨ρ2, g2, u2, ns2, l2, H2, R2, r2, q2, b2, c2⟩ := emb_u8i (hval 2 55 v2 rfl rfl) h2 (H1) (R1)
  have hb : Rows.uptoBulkAll ([d0, d1, d2] ++ gs) ≤ 1048576 := of_decide_eq_true hk
  simp only [List.cons_append, List.nil_append, Rows.uptoBulkAll] at hb
  have hc := C13 (f := ff) (K := fun v _ => v = .bool true) hk0 hk1 (q1.mono (EX.append _ _)) b1 q2 b2 (by omega) fun _ => rfl
  rw [CallP_eq] at hc
  refine (icall_below hc (args' := #[.agg #[.int .u8 kk, .int .u16 ff], v1, v2]) (.cons (VRel.aggL (xs := [.int .u8 kk, .int .u16 ff]) (xs' := [.int .u8 kk, .int .u16 ff]) (.cons (.int _ _) (.cons (.int _ _) .nil)) (by intro x hx; rcases List.mem_cons.1 hx with rfl | hx; exact rfl; rw [List.mem_singleton.1 hx]; rfl)) (.cons (r1.mono l2) (.cons r2 .nil))) (H2) (R2)).mono ?_
  rintro e W' ⟨⟨v', r2, rfl, hv'⟩, hb⟩
  rw [hv'.bool_inv]
  exact ⟨_, rfl, post_law Try.laidOut hW' rfl Try.underlying4 (by kernel_rfl) (fun gs' hg => by subst hg; rfl) (by rw [Try.params13]; intro t ht; simp at ht; rcases ht with rfl | rfl <;> exact ⟨by kernel_rfl, of_decide_eq_true (by kernel_rfl)⟩) hb⟩

theorem stitchRestUpto_holds : Rows.StitchRestUptoSaid :=
  OpenClaim.holds_of_cond 13 Try.f13 rfl rfl rfl rfl rfl rfl rfl ⟨rfl, rfl, rfl, rfl, rfl⟩ rfl rfl rfl rfl rfl (by kernel_rfl) Try.func13 (by kernel_rfl)
    (of_decide_eq_true (by kernel_rfl)) (by unfold Func.isWrapper; first | (rw [if_pos (by decide +kernel)]; kernel_rfl) | (rw [if_neg (by decide +kernel)]; exact ⟨rfl, rfl⟩))
    (fun os started H enc _ F => lifted13 os started H enc F)

end Go.Proofs.Ytjdlcokhlphmhaa
