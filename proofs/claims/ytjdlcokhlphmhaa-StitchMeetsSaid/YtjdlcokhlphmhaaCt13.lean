/-
  The law of Meet and Join.
-/
import Derived.Test.YtjdlcokhlphmhaaCt12
namespace Go.Proofs.Ytjdlcokhlphmhaa
open Go.Sim

theorem C9 {ps : List (Int × Int)} {pv : Value} {k : Int} {x y : List UInt8} {h : Heap} {K : Value → Heap → Prop} (hp : PSl h pv ps) (hk : ∀ h', K (.bool true) h') : CallP Try.prog 9 [.agg #[I k, pv], S x, S y] h K := by
  refine f9 ?_
  refine pre_threads hp ?_
  intro h2 qv qs hps hl
  simp only [ext_tuple, pair0, pair1, OP_some]
  refine C17 (n := 41) (C17 (n := 41) ?_)
  have hs : (x.take 41).length ≤ 41 := by rw [List.length_take]; omega
  have hu : (y.take 41).length ≤ 41 := by rw [List.length_take]; omega
  generalize x.take 41 = s at hs ⊢
  generalize y.take 41 = u at hu ⊢
  refine C47 hps (by omega) (by omega) (by omega) (fun hw => ?_) (fun hw => ?_)
  · simp only [siV, ext_tuple, pair0, pair1, OP_some]
    refine C48 hps (by omega) (by omega) (by omega) (fun _ => ?_) (fun hw2 => absurd hw2 hw)
    simp only [siV, ext_tuple, pair0, pair1, OP_some]
    refine pre_two hps hl hs hu ?_
    intro h3 hps3
    simp only [bin_neq, OP_some, decide_eq_false hw, Bool.not_false, IfP_true, S_nil, bin_eqlS, decide_true, q9z11, GdP_tt, bin_eql, q9z13, iPick_t, q9z15, q9z17, q9z19, q9z21, q9z23]
    refine C20 ?_
    simp only [q9z25, iPick_t, OP_some]
    exact hk _
  · intro m a b hm
    simp only [siV, ext_tuple, pair0, pair1, OP_some]
    refine C48 hps (by omega) (by omega) (by omega) (fun hw2 => absurd hw hw2) (fun _ => ?_)
    intro m2 a2 b2 hm2
    have hj : joinV qs m2 a2 b2 = if freeAll (freeP qs) a2 b2 then siV (Lst qs (m2 ++ a2 ++ b2)) 0 else siV [] 5 := rfl
    obtain ⟨ht, hse⟩ := whyE_ok hw
    obtain ⟨n, rfl, hn1, hn6⟩ := threadsOk_k ht
    have hok := seamsE_ok hse
    have ls := letters_le hn6 (letters_of (hok s (by simp)).2)
    have lu := letters_le hn6 (letters_of (hok u (by simp)).2)
    have hg := (threadsOk_good ht).1
    have go : ∀ (t : List UInt8) (e : Int), joinV qs m2 a2 b2 = siV t e → ((∃ b3, e = 0 ∧ b3 = true ∧ joinB qs m2 a2 b2 = sbV t b3) ∨ (∃ b3, e = 5 ∧ b3 = false ∧ joinB qs m2 a2 b2 = sbV t b3)) →
        OP (iExt 0 (joinV qs m2 a2 b2)) fun x41 => OP (iExt 1 (joinV qs m2 a2 b2)) fun x42 => OH (iMkSl 9 2 [(.string ⟨#[]⟩)] h2 [(0, 1, S s), (1, 1, S u)]) fun x47 h_7 =>
          CallP Try.prog 19 [I n, qv, (.int .i64 (40)), x47] h_7 fun x48 h_8 =>
          OP (iBin .neq x48 (.int .i64 (0))) fun x50 =>
          IfP x50
            (OP (iBin .eql (S (Lst qs m)) (.string ⟨#[]⟩)) fun x52 =>
            p9z11 Try.prog K (I 0) x41 x42 x48 x52 h_8)
            (CallP Try.prog 49 [qv, S s, S u] h_8 fun x74 h_9 =>
            OP (iBin .neq (S (Lst qs m)) x74) fun x75 =>
            p9z29 Try.prog K qv (S s) (S u) (I 0) x41 x42 x75 h_9) := by
      intro t e he hb
      rw [he]
      simp only [siV, ext_tuple, pair0, pair1, OP_some]
      refine pre_two hps hl hs hu ?_
      intro h3 hps3
      simp only [hw, bin_neq, OP_some, decide_true, Bool.not_true, IfP_false]
      refine C49 hps3 hg (by omega) ls lu (by omega) (by omega) ?_
      intro m3 a3 b3 hm3
      have em := (Lst_iff hm.lm hm3.lm).1 (hm.unique ls lu hm3).1
      simp only [bin_neqS, OP_some, em, decide_true, Bool.not_true, q9z29, GdP_ff, bin_neq, q9z31, iPick_f, q9z33]
      refine C20 ?_
      simp only [un_not, OP_some, Bool.not_true, q9z35, iPick_f, IfP_false]
      refine C50 hps3 hg (by omega) (by omega) (by omega) ls lu ?_
      intro m4 a4 b4 hm4
      obtain ⟨u1, u2, u3⟩ := hm2.unique ls lu hm4
      have ej : joinB qs m4 a4 b4 = joinB qs m2 a2 b2 := by
        unfold joinB
        rw [freeAll_congr hm2.la hm2.lb hm4.la hm4.lb u2 u3, (Lst_iff (letters_append (letters_append hm2.lm hm2.la) hm2.lb) (letters_append (letters_append hm4.lm hm4.la) hm4.lb)).1 ((u1.append u2).append u3)]
      rw [ej]
      rcases hb with ⟨b5, rfl, rfl, hb⟩ | ⟨b5, rfl, rfl, hb⟩
      · rw [hb]
        simp only [sbV, ext_tuple, pair0, pair1, OP_some, bin_eqlS, decide_true, q9z40, GdP_tt, bin_eql, eqb_bool, Bool.false_eq_true, if_false, beq_self_eq_true, q9z42, iPick_t, q9z44, q9z46, GdP_tf, q9z48, q9z50]
        exact hk _
      · rw [hb]
        simp only [sbV, ext_tuple, pair0, pair1, OP_some, bin_eqlS, decide_true, q9z40, GdP_tt, bin_eql, show decide ((5 : Int) = 0) = false from rfl, eqb_bool, Bool.false_eq_true, if_false, beq_self_eq_true, q9z42, iPick_t, q9z44, q9z46, GdP_ff, q9z48, iPick_f, q9z50]
        exact hk _
    cases hf : freeAll (freeP qs) a2 b2 with
    | true => exact go (Lst qs (m2 ++ a2 ++ b2)) 0 (by rw [hj, hf]; rfl) (.inl ⟨true, rfl, rfl, by unfold joinB; rw [hf]; rfl⟩)
    | false => exact go [] 5 (by rw [hj, hf]; rfl) (.inr ⟨false, rfl, rfl, by unfold joinB; rw [hf]; rfl⟩)

end Go.Proofs.Ytjdlcokhlphmhaa
