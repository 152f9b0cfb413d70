/-
  The law of the normal forms.
-/
import Derived.Test.YtjdlcokhlphmhaaCt26
import Derived.Test.YtjdlcokhlphmhaaMg5
import Derived.Test.YtjdlcokhlphmhaaSp5
namespace Go.Proofs.Ytjdlcokhlphmhaa
open Go.Sim

theorem steps_good {n : Nat} {ps : List (Int × Int)} (ht : threadsOk n ps = true) {s : List UInt8} (ls : letters 6 s) : ∀ x ∈ stepsF ps s, letters 6 x ∧ x.length ≤ 6 ∧ x.Pairwise fun a b => a.toNat < b.toNat ∧ freeP ps a b = true := by
  have hself : ∀ a, a < 6 → freeP ps (lt a) (lt a) = false := fun a ha => freeP_self ht ha
  intro x hx
  obtain ⟨g, hg, rfl⟩ := List.mem_map.1 hx
  obtain ⟨m, _, _, rfl⟩ := gsOf_mem hg
  have hl := grp_letters (fr := freeP ps) ls m
  have hf := grp_free (fr := freeP ps) (s := s) m
  have hlen := grp_len hl hself hf
  generalize grp (htsF (freeP ps) s) m = g at hl hf hlen
  have hp := srt_perm hl
  have hl' : letters 6 (srt g) := fun c hc => hl c (hp.mem_iff.1 hc)
  refine ⟨hl', by rw [hp.length_eq]; exact hlen, ?_⟩
  have hf' : (srt g).Pairwise fun a b => freeP ps a b = true := (hp.pairwise_iff (fun {a b} h => by rw [freeP_symm]; exact h)).2 hf
  have hso := srt_sorted g
  rw [List.pairwise_iff_getElem] at hf' hso ⊢
  intro i j hi hj hij
  have h1 := hso i j hi hj hij
  have h2 := hf' i j hi hj hij
  refine ⟨?_, h2⟩
  apply Classical.byContradiction
  intro hc
  have : (srt g)[i] = (srt g)[j] := UInt8.toNat_inj.1 (by omega)
  obtain ⟨a, ha, e⟩ := hl' _ (List.getElem_mem hi)
  rw [← this, e, hself a ha] at h2
  cases h2

theorem C55 {v : Value} {ls : List (List UInt8)} {h : Heap} {K : Value → Heap → Prop} (hv : SS h v ls) (hl : ls.length ≤ 1000) (hf : ls.flatten.length ≤ 1000) (hk : K (S ls.flatten) h) : CallP Try.prog 55 [v] h K := by
  refine f55 ?_
  refine loopL (σ := Nat) (fun i => [S (ls.take i).flatten, I i]) (fun _ => h) (fun i => i ≤ ls.length) (fun i => ls.length - i) 0 rfl rfl (by omega) ?_
  intro i hi L hL
  rw [q55z6]
  simp only [hv.len, OP_some, bin_lss, IfP_dec]
  refine ⟨fun hlt => ?_, fun hge => ?_⟩
  · have hil : i < ls.length := by omega
    obtain ⟨b, o, g1, g2⟩ := hv.get i hil
    have hst : (ls.take (i + 1)).flatten = (ls.take i).flatten ++ ls[i] := by
      rw [List.take_succ_eq_append_getElem hil, List.flatten_append]; simp
    have hall : ls.flatten = (ls.take (i + 1)).flatten ++ (ls.drop (i + 1)).flatten := by rw [← List.flatten_append, List.take_append_drop]
    rw [hall, hst] at hf
    simp only [List.length_append] at hf
    simp only [g1, OP_some, g2]
    rw [bin_addS _ _ (by simp only [maxLen]; omega)]
    simp only [OP_some, bin_add, inc i (by omega), true_and]
    have := hL (i + 1) (by omega) (by omega)
    rw [hst] at this
    exact this
  · have : i = ls.length := by omega
    subst this
    rw [List.take_length, q55z11]
    exact hk

theorem waysT_le (fr : UInt8 → UInt8 → Bool) (f : Nat) (s : List UInt8) {a : Nat} : ∀ {b : Nat}, a < b → waysT fr f s a ≤ waysS fr f s b
  | 0, h => by omega
  | b + 1, h => by
    rw [waysS_succ]
    by_cases hab : a = b
    · subst hab; omega
    · have := waysT_le fr f s (a := a) (b := b) (by omega); omega

theorem waysN_pos {fr : UInt8 → UInt8 → Bool} : ∀ (f : Nat) (s : List UInt8), letters 6 s → s.length = f → 1 ≤ waysN fr f s
  | 0, _, _, _ => by simp [waysN]
  | f + 1, s, ls, hs => by
    obtain ⟨a, i, _, h2, h3, h4⟩ := pick_some (fr := fr) (n := 6) (s := s) (by rintro rfl; simp at hs) ls
    have hw := without_length h3
    obtain ⟨q1, q2⟩ := leastF_letters (fr := fr) (f := f) (letters_without ls i) (by omega)
    have ih := waysN_pos (fr := fr) f _ q1 q2
    have : waysT fr f s a = waysN fr f (leastF fr 6 f (without s i)) := by unfold waysT; rw [h4]
    have := waysT_le fr f s h2
    rw [waysN_succ]
    omega

theorem bin_gtrS (a b : List UInt8) : iBin .gtr (S a) (S b) = some (B (!(Op.bytesLess a b || decide (a = b)))) := by
  simp [iBin, iStr, S, bytes]

theorem C14 {kk f : Int} {xv bv : Value} {ns ms : List Int} {h : Heap} {K : Value → Heap → Prop} (hk0 : 0 ≤ kk) (hk1 : kk < 256) (hx : NS h xv .u8 ns) (hux : U8 ns) (hb : NS h bv .u8 ms) (hub : U8 ms) (hk : ∀ h', K (.bool true) h') :
    CallP Try.prog 14 [.agg #[.int .u8 kk, .int .u16 f], xv, bv] h K := by
  refine f14 ?_
  have e1 : iBox 54 h (.agg #[.int .u8 kk, .int .u16 f]) = some (pt h.length 0, h ++ [.arr 54 [.int .u8 kk, .int .u16 f]]) := rfl
  have e2 : iLoad true 2 (h ++ [.arr 54 [.int .u8 kk, .int .u16 f]]) (pt h.length 0) = some (.agg #[.int .u8 kk, .int .u16 f]) := by simp [iLoad, objCells, iPart]
  simp only [T14, e1, OH_some, e2, OP_some]
  have x1 : EX h (h ++ [.arr 54 [.int .u8 kk, .int .u16 f]]) := EX.append _ _
  have hx := hx.mono x1
  have hb := hb.mono x1
  generalize h ++ [IObj.arr 54 [.int .u8 kk, .int .u16 f]] = hA at hx hb ⊢
  refine C30 hk0 hk1 ?_
  intro n ps hn1 hn6 ht
  have x2 : EX hA (hA ++ [.arr 98 (pcells ps)]) := EX.append _ _
  have hx := hx.mono x2
  have hb := hb.mono x2
  obtain ⟨hg, _, _, hl30, _⟩ := threadsOk_good ht
  have hps : PS (hA ++ [.arr 98 (pcells ps)]) (sl 98 hA.length 0 ps.length) ps := PS.sl (by simp [objCells])
  simp only [ext_tuple, pair0, pair1, OP_some]
  generalize sl 98 hA.length 0 ps.length = qv at hps ⊢
  generalize hA ++ [IObj.arr 98 (pcells ps)] = hB at hx hb hps ⊢
  refine C31 (most := 40) hn1 hn6 (by omega) hx hux ?_
  intro s ls hs40
  refine C32e hps hg (by omega) hb hub ls (by omega) ?_
  intro t lt' htl hte
  have ls6 := letters_le hn6 ls
  have lt6 := letters_le hn6 lt'
  have hws := why1 hn6 ht ls hs40
  have hwt := why1 hn6 ht lt' (by omega)
  have hself : ∀ a, a < 6 → freeP ps (lt a) (lt a) = false := fun a ha => freeP_self ht ha
  have eS : stepsF ps s = stepsF ps t := steps_eqv (freeP_symm ps) ls6 lt6 hte.symm
  have eL : Lst ps s = Lst ps t := (Lst_iff ls6 lt6).1 hte.symm
  refine C42 hps (by omega) (by omega) (fun h0 => absurd hws h0) fun _ v1 h3 x3 ss1 => ?_
  simp only [ext_tuple, pair0, pair1, OP_some]
  refine C42 (hps.mono x3) (by omega) (by omega) (fun h0 => absurd hwt h0) fun _ v2 h4 x4 ss2 => ?_
  simp only [ext_tuple, pair0, pair1, OP_some]
  have hps4 := hps.mono (x3.trans x4)
  have ss1 := ss1.mono x4
  rw [← eS] at ss2
  refine C41b hps4 hn6 ht ls hs40 ?_
  simp only [siV, ext_tuple, pair0, pair1, OP_some]
  refine C41b hps4 hn6 ht lt' (by omega) ?_
  simp only [siV, ext_tuple, pair0, pair1, OP_some]
  rw [← eL]
  refine C18 hps4 (by omega) (by omega) (by omega) ?_
  rw [equalV_ok (why2 hn6 ht ls lt' hs40 (by omega)), ← eL]
  simp only [decide_true, ext_tuple, pair0, pair1, OP_some]
  have hfl : eqv (freeP ps) 6 (stepsF ps s).flatten s := steps_flat hself (freeP_symm ps) ls6
  have hgood := steps_good ht ls6
  have lfl6 : letters 6 (stepsF ps s).flatten := by
    intro c hc
    obtain ⟨x, hx, hcx⟩ := List.mem_flatten.1 hc
    exact (hgood x hx).1 c hcx
  have lfl := letters_eqv lfl6 ls hfl
  have hfll := eqv_length (freeP_symm ps) lfl6 ls6 hfl
  have hsl := stepsF_length ps s
  refine C55 ss1 (by omega) (by omega) ?_
  refine C18 hps4 (by omega) (by omega) (by omega) ?_
  rw [equalV_ok (why2 hn6 ht ls lfl hs40 (by omega)), (Lst_iff lfl6 ls6).1 hfl]
  have hle : (!(Op.bytesLess (Lst ps s) s || decide (Lst ps s = s))) = false := by
    rcases least_le (fr := freeP ps) (n := 6) s.length s (by omega) ls6 rfl with h | h
    · have h' : Lst ps s = s := h
      simp [h']
    · have h' : Op.bytesLess (Lst ps s) s = true := h
      simp [h']
  simp only [decide_true, ext_tuple, pair0, pair1, OP_some, bin_neq, Bool.not_true, q14z14, GdP_ff, q14z16, iPick_f, q14z18, q14z20, q14z22, q14z24, q14z26, q14z28, q14z30, q14z32, q14z34]
  refine C44e ss1 ss2 (by omega) ?_
  simp only [un_not, OP_some, Bool.not_true, q14z36, iPick_f, q14z38, GdP_ff, bin_neqS, decide_true, q14z40, q14z42, bin_gtrS, hle, q14z44, q14z46, un_not, q14z48, q14z50, q14z52, q14z54]
  refine C20 ?_
  simp only [un_not, OP_some, Bool.not_true, q14z56, iPick_f, IfP_false]
  refine loopL (σ := Nat) (fun i => [I i]) (fun _ => h4) (fun i => i ≤ (stepsF ps s).length) (fun i => (stepsF ps s).length - i) 0 rfl rfl (by omega) ?_
  intro a ha L1 hL1
  rw [q14z61]
  simp only [ss1.len, OP_some, bin_lss, IfP_dec]
  refine ⟨fun hlt => ?_, fun hge => ?_⟩
  · have hal : a < (stepsF ps s).length := by omega
    obtain ⟨b1, o1, g1, g2⟩ := ss1.get a hal
    obtain ⟨lx, hxl, hxp⟩ := hgood _ (List.getElem_mem hal)
    generalize (stepsF ps s)[a] = x at g2 lx hxl hxp
    refine loopL (σ := Nat) (fun i => [I i]) (fun _ => h4) (fun i => i ≤ x.length) (fun i => x.length - i) 0 rfl rfl (by omega) ?_
    intro q hq L2 hL2
    rw [q14z68]
    simp only [g1, OP_some, g2, lenS_S, bin_lss, IfP_dec]
    refine ⟨fun hlt2 => ?_, fun hge2 => ?_⟩
    · have hql : q < x.length := by omega
      refine loopL (σ := Nat) (fun i => [I i]) (fun _ => h4) (fun i => i ≤ q) (fun i => q - i) 0 rfl rfl (by omega) ?_
      intro z hz L3 hL3
      rw [q14z75]
      simp only [bin_lss, OP_some, IfP_dec]
      refine ⟨fun hlt3 => ?_, fun hge3 => ?_⟩
      · have hzq : z < q := by omega
        obtain ⟨p1, p2⟩ := List.pairwise_iff_getElem.1 hxp z q (by omega) hql hzq
        simp only [g1, OP_some, g2, true_and]
        rw [idxS_S x (by omega), idxS_S x hql]
        simp only [OP_some, bin_geq]
        rw [decide_eq_false (show ¬ ((x[q].toNat : Int) ≤ (x[z]'(by omega)).toNat) by omega)]
        simp only [GdP_ff, OP_some]
        refine C33 hps4 hg (by omega) ?_
        rw [p2]
        simp only [un_not, OP_some, Bool.not_true, true_and, iPick_f, IfP_false, bin_add, inc z (by omega)]
        exact hL3 (z + 1) (by omega) (by omega)
      · simp only [q14z82, bin_add, OP_some, inc q (by omega), true_and]
        exact hL2 (q + 1) (by omega) (by omega)
    · simp only [q14z83, bin_add, OP_some, inc a (by omega), true_and]
      exact hL1 (a + 1) (by omega) (by omega)
  · rw [q14z84]
    simp only [lenS_S, OP_some, bin_gtr, IfP_dec]
    refine ⟨fun _ => hk _, fun hle10 => ?_⟩
    have h10 : s.length ≤ 10 := by omega
    have w1 : whyE n ps [s] 16 = 0 := whyE_zero hn6 ht (by intro u hu; simp at hu; rcases hu with rfl; exact ⟨ls, by omega⟩)
    have w2 : whyE n ps [t] 16 = 0 := whyE_zero hn6 ht (by intro u hu; simp at hu; rcases hu with rfl; exact ⟨lt', by omega⟩)
    have v1e : waysV n ps s = .tuple #[I (waysN (freeP ps) s.length (Lst ps s)), I 0] := by unfold waysV; rw [if_pos w1]
    have v2e : waysV n ps t = .tuple #[I (waysN (freeP ps) s.length (Lst ps s)), I 0] := by unfold waysV; rw [if_pos w2, htl, ← eL]
    refine C53 hps4 (by omega) (by omega) ?_
    rw [v1e]
    simp only [ext_tuple, pair0, pair1, OP_some]
    refine C53 hps4 (by omega) (by omega) ?_
    rw [v2e]
    obtain ⟨q1, q2⟩ := Lst_letters (ps := ps) ls6
    have hpos := waysN_pos (fr := freeP ps) s.length (Lst ps s) q1 q2
    simp only [ext_tuple, pair0, pair1, OP_some, bin_eql, decide_true, q14z92, GdP_tt, q14z94, iPick_t, q14z96, q14z98, q14z100, bin_geq, q14z102]
    rw [decide_eq_true (show (1 : Int) ≤ (waysN (freeP ps) s.length (Lst ps s) : Int) by omega)]
    exact hk _

end Go.Proofs.Ytjdlcokhlphmhaa
