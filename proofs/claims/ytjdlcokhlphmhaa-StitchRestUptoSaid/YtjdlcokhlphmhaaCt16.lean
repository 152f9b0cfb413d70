/-
  Meet is the greatest common beginning, Join the least common continuation; the law.
-/
import Derived.Test.YtjdlcokhlphmhaaCt15
namespace Go.Proofs.Ytjdlcokhlphmhaa
open Go.Sim

theorem MeetR.swap {ps : List (Int × Int)} {n : Nat} {s u m a b : List UInt8} (h : MeetR ps n s u m a b) : MeetR ps n u s m b a := ⟨⟨h.lm, h.lb, h.la, h.eb, h.ea⟩, h.ap.symm⟩

theorem meetI_end {ps : List (Int × Int)} {s u : List UInt8} : ∀ (k : Nat) {m a b : List UInt8}, a.length ≤ k → MeetI ps 6 s u m a b → ∃ m' a' b', MeetR ps 6 s u m' a' b' ∧ ∃ r, letters 6 r ∧ m' = m ++ r
  | k, m, a, b, hk, h => by
    by_cases hap : apartF (freeP ps) 6 a b
    · exact ⟨m, a, b, ⟨h, hap⟩, [], fun c hc => by simp at hc, by simp⟩
    · have : ∃ c, c < 6 ∧ first (freeP ps) (lt c) a ∧ first (freeP ps) (lt c) b := by
        apply Classical.byContradiction
        intro hno
        exact hap fun c hc h1 h2 => hno ⟨c, hc, h1, h2⟩
      obtain ⟨c, hc, ⟨i, hi⟩, ⟨j, hj⟩⟩ := this
      have hil := (firstAt_lt hi).1
      have hw := without_length hil
      match k with
      | 0 => omega
      | k + 1 =>
        obtain ⟨m', a', b', h1, r, lr, h2⟩ := meetI_end k (by omega) (h.step hc hi hj)
        refine ⟨m', a', b', h1, lt c :: r, ?_, by rw [h2]; simp⟩
        intro d hd
        rcases List.mem_cons.1 hd with rfl | hd
        · exact ⟨c, hc, rfl⟩
        · exact lr d hd

/-- What begins both begins their Meet. -/
theorem meet_greatest {ps : List (Int × Int)} {s u m a b x s1 u1 : List UInt8} (ls : letters 6 s) (lu : letters 6 u) (h : MeetR ps 6 s u m a b) (lx : letters 6 x) (ls1 : letters 6 s1) (lu1 : letters 6 u1)
    (h1 : eqv (freeP ps) 6 (x ++ s1) s) (h2 : eqv (freeP ps) 6 (x ++ u1) u) : ∃ r, letters 6 r ∧ eqv (freeP ps) 6 (x ++ r) m := by
  obtain ⟨m', a', b', hm, r, lr, rfl⟩ := meetI_end (s1.length) (Nat.le_refl _) (⟨lx, ls1, lu1, h1, h2⟩ : MeetI ps 6 s u x s1 u1)
  exact ⟨r, lr, (hm.unique ls lu h).1⟩

theorem freeP_self {n : Nat} {ps : List (Int × Int)} (ht : threadsOk n ps = true) {a : Nat} (ha : a < 6) : freeP ps (lt a) (lt a) = false := by
  unfold freeP
  rw [List.any_eq_false]
  intro p hp
  obtain ⟨_, _, _, _, h⟩ := threadsOk_good ht
  have := h p hp
  simp [hit, lt_toNat (show a < 100 by omega)]
  omega

theorem freeAll_comm {ps : List (Int × Int)} {a b : List UInt8} : freeAll (freeP ps) a b = freeAll (freeP ps) b a := by
  rw [Bool.eq_iff_iff, freeAll_iff, freeAll_iff]
  exact ⟨fun h c hc d hd => by rw [freeP_symm]; exact h d hd c hc, fun h c hc d hd => by rw [freeP_symm]; exact h d hd c hc⟩

theorem freeAll_swap {n : Nat} {ps : List (Int × Int)} {a b : List UInt8} (ht : threadsOk n ps = true) (la : letters 6 a) (h : freeAll (freeP ps) a b = true) : eqv (freeP ps) 6 (a ++ b) (b ++ a) := by
  refine eqv_comm (freeP_symm ps) fun c hc d hd => ?_
  have hf := freeAll_iff.1 h c hc d hd
  refine ⟨?_, hf⟩
  rintro rfl
  obtain ⟨x, hx, rfl⟩ := la c hc
  rw [freeP_self ht hx] at hf
  cases hf

theorem mkS1 (s : List UInt8) (h : Heap) : iMkSl 9 1 [.string ⟨#[]⟩] h [(0, 1, S s)] = some (sl 9 h.length 0 1, h ++ [.arr 9 [S s]]) := by
  simp [iMkSl, fillL, zrep, noTuple, vcells, Value.cells, setAt, S]

theorem C41 {ps : List (Int × Int)} {pv : Value} {s : List UInt8} {k : Int} {h : Heap} {K : Value → Heap → Prop} (hp : PS h pv ps) (hl : ps.length ≤ 100) (hs : s.length ≤ 1000)
    (hno : whyE k ps [s] 40 ≠ 0 → K (siV [] (whyE k ps [s] 40)) h) (hyes : whyE k ps [s] 40 = 0 → K (siV (Lst ps s) 0) h) : CallP Try.prog 41 [I k, pv, S s] h K := by
  refine callP_gcE ?_
  refine f41 ?_
  simp only [T41, mkS1, OH_some]
  have hx : EX h (h ++ [.arr 9 [S s]]) := EX.append _ _
  have hss : SS (h ++ [.arr 9 [S s]]) (sl 9 h.length 0 1) [s] := SS.sl (ls := [s]) (by simp [objCells])
  refine C56 (most := 40) (hp.mono hx) hl hss (by simp) (by simp; exact hs) (fun hw => ?_) (fun hw => ?_)
  · simp only [ext_tuple, pair0, pair1, OP_some, bin_neq, decide_eq_false hw, Bool.not_false, IfP_true]
    exact ⟨hx, Ren.si _ _, hno hw⟩
  · obtain ⟨ht, hse⟩ := whyE_ok hw
    have hy2 := hyes hw
    obtain ⟨n, rfl, hn1, hn6⟩ := threadsOk_k ht
    have hok := seamsE_ok hse
    have ls := letters_of (hok s (by simp)).2
    generalize hh1 : h ++ [.arr 9 [S s]] = h1 at *
    simp only [ext_tuple, pair0, pair1, OP_some, bin_neq, decide_true, Bool.not_true, IfP_false]
    have hth : TH (h1 ++ [.arr 138 (tcells n (cmOf ps))]) (pt h1.length 0) n (cmOf ps) := ⟨h1.length, rfl, by simp [objCells]⟩
    refine C57 (k := n) hth hn6 hs ls ?_
    rw [Lst_eq hn6 ls]
    exact ⟨hx.push _, Ren.si _ _, hy2⟩

theorem why1 {n : Nat} {ps : List (Int × Int)} {s : List UInt8} (hn : n ≤ 6) (ht : threadsOk n ps = true) (ls : letters n s) (hs : s.length ≤ 40) : whyE n ps [s] 40 = 0 :=
  whyE_zero hn ht (by intro u hu; simp at hu; rcases hu with rfl; exact ⟨ls, hs⟩)

theorem C41b {ps : List (Int × Int)} {pv : Value} {s : List UInt8} {n : Nat} {h : Heap} {K : Value → Heap → Prop} (hp : PS h pv ps) (hn : n ≤ 6) (ht : threadsOk n ps = true) (ls : letters n s) (hs : s.length ≤ 40)
    (hk : K (siV (Lst ps s) 0) h) : CallP Try.prog 41 [I n, pv, S s] h K := by
  have hl := (threadsOk_good ht).2.2.2.1
  exact C41 hp (by omega) (by omega) (fun hw => absurd (why1 hn ht ls hs) hw) fun _ => hk

theorem C15 {kk f : Int} {xv0 xv1 zv : Value} {ns0 ns1 zs : List Int} {h : Heap} {K : Value → Heap → Prop} (hk0 : 0 ≤ kk) (hk1 : kk < 256) (hx0 : NS h xv0 .u8 ns0) (hu0 : U8 ns0) (hx1 : NS h xv1 .u8 ns1) (hu1 : U8 ns1)
    (hz : NS h zv .u8 zs) (huz : U8 zs) (hk : ∀ h', K (.bool true) h') :
    CallP Try.prog 15 [.agg #[.int .u8 kk, .int .u16 f], .agg #[xv0, xv1], zv] h K := by
  refine f15 ?_
  have e1 : iBox 54 h (.agg #[.int .u8 kk, .int .u16 f]) = some (pt h.length 0, h ++ [.arr 54 [.int .u8 kk, .int .u16 f]]) := rfl
  have e2 : iLoad true 2 (h ++ [.arr 54 [.int .u8 kk, .int .u16 f]]) (pt h.length 0) = some (.agg #[.int .u8 kk, .int .u16 f]) := by simp [iLoad, objCells, iPart]
  simp only [T15, e1, OH_some]
  have x1 : EX h (h ++ [.arr 54 [.int .u8 kk, .int .u16 f]]) := EX.append _ _
  generalize hA : h ++ [IObj.arr 54 [.int .u8 kk, .int .u16 f]] = h1 at *
  have e3 : iBox 83 h1 (.agg #[xv0, xv1]) = some (pt h1.length 0, h1 ++ [.arr 83 [xv0, xv1]]) := rfl
  simp only [e3, OH_some]
  have x2 : EX h1 (h1 ++ [.arr 83 [xv0, xv1]]) := EX.append _ _
  have l0 : iLoad false 1 (h1 ++ [.arr 83 [xv0, xv1]]) (pt h1.length 0) = some xv0 := load_last rfl
  have l1 : iLoad false 1 (h1 ++ [.arr 83 [xv0, xv1]]) (pt h1.length 1) = some xv1 := load_last rfl
  generalize hB : h1 ++ [IObj.arr 83 [xv0, xv1]] = h2 at *
  rw [EX.load x2 e2]
  simp only [OP_some]
  refine C30 hk0 hk1 ?_
  intro n ps hn1 hn6 ht
  have x4 : EX h2 (h2 ++ [.arr 98 (pcells ps)]) := EX.append _ _
  obtain ⟨hg, _, _, hl30, _⟩ := threadsOk_good ht
  have hps : PS (h2 ++ [.arr 98 (pcells ps)]) (sl 98 h2.length 0 ps.length) ps := PS.sl (by simp [objCells])
  have ex : EX h (h2 ++ [.arr 98 (pcells ps)]) := (x1.trans x2).trans x4
  have l0 := EX.load x4 l0
  have l1 := EX.load x4 l1
  have hx0 := hx0.mono ex
  have hx1 := hx1.mono ex
  have hz := hz.mono ex
  simp only [ext_tuple, pair0, pair1, OP_some]
  generalize sl 98 h2.length 0 ps.length = qv at hps ⊢
  generalize h2 ++ [IObj.arr 98 (pcells ps)] = hx at hps l0 l1 hx0 hx1 hz ⊢
  have d0 : ∀ i, iAdrArr 2 1 (pt i 0) (.int .i64 0) = some (pt i 0) := fun i => rfl
  have d1 : ∀ i, iAdrArr 2 1 (pt i 0) (.int .i64 1) = some (pt i 1) := fun i => rfl
  refine C31 (most := 8) hn1 hn6 (by omega) hz huz ?_
  intro a la ha8
  simp only [d0, d1, OP_some, l0, l1, true_and]
  refine C31 (most := 12) hn1 hn6 (by omega) hx0 hu0 ?_
  intro s1 ls1 hs1
  rw [bin_addS _ _ (by simp only [maxLen]; omega)]
  simp only [OP_some, l0, l1, true_and]
  refine C31 (most := 12) hn1 hn6 (by omega) hx1 hu1 ?_
  intro t1 lt1 ht1
  rw [bin_addS _ _ (by simp only [maxLen]; omega)]
  simp only [OP_some, l0, true_and]
  refine C32e hps hg (by omega) hx0 hu0 (letters_append la lt1) (by simp; omega) ?_
  intro t lt' htl hte
  have ls := letters_append la ls1
  have hsl : (a ++ s1).length ≤ 20 := by simp; omega
  have htl : t.length ≤ 20 := by simp at htl; omega
  have ha2 : eqv (freeP ps) 6 (a ++ t1) t := hte.symm
  generalize hs0 : a ++ s1 = s at ls hsl ⊢
  have ha1 : eqv (freeP ps) 6 (a ++ s1) s := by rw [hs0]; exact eqv.refl _ _ _
  have s6 := letters_le hn6 ls
  have t6 := letters_le hn6 lt'
  refine C47b hps hn6 ht ls lt' (by omega) (by omega) ?_
  intro m y z hm
  simp only [siV, ext_tuple, pair0, pair1, OP_some]
  refine C47b hps hn6 ht lt' ls (by omega) (by omega) ?_
  intro m2 y2 z2 hm2
  have em2 := (Lst_iff hm.lm hm2.lm).1 (hm.swap.unique t6 s6 hm2).1
  obtain ⟨lm, ly, lz⟩ := hm.lettersN ls lt'
  obtain ⟨len1, len2⟩ := hm.len (Nat.le_refl 6) s6 t6
  have lm6 := Lst_letters (ps := ps) hm.lm
  have ly6 := Lst_letters (ps := ps) hm.la
  have lz6 := Lst_letters (ps := ps) hm.lb
  have em := Lst_eqv (ps := ps) hm.lm
  have eY := Lst_eqv (ps := ps) hm.la
  have eZ := Lst_eqv (ps := ps) hm.lb
  obtain ⟨r, lr, hr⟩ := meet_greatest s6 t6 hm (letters_le hn6 la) (letters_le hn6 ls1) (letters_le hn6 lt1) ha1 ha2
  have hrl := eqv_length (freeP_symm ps) (letters_append (letters_le hn6 la) lr) hm.lm hr
  simp only [List.length_append] at hrl
  simp only [siV, ext_tuple, pair0, pair1, OP_some, bin_neq, decide_true, Bool.not_true, q15z10, GdP_ff, q15z12, iPick_f, q15z14, bin_neqS, em2, q15z16, q15z18, lenS_S, bin_lss, q15z20]
  rw [← em2]
  have hlt : decide (((Lst ps m).length : Int) < (a.length : Int)) = false := decide_eq_false (by omega)
  simp only [hlt, q15z20, iPick_f, OP_some, q15z22, GdP_ff]
  refine C20 ?_
  simp only [un_not, OP_some, Bool.not_true, q15z24, iPick_f, IfP_false]
  refine C51b hps hn6 ht (Lst_lettersN hn6 lm) ls (by omega) (by omega) hm.la ((em.append (eqv.refl _ _ y)).trans hm.ea) ?_
  simp only [siV, ext_tuple, pair0, pair1, OP_some]
  refine C51b hps hn6 ht (Lst_lettersN hn6 lm) lt' (by omega) (by omega) hm.lb ((em.append (eqv.refl _ _ z)).trans hm.eb) ?_
  simp only [siV, ext_tuple, pair0, pair1, OP_some]
  refine C51b hps hn6 ht la (Lst_lettersN hn6 lm) (by omega) (by omega) lr (hr.trans em.symm) ?_
  simp only [siV, ext_tuple, pair0, pair1, OP_some, bin_neq, decide_true, Bool.not_true, q15z32, GdP_ff, q15z34, iPick_f, q15z36, q15z38, IfP_false]
  refine C47b hps hn6 ht (Lst_lettersN hn6 ly) (Lst_lettersN hn6 lz) (by omega) (by omega) ?_
  intro m3 y3 z3 hm3
  have e3 : Lst ps m3 = [] := by
    have h3 : MeetR ps 6 (Lst ps y) (Lst ps z) [] (Lst ps y) (Lst ps z) := ⟨MeetI.start ly6.1 lz6.1, hm.ap.congr hm.la hm.lb ly6.1 lz6.1 eY eZ⟩
    exact (Lst_iff hm3.lm h3.lm).1 (hm3.unique ly6.1 lz6.1 h3).1
  rw [e3]
  simp only [siV, ext_tuple, pair0, pair1, OP_some]
  refine C48b hps hn6 ht ls lt' (by omega) (by omega) ?_
  intro m4 y4 z4 hm4
  have go : ∀ (j : List UInt8) (e : Int), joinV ps m4 y4 z4 = siV j e → (e = 0 ∧ freeAll (freeP ps) y4 z4 = true ∧ j = Lst ps (m4 ++ y4 ++ z4) ∨ e = 5) →
      OP (iExt 0 (joinV ps m4 y4 z4)) fun x146 => OP (iExt 1 (joinV ps m4 y4 z4)) fun x147 => CallP Try.prog 48 [I n, qv, S t, S s] hx fun x153 h_3 =>
        OP (iExt 0 x153) fun x154 => OP (iExt 1 x153) fun x155 => OP (iBin .neq (S []) (.string ⟨#[]⟩)) fun x157 =>
        p15z46 Try.prog K (I n) qv (S s) (S t) (S (Lst ps m)) (I 0) x146 x147 x154 x155 x157 h_3 := by
    intro j e he hj
    rw [he]
    simp only [siV, ext_tuple, pair0, pair1, OP_some]
    refine C48b hps hn6 ht lt' ls (by omega) (by omega) ?_
    intro m5 y5 z5 hm5
    obtain ⟨u1, u2, u3⟩ := hm4.swap.unique t6 s6 hm5
    have ej : joinV ps m5 y5 z5 = joinV ps m4 y4 z4 := by
      unfold joinV
      rw [← freeAll_congr hm4.lb hm4.la hm5.la hm5.lb u2 u3, freeAll_comm (a := z4)]
      split
      · rename_i hf
        have : Lst ps (m5 ++ y5 ++ z5) = Lst ps (m4 ++ y4 ++ z4) := by
          refine (Lst_iff (letters_append (letters_append hm5.lm hm5.la) hm5.lb) (letters_append (letters_append hm4.lm hm4.la) hm4.lb)).1 ?_
          have h1 : eqv (freeP ps) 6 (m5 ++ y5 ++ z5) (m4 ++ z4 ++ y4) := ((u1.append u2).append u3).symm
          refine h1.trans ?_
          rw [List.append_assoc, List.append_assoc]
          exact (eqv.refl _ _ m4).append (freeAll_swap ht hm4.la hf).symm
        rw [this]
      · rfl
    rw [ej, he]
    rw [S_nil]
    simp only [siV, ext_tuple, pair0, pair1, OP_some, bin_neqS, decide_true, Bool.not_true, q15z46, GdP_ff, bin_neq, q15z48, iPick_f, q15z50, q15z52, q15z54, q15z56, q15z58]
    rcases hj with ⟨rfl, hf, rfl⟩ | rfl
    · simp only [decide_true, Bool.not_true, q15z60, GdP_ft, q15z62, GdP_ff, iPick_f, OP_some, GdP_undef, q15z64, IfP_false, bin_neq]
      have ljs := letters_append (letters_append hm4.lm hm4.la) hm4.lb
      have lj6 := Lst_letters (ps := ps) ljs
      have eJ := Lst_eqv (ps := ps) ljs
      obtain ⟨len3, len4⟩ := hm4.len (Nat.le_refl 6) s6 t6
      obtain ⟨lm4, ly4, lz4⟩ := hm4.lettersN ls lt'
      have ljn : letters n (Lst ps (m4 ++ y4 ++ z4)) := Lst_lettersN hn6 (letters_append (letters_append lm4 ly4) lz4)
      have hjl : (Lst ps (m4 ++ y4 ++ z4)).length = m4.length + y4.length + z4.length := by rw [lj6.2, List.length_append, List.length_append]
      have b1 : eqv (freeP ps) 6 (s ++ z4) (Lst ps (m4 ++ y4 ++ z4)) := (hm4.ea.symm.append (eqv.refl _ _ z4)).trans eJ.symm
      have b2 : eqv (freeP ps) 6 (t ++ y4) (Lst ps (m4 ++ y4 ++ z4)) := by
        refine (hm4.eb.symm.append (eqv.refl _ _ y4)).trans ?_
        refine eqv.trans ?_ eJ.symm
        rw [List.append_assoc, List.append_assoc]
        exact (eqv.refl _ _ m4).append (freeAll_swap ht hm4.la hf).symm
      generalize Lst ps (m4 ++ y4 ++ z4) = j at *
      refine C51b hps hn6 ht ls ljn (by omega) (by omega) hm4.lb b1 ?_
      simp only [siV, ext_tuple, pair0, pair1, OP_some]
      refine C51b hps hn6 ht lt' ljn (by omega) (by omega) hm4.la b2 ?_
      simp only [siV, ext_tuple, pair0, pair1, OP_some]
      refine C47b hps hn6 ht ls ljn (by omega) (by omega) ?_
      intro m6 y6 z6 hm6
      have e6 : Lst ps m6 = Lst ps s := by
        have h6 : MeetR ps 6 s j s [] z4 := ⟨⟨s6, fun c hc => by simp at hc, hm4.lb, by rw [List.append_nil]; exact eqv.refl _ _ _, b1⟩, fun c hc ⟨i, hi⟩ _ => by simp [firstAt] at hi⟩
        exact (Lst_iff hm6.lm s6).1 (hm6.unique s6 (letters_le hn6 ljn) h6).1
      rw [e6]
      simp only [siV, ext_tuple, pair0, pair1, OP_some]
      refine C41b hps hn6 ht ls (by omega) ?_
      have hml := hm.unique s6 t6 hm4
      have hmm := eqv_length (freeP_symm ps) hm.lm hm4.lm hml.1
      have i1 : IntKind.wrap .i64 ((s.length : Int) + (t.length : Int)) = ((s.length + t.length : Nat) : Int) := by rw [wrap64 (by omega) (by omega)]; omega
      have i2 : IntKind.wrap .i64 (((s.length + t.length : Nat) : Int) - ((Lst ps m).length : Int)) = (j.length : Int) := by rw [wrap64 (by omega) (by omega)]; omega
      simp only [siV, ext_tuple, pair0, pair1, OP_some, bin_eql, decide_true, q15z75, GdP_tt, q15z77, iPick_t, q15z79, q15z81, q15z83, q15z85, q15z87, bin_eqlS, q15z89, q15z91, lenS_S, bin_add, bin_sub, i1, i2, q15z93]
      exact hk _
    · simp only [show decide ((5 : Int) = 0) = false from rfl, Bool.not_false, q15z60, GdP_tt, bin_neq, OP_some, decide_true, Bool.not_true, q15z62, GdP_ff, iPick_t, q15z64, iPick_f, IfP_false, IfP_true]
      exact hk _
  cases hf : freeAll (freeP ps) y4 z4 with
  | true => exact go (Lst ps (m4 ++ y4 ++ z4)) 0 (by unfold joinV; rw [hf]; rfl) (.inl ⟨rfl, hf, rfl⟩)
  | false => exact go [] 5 (by unfold joinV; rw [hf]; rfl) (.inr rfl)

end Go.Proofs.Ytjdlcokhlphmhaa
