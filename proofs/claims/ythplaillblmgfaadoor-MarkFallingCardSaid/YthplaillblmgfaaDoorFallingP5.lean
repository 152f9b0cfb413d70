/-
  Part 5 of the texts behind a statement of this seat: Mk14, Mk15.
-/
import Derived.Test.YthplaillblmgfaaDoorFallingP4
namespace Go.Proofs.YthplaillblmgfaaDoor
open Go.Sim

/-- A weight put where it falls. -/
def fallIn (w : Int) (l : List Int) (k : Nat) : List Int := l.take k ++ w :: l.drop k

theorem fallIn_perm (w : Int) (l : List Int) (k : Nat) : (fallIn w l k).Perm (w :: l) := by
  unfold fallIn
  exact List.perm_middle.trans (by rw [List.take_append_drop])

theorem fallIn_falls {w : Int} {l : List Int} {k : Nat} (hp : l.Pairwise (· ≥ ·)) (h1 : ∀ x ∈ l.drop k, x < w) (h2 : ∀ x ∈ l.take k, w ≤ x) : (fallIn w l k).Pairwise (· ≥ ·) := by
  unfold fallIn
  have hp' := hp
  rw [← List.take_append_drop k l, List.pairwise_append] at hp'
  refine List.pairwise_append.2 ⟨hp'.1, List.pairwise_cons.2 ⟨fun x hx => by have := h1 x hx; omega, hp'.2.1⟩, fun a ha b hb => ?_⟩
  rcases List.mem_cons.1 hb with rfl | hb
  · exact h2 a ha
  · exact hp'.2.2 a ha b hb

theorem app_own {h0 g : Heap} {v x : Value} {xs ys : List Value} {K : Value → Heap → Prop} (own : OwnS h0.length g 3 v xs) (hex : EX h0 g) (hs : sliceCells g 1 x = some ys) (hx : lenOfSl x = some ys.length) (hl : xs.length + ys.length ≤ 1000)
    (hk : ∀ v' g', EX h0 g' → (∀ d, d < g.length → (∀ n, v ≠ sl 3 d 0 n) → g'[d]? = g[d]?) → OwnS h0.length g' 3 v' (xs ++ ys) → K v' g') : OH (iApp 3 1 8 g v x) K := by
  rcases own with ⟨rfl, rfl⟩ | ⟨i, hi, rfl, hg⟩
  · by_cases h0' : ys.length = 0
    · have : ys = [] := List.length_eq_zero_iff.1 h0'
      subst this
      refine OH_of (v := .slice none 0 0) (h := g) ?_ (hk _ _ hex (fun _ _ _ => rfl) (.inl ⟨rfl, rfl⟩))
      simp only [iApp, hs, hx]
      rw [if_pos (by rfl)]
    · refine OH_of (v := sl 3 g.length 0 ys.length) (h := g ++ [.arr 3 ys]) ?_ (hk _ _ (hex.push _) (fun d hd _ => List.getElem?_append_left hd) (.inr ⟨g.length, hex.1, by simp, by simp⟩))
      simp only [iApp, hs, hx]
      simp at hl
      rw [if_neg h0', if_pos ⟨by omega, by simp [maxLen]; omega⟩]
  · have e : xs.length = xs.length * 1 := (Nat.mul_one _).symm
    by_cases h0' : ys.length = 0
    · have : ys = [] := List.length_eq_zero_iff.1 h0'
      subst this
      refine OH_of (v := sl 3 i 0 xs.length) (h := g) ?_ (hk _ _ hex (fun _ _ _ => rfl) (.inr ⟨i, hi, by simp, by simpa using hg⟩))
      simp only [iApp, hs, hx]
      simp only [sl, hg]
      rw [if_pos ⟨trivial, trivial, e, by simp; omega, by simp [maxLen]; omega⟩, if_pos (by rfl)]
    · refine OH_of (v := sl 3 g.length 0 (xs.length + ys.length)) (h := g.set i .dead ++ [.arr 3 (xs ++ ys)]) ?_ (hk _ _ ((hex.set hi _).push _) (fun d hd hne => ?_) (.inr ⟨g.length, hex.1, by simp, by simp⟩))
      · simp only [iApp, hs, hx]
        simp only [sl, hg]
        rw [if_pos ⟨trivial, trivial, e, by omega, by simp [maxLen]; omega⟩, if_neg h0']
      · have hdi : i ≠ d := by rintro rfl; exact hne _ rfl
        rw [List.getElem?_append_left (by simpa using hd), List.getElem?_set_ne hdi]

/-- A part of a slice that this call has made. -/
theorem own_part {b : Nat} {g : Heap} {v : Value} {xs : List Value} (own : OwnS b g 3 v xs) {k : Nat} (hk : k ≤ xs.length) :
    (∃ u, iSlSl 3 1 v none (some (I k)) = some u ∧ lenOfSl u = some k ∧ sliceCells g 1 u = some (xs.take k)) ∧ ∃ u, iSlSl 3 1 v (some (I k)) none = some u ∧ lenOfSl u = some (xs.length - k) ∧ sliceCells g 1 u = some (xs.drop k) := by
  rcases own with ⟨rfl, rfl⟩ | ⟨i, _, rfl, hg⟩
  · have : k = 0 := by simpa using hk
    subst this
    exact ⟨⟨_, rfl, rfl, rfl⟩, ⟨_, rfl, rfl, rfl⟩⟩
  · refine ⟨⟨sl 3 i 0 k, slSl_hi hk, rfl, ?_⟩, ⟨sl 3 i k (xs.length - k), slSl_lo hk, rfl, ?_⟩⟩
    · simp only [sliceCells, sl]
      by_cases h0 : k = 0
      · rw [if_pos h0, h0]; simp
      · rw [if_neg h0]
        simp only [objCells, hg, Option.bind_some]
        rw [if_pos (by omega)]
        simp
    · simp only [sliceCells, sl]
      by_cases h0 : xs.length - k = 0
      · rw [if_pos h0, List.drop_eq_nil_of_le (by omega)]
      · rw [if_neg h0]
        simp only [objCells, hg, Option.bind_some]
        rw [if_pos (by omega), Nat.mul_one, List.take_of_length_le (by simp)]

theorem own_len {b : Nat} {g : Heap} {v : Value} {xs : List Value} (own : OwnS b g 3 v xs) : iLenSl v = some (I xs.length) := by
  rcases own with ⟨rfl, rfl⟩ | ⟨i, _, rfl, _⟩ <;> rfl

theorem mk0 (g : Heap) : iMkSl 3 0 [(.int .i64 (0))] g [] = some (sl 3 g.length 0 0, g ++ [.arr 3 []]) := rfl
theorem mk1 (g : Heap) (x : Int) : iMkSl 3 1 [(.int .i64 (0))] g [(0, 1, I x)] = some (sl 3 g.length 0 1, g ++ [.arr 3 [I x]]) := rfl
theorem obj0 {g : Heap} {i : Nat} (hi : g[i]? = some (.arr 3 [])) : iObj g (sl 3 i 0 0) = some (.agg #[.int .i64 3]) := by simp [iObj, idOf, sl, hi, encObj]
theorem obj1 {g : Heap} {i : Nat} {x : Int} (hi : g[i]? = some (.arr 3 [I x])) : iObj g (sl 3 i 0 1) = some (.agg #[.int .i64 3, I x]) := by simp [iObj, idOf, sl, hi, encObj, noId]

end Go.Proofs.YthplaillblmgfaaDoor


namespace Go.Proofs.YthplaillblmgfaaDoor
open Go.Sim

theorem own_ex {b : Nat} {g g' : Heap} {v : Value} {xs : List Value} (x : EX g g') (o : OwnS b g 3 v xs) : OwnS b g' 3 v xs := o.keep fun d _ hv _ => x.2 d (o.lt hv).2.1

theorem okW_perm {a b : List Int} (h : a.Perm b) (ha : okW a) : okW b := fun w hw => ha w (h.mem_iff.2 hw)

set_option maxHeartbeats 2000000 in
theorem C4 {v : Value} {ns : List Int} {by1 : Int} {h : Heap} {K : Value → Heap → Prop} (hv : INS h 58 .u16 v ns) (hns : ∀ x ∈ ns, 0 ≤ x ∧ x < 65536) (hby : 0 ≤ by1 ∧ by1 < 256) (hk : ∀ h', K (B true) h') : CallP Tryd.prog 4 [v, .int .u8 by1] h K := by
  refine f4 (C16 hv hns ?_)
  intro u h1 x1 hu0
  obtain ⟨q1, q2⟩ := wts_len ns
  have q3 := wts_ok ns
  generalize wts ns = ws at hu0 q1 q2 q3
  have hu := own_nsI hu0 (by omega)
  have hu0 := OwnS.up (b' := 0) (Nat.zero_le _) hu0
  simp only [mk0, OH_some]
  -- the end
  have fin : ∀ (vf : Value) (g : Heap) (fl : List Int), EX h1 g → OwnS h1.length g 3 vf (fl.map I) → fl.Perm ws → fl.Pairwise (· ≥ ·) → p4z20 Tryd.prog K (.int .u8 by1) u vf g := by
    intro vf g fl xg own hperm hfall
    have hfl := hperm.length_eq
    have hug := own_ex xg hu0
    have cv1 : iConv .i64 (.int .u8 by1) = some (I by1) := by rw [conv_int, wrap64 (by omega) (by omega)]
    have hmod := Int.emod_nonneg by1 (show (ws.length : Int) ≠ 0 by omega)
    have hmod2 := Int.emod_lt_of_pos by1 (show (0 : Int) < ws.length by omega)
    obtain ⟨k, hk2⟩ : ∃ k : Nat, by1 % (ws.length : Int) = k := ⟨(by1 % (ws.length : Int)).toNat, by omega⟩
    have rm : iBin .rem (I by1) (I ws.length) = some (I k) := by
      simp only [iBin, iInt]
      rw [if_pos trivial, if_neg (by omega), Int.tmod_eq_emod_of_nonneg hby.1, hk2]
    rw [q4z20]
    have hul : iLenSl u = some (I ws.length) := by have := own_len hug; rwa [List.length_map] at this
    simp only [cv1, OP_some, hul, rm, mk0, OH_some, true_and]
    have xa : EX g (g ++ [.arr 3 []]) := EX.append _ _
    have ka : (g ++ [IObj.arr 3 []])[g.length]? = some (.arr 3 []) := get_last
    generalize g ++ [IObj.arr 3 []] = ga at xa ka ⊢
    have hkl : k ≤ (ws.map I).length := by rw [List.length_map]; omega
    obtain ⟨⟨t1, _, _, _⟩, ⟨t2, e1, e2, e3⟩⟩ := own_part (own_ex xa hug) hkl
    simp only [e1, OP_some]
    refine app_own (h0 := g) (xs := []) (ys := (ws.map I).drop k) (.inr ⟨g.length, Nat.le_refl _, rfl, ka⟩) xa e3 (by rw [e2, List.length_drop]) (by simp; omega) ?_
    intro w1 gb xb _ ob
    obtain ⟨⟨t3, d1, d2, d3⟩, _⟩ := own_part (own_ex xb hug) hkl
    simp only [d1, OP_some, true_and]
    refine app_own ob xb d3 (by rw [d2, List.length_take, Nat.min_eq_left hkl]) (by simp; omega) ?_
    intro w2 gc xc _ oc
    rw [List.nil_append, ← List.map_drop, ← List.map_take, ← List.map_append] at oc
    have hpt : (ws.drop k ++ ws.take k).Perm ws := List.perm_append_comm.trans (by rw [List.take_append_drop])
    have hokf := okW_perm hperm.symm q3
    have hokt := okW_perm hpt.symm q3
    have nf := own_nsI (own_ex xc own) (by omega)
    have nt := own_nsI oc (by rw [hpt.length_eq]; omega)
    have hlt := hpt.length_eq
    generalize ws.drop k ++ ws.take k = tl at nt hpt hokt hlt
    refine C10 nf (by omega) (fun h => by omega) (fun _ hb => absurd ⟨by omega, hokf⟩ hb) (fun _ _ _ c m h2 hc x2 _ => ?_)
    simp only [ext_tuple, (trip _ _ _).1, (trip _ _ _).2.1, (trip _ _ _).2.2, OP_some]
    refine C11 (nf.mono x2) (by omega) (fun h => by omega) (fun _ hb => absurd ⟨by omega, hokf⟩ hb) (fun _ _ _ d m' h3 hd x3 _ => ?_)
    simp only [ext_tuple, (trip _ _ _).1, (trip _ _ _).2.1, (trip _ _ _).2.2, OP_some]
    refine C10 (nt.mono (x2.trans x3)) (by omega) (fun h => by omega) (fun _ hb => absurd ⟨by omega, hokt⟩ hb) (fun _ _ _ o m'' h4 ho x4 _ => ?_)
    obtain rfl := lc_falling hfall hc hd
    obtain rfl := lc_perm (hperm.trans hpt.symm) hc ho
    simp only [ext_tuple, (trip _ _ _).1, (trip _ _ _).2.1, (trip _ _ _).2.2, OP_some, bin_eql, decide_true, q4z28, q4z30, q4z32, q4z34, q4z36, q4z38, q4z40, q4z42, q4z44, GdP_tt, iPick_t]
    refine C13 ?_
    rw [q4z46]
    simp only [iPick_t, OP_some]
    exact hk _
  refine loopL (σ := Nat × Value × List Int × Heap) (fun q => [q.2.1, I q.1]) (fun q => q.2.2.2) (fun q => q.1 ≤ ws.length ∧ EX h1 q.2.2.2 ∧ OwnS h1.length q.2.2.2 3 q.2.1 (q.2.2.1.map I) ∧ q.2.2.1.Perm (ws.take q.1) ∧ q.2.2.1.Pairwise (· ≥ ·)) (fun q => ws.length - q.1)
    (0, sl 3 h1.length 0 0, [], h1 ++ [.arr 3 []]) rfl rfl ⟨Nat.zero_le _, EX.append _ _, .inr ⟨h1.length, Nat.le_refl _, rfl, get_last⟩, .refl _, .nil⟩ ?_
  rintro ⟨i, vo, fl, g⟩ ⟨hi, xg, own, hperm, hfall⟩ L hL
  simp only at hi xg own hperm hfall hL ⊢
  have hug := hu.mono xg
  have hfl := hperm.length_eq
  rw [List.length_take, Nat.min_eq_left hi] at hfl
  have hol := own_len own
  rw [List.length_map] at hol
  rw [q4z6]
  simp only [hug.len, OP_some, bin_lss, IfP_dec]
  refine ⟨fun hlt => ?_, fun hge => ?_⟩
  · have hil : i < ws.length := by omega
    obtain ⟨wb, wo, a1, a2⟩ := hug.get i hil
    simp only [hol, OP_some]
    -- where it falls
    refine loopL (σ := Nat) (fun k => [I k]) (fun _ => g) (fun k => k ≤ fl.length ∧ ∀ x ∈ fl.drop k, x < ws[i]) (fun k => k) fl.length rfl rfl ⟨Nat.le_refl _, by simp⟩ ?_
    rintro k ⟨hkl, hdr⟩ L2 hL2
    have place : (∀ x ∈ fl.take k, ws[i] ≤ x) → p4z18 Tryd.prog K (.int .u8 by1) u vo (I i) (I k) L g := by
      intro htk
      rw [q4z18]
      simp only [mk0, OH_some]
      have xa : EX g (g ++ [.arr 3 []]) := EX.append _ _
      have ka : (g ++ [IObj.arr 3 []])[g.length]? = some (.arr 3 []) := get_last
      have la : (g ++ [IObj.arr 3 []]).length = g.length + 1 := by simp
      generalize g ++ [IObj.arr 3 []] = ga at xa ka la ⊢
      simp only [obj0 ka, OP_some, true_and, a1, EX.load xa a2, a2, mk1, OH_some]
      have xb : EX ga (ga ++ [.arr 3 [I ws[i]]]) := EX.append _ _
      have kb : (ga ++ [IObj.arr 3 [I ws[i]]])[ga.length]? = some (.arr 3 [I ws[i]]) := get_last
      have lb : (ga ++ [IObj.arr 3 [I ws[i]]]).length = g.length + 2 := by simp [la]
      generalize ga ++ [IObj.arr 3 [I ws[i]]] = gb at xb kb lb ⊢
      have kab := xb.get ka
      have xab := xa.trans xb
      have hkm : k ≤ (fl.map I).length := by rw [List.length_map]; exact hkl
      obtain ⟨⟨t1, e1, e2, e3⟩, _⟩ := own_part (own_ex xab own) hkm
      simp only [obj1 kb, obj0 kab, OP_some, true_and, e1]
      refine app_own (h0 := g) (xs := []) (.inr ⟨g.length, Nat.le_refl _, rfl, kab⟩) xab e3 (by rw [e2, List.length_take, Nat.min_eq_left hkm]) (by simp; omega) ?_
      intro w1 gc xc hold oc
      have kbc : gc[ga.length]? = some (.arr 3 [I ws[i]]) := by
        rw [hold _ (by omega) (fun n hn => by have := (sl_inj hn).1; omega)]; exact kb
      simp only [EX.load xc a2, obj1 kbc, OP_some, true_and]
      refine app_own oc xc (ys := [I ws[i]]) (by simp [sliceCells, sl, objCells, kbc]) rfl (by simp; omega) ?_
      intro w2 gd xd _ od
      obtain ⟨_, ⟨t2, d1, d2, d3⟩⟩ := own_part (own_ex xd own) hkm
      simp only [d1, OP_some, true_and]
      refine app_own od xd d3 (by rw [d2, List.length_drop]) (by simp; omega) ?_
      intro w3 ge xe _ oe
      rw [q4z19]
      simp only [bin_add, OP_some, inc i (by omega), true_and]
      have hcells : [] ++ (fl.map I).take k ++ [I ws[i]] ++ (fl.map I).drop k = (fallIn ws[i] fl k).map I := by simp [fallIn]
      rw [hcells] at oe
      refine hL (i + 1, w3, fallIn ws[i] fl k, ge) ⟨by show i + 1 ≤ _; omega, xg.trans xe, OwnS.up xg.1 oe, ?_, fallIn_falls hfall hdr htk⟩ (by show ws.length - (i + 1) < ws.length - i; omega)
      show (fallIn ws[i] fl k).Perm (ws.take (i + 1))
      rw [List.take_succ_eq_append_getElem hil]
      exact (fallIn_perm _ _ _).trans ((hperm.cons _).trans (List.perm_append_comm (l₁ := [ws[i]]) (l₂ := ws.take i)))
    rw [q4z14]
    simp only [bin_gtr, OP_some]
    by_cases hk0 : 0 < k
    · have hk1 : k - 1 < fl.length := by omega
      have wk : IntKind.wrap .i64 ((k : Int) - 1) = ((k - 1 : Nat) : Int) := by rw [wrap64 (by omega) (by omega)]; omega
      obtain ⟨fb, fo, f1, f2⟩ := (own_nsI own (by omega)).get (k - 1) hk1
      simp only [decide_eq_true (show (0 : Int) < k by omega), GdP_tt, bin_sub, wk, OP_some, f1, f2, true_and, a1, a2, bin_lss, iPick_t]
      by_cases hcmp : fl[k - 1] < ws[i]
      · simp only [decide_eq_true hcmp, IfP_true, true_and]
        refine hL2 (k - 1) ⟨by omega, fun x hx => ?_⟩ (by omega)
        rw [List.drop_eq_getElem_cons hk1, show k - 1 + 1 = k by omega] at hx
        rcases List.mem_cons.1 hx with rfl | hx
        · exact hcmp
        · exact hdr x hx
      · simp only [decide_eq_false hcmp, IfP_false]
        refine place fun x hx => ?_
        obtain ⟨j, hj, rfl⟩ := List.mem_take_iff_getElem.1 hx
        have hjl : j < k := by omega
        by_cases hje : j = k - 1
        · subst hje; omega
        · have := List.pairwise_iff_getElem.1 hfall j (k - 1) (by omega) hk1 (by omega)
          omega
    · have : k = 0 := by omega
      subst this
      simp only [decide_eq_false (show ¬ (0 : Int) < ((0 : Nat) : Int) by decide), GdP_ft, true_and, iPick_f, OP_some, IfP_false]
      exact place (by simp)
  · have : i = ws.length := by omega
    subst this
    rw [List.take_length] at hperm
    exact fin vo g fl xg own hperm hfall

end Go.Proofs.YthplaillblmgfaaDoor

