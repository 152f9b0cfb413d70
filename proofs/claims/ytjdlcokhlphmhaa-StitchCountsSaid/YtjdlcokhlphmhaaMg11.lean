/-
  The document's sets of letters that commute, and which step may follow.
-/
import Derived.Test.YtjdlcokhlphmhaaMg7
import Derived.Test.YtjdlcokhlphmhaaMg9
import Derived.Test.YtjdlcokhlphmhaaCtW
import Derived.Test.YtjdlcokhlphmhaaSh11
import Derived.Test.YtjdlcokhlphmhaaMg10
namespace Go.Proofs.Ytjdlcokhlphmhaa
open Go.Sim

/-- Which letters commute, by their numbers. -/
def comP (ps : List (Int × Int)) (a b : Nat) : Bool := a != b && freeP ps (lt a) (lt b)

theorem comP_sym (ps : List (Int × Int)) (a b : Nat) : comP ps a b = comP ps b a := by
  have h1 : freeP ps (lt a) (lt b) = freeP ps (lt b) (lt a) := by
    unfold freeP
    refine any_congr' fun p _ => ?_
    unfold hit
    rw [Bool.or_comm]
  unfold comP
  rw [h1]
  have : (a != b) = (b != a) := by
    by_cases h : a = b
    · subst h; rfl
    · have : ¬ b = a := fun hc => h hc.symm
      have e1 : (a != b) = true := by simp [h]
      have e2 : (b != a) = true := by simp [this]
      rw [e1, e2]
  rw [this]
theorem comP_irr (ps : List (Int × Int)) (a : Nat) : comP ps a a = false := by simp [comP]

/-- A set as it is written. -/
def strS (s : List Nat) : List UInt8 := (s.map lt).reverse
theorem strS_cons (x : Nat) (s : List Nat) : strS (x :: s) = strS s ++ [lt x] := by simp [strS]
theorem strS_len (s : List Nat) : (strS s).length = s.length := by simp [strS]

def followsStr (fr : UInt8 → UInt8 → Bool) (step next : List UInt8) : Bool := next.all fun y => step.any fun x => !fr x y

theorem C73 {ps : List (Int × Int)} {pv : Value} {s t : List UInt8} {h : Heap} {K : Value → Heap → Prop} (hp : PS h pv ps) (hg : good ps) (hl : ps.length ≤ 100) (hs : s.length ≤ 1000) (ht : t.length ≤ 1000)
    (hk : K (B (followsStr (freeP ps) s t)) h) : CallP Try.prog 73 [pv, S s, S t] h K := by
  refine f73 ?_
  unfold T73
  refine loopL (σ := Nat) (fun j => [I j]) (fun _ => h) (fun j => j ≤ t.length ∧ followsStr (freeP ps) s t = followsStr (freeP ps) s (t.drop j)) (fun j => t.length - j) 0 rfl rfl ⟨Nat.zero_le _, rfl⟩ ?_
  rintro j ⟨hj, hf⟩ L hL
  rw [q73z5]
  simp only [lenS_S, OP_some, bin_lss, IfP_dec]
  refine ⟨fun hlt => ?_, fun hge => ?_⟩
  · have hjt : j < t.length := by omega
    have hf2 : followsStr (freeP ps) s (t.drop j) = ((s.any fun x => !freeP ps x t[j]) && followsStr (freeP ps) s (t.drop (j + 1))) := by
      rw [List.drop_eq_getElem_cons hjt]; rfl
    refine loopL (σ := Nat) (fun i => [B ((s.take i).any fun x => !freeP ps x t[j]), I i]) (fun _ => h) (fun i => i ≤ s.length) (fun i => s.length - i) 0 (by simp) rfl (Nat.zero_le _) ?_
    intro i hi L2 hL2
    rw [q73z14]
    simp only [lenS_S, OP_some, bin_lss, IfP_dec]
    refine ⟨fun hlt2 => ?_, fun hge2 => ?_⟩
    · have his : i < s.length := by omega
      have next := hL2 (i + 1) (by show i + 1 ≤ s.length; omega) (by show s.length - (i + 1) < s.length - i; omega)
      have ha : (s.take (i + 1)).any (fun x => !freeP ps x t[j]) = (((s.take i).any fun x => !freeP ps x t[j]) || !freeP ps s[i] t[j]) := by
        rw [List.take_succ_eq_append_getElem his, List.any_append]; simp
      simp only [ha] at next
      cases hq : (s.take i).any fun x => !freeP ps x t[j] with
      | true =>
        rw [hq] at next
        simp only [GdP_tf, iPick_t, OP_some, bin_add, inc i (by omega), true_and]
        simpa using next
      | false =>
        rw [hq] at next
        simp only [GdP_ff, idxS_S s his, idxS_S t hjt, OP_some]
        refine C33 hp hg hl ?_
        simp only [un_not, OP_some, iPick_f, bin_add, inc i (by omega), true_and]
        simpa using next
    · have hie : i = s.length := by omega
      subst hie
      rw [List.take_length, q73z19]
      simp only [un_not, OP_some]
      cases hq : s.any fun x => !freeP ps x t[j] with
      | true =>
        rw [hq, Bool.true_and] at hf2
        simp only [Bool.not_true, IfP_false, q73z22, bin_add, OP_some, inc j (by omega), true_and]
        exact hL (j + 1) ⟨by omega, by rw [hf, hf2]⟩ (by omega)
      | false =>
        rw [hq, Bool.false_and] at hf2
        simp only [Bool.not_false, IfP_true]
        rw [hf, hf2] at hk
        exact hk
  · have hje : j = t.length := by omega
    subst hje
    have : followsStr (freeP ps) s (t.drop t.length) = true := by simp [followsStr]
    rw [hf, this] at hk
    exact hk

theorem ssOwn {b : Nat} {hx : Heap} {v : Value} {ls : List (List UInt8)} (o : OwnS b hx 9 v (ls.map S)) : SS hx v ls := by
  rcases o with ⟨rfl, h2⟩ | ⟨i, _, rfl, h3⟩
  · have : ls = [] := by simpa using h2
    subst this
    exact ⟨rfl, fun k hk => by simp at hk⟩
  · rw [List.length_map]
    exact SS.sl (by simp [objCells, h3])

theorem setsL_count (com : Nat → Nat → Bool) : ∀ n, (setsL com n).length ≤ 2 ^ n ∧ 1 ≤ (setsL com n).length
  | 0 => by simp [setsL]
  | n + 1 => by
    obtain ⟨h1, h2⟩ := setsL_count com n
    have h3 := List.length_filter_le (perp com n) (setsL com n)
    simp only [setsL, List.length_append, List.length_map, Nat.pow_succ]
    omega

theorem setsL_lt (com : Nat → Nat → Bool) : ∀ (n : Nat) (s : List Nat), s ∈ setsL com n → ∀ a ∈ s, a < n
  | 0, s, h => by simp [setsL] at h; subst h; intro a ha; simp at ha
  | n + 1, s, h => by
    intro a ha
    simp only [setsL, List.mem_append, List.mem_map, List.mem_filter] at h
    rcases h with h | ⟨v, ⟨h, _⟩, rfl⟩
    · have := setsL_lt com n s h a ha; omega
    · rcases List.mem_cons.1 ha with rfl | ha
      · omega
      · have := setsL_lt com n v h a ha; omega

theorem perp_str (ps : List (Int × Int)) {n : Nat} {s : List Nat} (hs : ∀ a ∈ s, a < n) : (strS s).all (fun c => freeP ps c (lt n)) = perp (comP ps) n s := by
  unfold strS perp
  rw [List.all_reverse, List.all_map]
  rw [Bool.eq_iff_iff, List.all_eq_true, List.all_eq_true]
  have e : ∀ a, a ∈ s → (((fun c => freeP ps c (lt n)) ∘ lt) a = comP ps n a) := by
    intro a ha
    have := hs a ha
    rw [comP_sym]
    have hne : (a != n) = true := by simp; omega
    simp [comP, hne]
  exact ⟨fun h a ha => by rw [← e a ha]; exact h a ha, fun h a ha => by rw [e a ha]; exact h a ha⟩

theorem mkS1' (s : List UInt8) (h : Heap) : iMkSl 9 1 [.string ⟨#[]⟩] h [(0, 1, S s)] = some (sl 9 h.length 0 1, h ++ [.arr 9 [S s]]) := by
  simp [iMkSl, fillL, zrep, noTuple, vcells, Value.cells, setAt, S]

theorem C71 {ps : List (Int × Int)} {pv : Value} {n : Nat} {h : Heap} {K : Value → Heap → Prop} (hp : PS h pv ps) (hg : good ps) (hl : ps.length ≤ 100) (hn : n ≤ 6)
    (hk : ∀ v h', EX h h' → SS h' v ((setsL (comP ps) n).map strS) → K v h') : CallP Try.prog 71 [I n, pv] h K := by
  refine f71 ?_
  have e0 : iMkSl 9 1 [.string ⟨#[]⟩] h [(0, 1, .string ⟨#[]⟩)] = some (sl 9 h.length 0 1, h ++ [.arr 9 [S []]]) := mkS1' [] h
  simp only [T71, e0, OH_some]
  refine loopL (σ := Nat × Value × Heap) (fun p => [p.2.1, cv (lt p.1)]) (fun p => p.2.2) (fun p => p.1 ≤ n ∧ EX h p.2.2 ∧ OwnS h.length p.2.2 9 p.2.1 (((setsL (comP ps) p.1).map strS).map S)) (fun p => n - p.1)
    (0, sl 9 h.length 0 1, h ++ [.arr 9 [S []]]) rfl rfl ⟨Nat.zero_le _, EX.append _ _, .inr ⟨h.length, Nat.le_refl _, rfl, by simp [setsL, strS]⟩⟩ ?_
  rintro ⟨x, ov, g⟩ ⟨hx, xg, hown⟩ L hL
  simp only at hx xg hown hL ⊢
  have hx100 : x < 100 := by omega
  have ecv := cv_lt hx100
  obtain ⟨c1, c2⟩ := setsL_count (comP ps) x
  have h2n : 2 ^ x ≤ 64 := Nat.le_trans (Nat.pow_le_pow_right (by decide) (show x ≤ 6 by omega)) (by decide)
  rw [q71z6, ecv]
  simp only [bin_sub, OP_some]
  rw [wrapU8 (by omega) (by omega), show ((97 + x : Nat) : Int) - 97 = (x : Int) by omega]
  simp only [conv_int, OP_some]
  rw [wrap64 (by omega) (by omega)]
  simp only [bin_lss, OP_some, IfP_dec]
  refine ⟨fun hlt => ?_, fun hge => ?_⟩
  · have hxn : x < n := by omega
    simp only [(ssOwn hown).len, List.length_map, OP_some]
    rw [← ecv]
    refine loopL (σ := Nat × Value × Heap) (fun p => [p.2.1, I p.1]) (fun p => p.2.2) (fun p => p.1 ≤ (setsL (comP ps) x).length ∧ EX h p.2.2 ∧ OwnS h.length p.2.2 9 p.2.1 (((setsL (comP ps) x ++ (((setsL (comP ps) x).take p.1).filter (perp (comP ps) x)).map (x :: ·)).map strS).map S)) (fun p => (setsL (comP ps) x).length - p.1)
      (0, ov, g) rfl rfl ⟨Nat.zero_le _, xg, by simpa using hown⟩ ?_
    rintro ⟨i, ow, g2⟩ ⟨hi, xg2, hown2⟩ L2 hL2
    simp only at hi xg2 hown2 hL2 ⊢
    have hfl : ((((setsL (comP ps) x).take i).filter (perp (comP ps) x)).map (x :: ·)).length ≤ i := by
      rw [List.length_map]
      refine Nat.le_trans (List.length_filter_le _ _) ?_
      rw [List.length_take]; omega
    rw [q71z13]
    simp only [bin_lss, OP_some, IfP_dec]
    refine ⟨fun hlt2 => ?_, fun hge2 => ?_⟩
    · have hix : i < (setsL (comP ps) x).length := by omega
      have hss := ssOwn hown2
      have hmem := setsL_lt (comP ps) x _ (List.getElem_mem hix)
      have hslen := setsL_len (comP ps) x _ (List.getElem_mem hix)
      obtain ⟨a, o, a1, a2⟩ := hss.get i (by simp; omega)
      have hel : ((setsL (comP ps) x ++ (((setsL (comP ps) x).take i).filter (perp (comP ps) x)).map (x :: ·)).map strS)[i]'(by simp; omega) = strS (setsL (comP ps) x)[i] := by
        rw [List.getElem_map, List.getElem_append_left hix]
      rw [hel] at a2
      have htk : (setsL (comP ps) x).take (i + 1) = (setsL (comP ps) x).take i ++ [(setsL (comP ps) x)[i]] := List.take_succ_eq_append_getElem hix
      have hpstr := perp_str ps hmem
      generalize (setsL (comP ps) x)[i] = s at a2 hmem hslen htk hpstr
      have hsl := strS_len s
      refine loopL (σ := Nat) (fun j => [B (((strS s).take j).all fun c => freeP ps c (lt x)), I j]) (fun _ => g2) (fun j => j ≤ (strS s).length) (fun j => (strS s).length - j) 0 (by simp) rfl (Nat.zero_le _) ?_
      intro j hj L3 hL3
      rw [q71z22]
      simp only [a1, a2, OP_some, lenS_S, bin_lss, IfP_dec]
      refine ⟨fun hlt3 => ?_, fun hge3 => ?_⟩
      · have hjs : j < (strS s).length := by omega
        have next := hL3 (j + 1) (by show j + 1 ≤ (strS s).length; omega) (by show (strS s).length - (j + 1) < (strS s).length - j; omega)
        have ha : ((strS s).take (j + 1)).all (fun c => freeP ps c (lt x)) = ((((strS s).take j).all fun c => freeP ps c (lt x)) && freeP ps (strS s)[j] (lt x)) := by
          rw [List.take_succ_eq_append_getElem hjs, List.all_append]; simp
        simp only [ha] at next
        rw [q71z28]
        cases hq : ((strS s).take j).all fun c => freeP ps c (lt x) with
        | true =>
          rw [hq] at next
          simp only [GdP_tt, a1, a2, OP_some, idxS_S (strS s) hjs]
          refine C33 (hp.mono xg2) hg hl ?_
          simp only [q71z30, iPick_t, OP_some, bin_add, inc j (by omega), true_and]
          simpa using next
        | false =>
          rw [hq] at next
          simp only [GdP_ft, q71z30, iPick_f, OP_some, bin_add, inc j (by omega), true_and]
          simpa using next
      · have hje : j = (strS s).length := by omega
        subst hje
        rw [List.take_length, hpstr, q71z31]
        cases hq : perp (comP ps) x s with
        | false =>
          simp only [IfP_false, q71z33, bin_add, OP_some, inc i (by omega), true_and]
          refine hL2 (i + 1, ow, g2) ⟨by show i + 1 ≤ _; omega, xg2, ?_⟩ (by show _ - (i + 1) < _ - i; omega)
          show OwnS h.length g2 9 ow _
          rw [htk, List.filter_append]
          simpa [hq] using hown2
        | true =>
          have e5 : iMkSl 5 1 [.int .u8 0] g2 [(0, 1, cv (lt x))] = some (sl 5 g2.length 0 1, g2 ++ [.arr 5 ([lt x].map cv)]) := rfl
          have bs : iB2s (g2 ++ [IObj.arr 5 ([lt x].map cv)]) (sl 5 g2.length 0 1) = some (S [lt x]) := b2s (b := g2.length) (e := 5) (.inr ⟨g2.length, Nat.le_refl _, rfl, get_last⟩)
          have yg : EX g2 (g2 ++ [IObj.arr 5 ([lt x].map cv)]) := EX.append _ _
          simp only [IfP_true, a1, a2, OP_some, true_and, e5, OH_some, EX.load yg a2, bs]
          rw [bin_addS (strS s) [lt x] (by simp [maxLen]; omega)]
          simp only [OP_some]
          have hown3 : OwnS h.length (g2 ++ [IObj.arr 5 ([lt x].map cv)]) 9 ow _ := hown2.keep fun d k _ hd => by
            rw [List.getElem?_append_left ?_]
            rcases hown2 with ⟨h1, h2⟩ | ⟨i', h1, h2, h3⟩
            · have := congrArg List.length h2
              simp only [List.length_map, List.length_append, List.length_nil] at this
              omega
            · rename_i hv
              rw [h2] at hv
              obtain ⟨rfl, _⟩ := sl_inj hv
              exact (List.getElem?_eq_some_iff.1 h3).1
          refine app1 hown3 (xg2.trans yg) (by simp only [List.length_map, List.length_append] at hfl ⊢; omega) (by simp only [List.length_map, List.length_append] at hfl ⊢; unfold maxLen; omega) rfl rfl ?_
          intro v' g3 xg3 hown4
          simp only [q71z33, bin_add, OP_some, inc i (by omega), true_and]
          refine hL2 (i + 1, v', g3) ⟨by show i + 1 ≤ _; omega, xg3, ?_⟩ (by show _ - (i + 1) < _ - i; omega)
          show OwnS h.length g3 9 v' _
          rw [htk, List.filter_append]
          simpa [hq, strS_cons] using hown4
    · have hie : i = (setsL (comP ps) x).length := by omega
      subst hie
      rw [List.take_length] at hown2
      rw [q71z34, ecv]
      simp only [bin_add, OP_some]
      rw [wrapU8 (by omega) (by omega), show ((97 + x : Nat) : Int) + 1 = ((97 + (x + 1) : Nat) : Int) by omega, ← cv_lt (show x + 1 < 100 by omega)]
      simp only [true_and]
      exact hL (x + 1, ow, g2) ⟨by show x + 1 ≤ n; omega, xg2, hown2⟩ (by show n - (x + 1) < n - x; omega)
  · have hxe : x = n := by omega
    subst hxe
    rw [q71z35]
    exact hk _ _ xg (ssOwn hown)

end Go.Proofs.Ytjdlcokhlphmhaa

/-
  The document's numbers of sets that commute, by their size.
-/
namespace Go.Proofs.Ytjdlcokhlphmhaa
open Go.Sim

/-- How many sets are of a size. -/
def cntB (l : List (List Nat)) (i : Nat) : Nat := (l.filter fun u => u.length == i).length

theorem cntB_sum (i : Nat) : ∀ l : List (List Nat), (cntB l i : Int) = sumL l fun u => if u.length = i then 1 else 0
  | [] => rfl
  | u :: l => by
    have ih := cntB_sum i l
    unfold cntB at ih ⊢
    rw [List.filter_cons]
    simp only [sumL]
    by_cases h : u.length = i
    · rw [if_pos (by simpa using h), if_pos h, List.length_cons]; omega
    · rw [if_neg (by simpa using h), if_neg h]; omega

theorem cntB_le (i : Nat) (l : List (List Nat)) : cntB l i ≤ l.length := List.length_filter_le _ _

theorem cntB_snoc (l : List (List Nat)) (u : List Nat) (i : Nat) : cntB (l ++ [u]) i = cntB l i + if u.length = i then 1 else 0 := by
  unfold cntB
  rw [List.filter_append, List.length_append]
  congr 1
  by_cases h : u.length = i
  · simp [h]
  · have : (u.length == i) = false := by simpa using h
    simp [h, this]

/-- Rows without a 0 at the end that hold the same are the same. -/
theorem same_of_getD : ∀ {xs ys : List Nat}, xs.getLast? ≠ some 0 → ys.getLast? ≠ some 0 → (∀ i, xs.getD i 0 = ys.getD i 0) → xs = ys := by
  have len : ∀ {xs ys : List Nat}, xs.getLast? ≠ some 0 → (∀ i, xs.getD i 0 = ys.getD i 0) → xs.length ≤ ys.length := by
    intro xs ys hx h
    apply Classical.byContradiction
    intro hc
    have hl : xs.length - 1 < xs.length := by omega
    apply hx
    rw [List.getLast?_eq_getElem?]
    have := h (xs.length - 1)
    simp only [List.getD_eq_getElem?_getD] at this
    rw [List.getElem?_eq_none (l := ys) (by omega), List.getElem?_eq_getElem hl] at this
    rw [List.getElem?_eq_getElem hl]
    simpa using this
  intro xs ys hx hy h
  have h1 := len hx h
  have h2 := len hy fun i => (h i).symm
  apply List.ext_getElem (by omega)
  intro i hi1 hi2
  have := h i
  simp only [List.getD_eq_getElem?_getD] at this
  rw [List.getElem?_eq_getElem hi1, List.getElem?_eq_getElem hi2] at this
  simpa using this

theorem dropT_last : ∀ xs : List Nat, (dropT xs).getLast? ≠ some 0
  | [] => by simp [dropT]
  | x :: xs => by
    have ih := dropT_last xs
    rw [dropT]
    split
    · split
      · simp
      · rename_i h; simpa using h
    · rename_i y ys h
      rw [h] at ih
      simpa [List.getLast?_cons_cons] using ih

theorem OwnD.store {h0 hx : Heap} {v : Value} {os : List Nat} {j : Nat} (d : Nat) (o : OwnD h0.length hx v os) (x : EX h0 hx) (hj : j < os.length) :
    ∃ i hx', iAdrSl 1 v (I j) = some (pt i j) ∧ iLoad false 1 hx (pt i j) = some (I os[j]) ∧ oStore 1 hx (pt i j) (I d) = some (undef, hx') ∧ EX h0 hx' ∧ OwnD h0.length hx' v (os.set j d) := by
  rcases o with ⟨_, h2⟩ | ⟨i, h1, h2, h3⟩
  · have := congrArg List.length h2
    rw [List.length_map, List.length_nil] at this
    omega
  · rw [List.length_map] at h2
    subst h2
    refine ⟨i, hx.set i (.arr 3 ((os.set j d).map fun d : Nat => I d)), adr_sl hj, ?_, ?_, x.set h1 _, .inr ⟨i, h1, by simp, set_get h3⟩⟩
    · simp [iLoad, objCells, h3, iPart, hj]
    · rw [store_at h3 (by simpa using hj) rfl rfl, List.map_set]

theorem C26 {ps : List (Int × Int)} {pv : Value} {n : Nat} {h : Heap} {K : Value → Heap → Prop} (hp : PS h pv ps) (hg : good ps) (hl : ps.length ≤ 100) (hn : n ≤ 6)
    (hk : ∀ v h' os, EX h h' → DS 3 .i64 h' v os → os.length ≤ 7 → os.getLast? ≠ some 0 → (∀ i, os.getD i 0 = cntB (setsL (comP ps) n) i) → K v h') : CallP Try.prog 26 [I n, pv] h K := by
  refine f26 (C71 hp hg hl hn ?_)
  intro lv hA xA hss
  obtain ⟨c1, c2⟩ := setsL_count (comP ps) n
  have h2n : 2 ^ n ≤ 64 := Nat.le_trans (Nat.pow_le_pow_right (by decide) hn) (by decide)
  have hlenS := setsL_len (comP ps) n
  generalize setsL (comP ps) n = L0 at hss c1 c2 hlenS hk
  simp only [mkD0, OH_some]
  refine loopL (σ := Nat × List Nat × Value × Heap) (fun p => [p.2.2.1, I p.1]) (fun p => p.2.2.2) (fun p => p.1 ≤ L0.length ∧ EX hA p.2.2.2 ∧ OwnD hA.length p.2.2.2 p.2.2.1 p.2.1 ∧ p.2.1.length ≤ 7 ∧ p.2.1.getLast? ≠ some 0 ∧ ∀ i, p.2.1.getD i 0 = cntB (L0.take p.1) i) (fun p => L0.length - p.1)
    (0, [], sl 3 hA.length 0 0, hA ++ [.arr 3 []]) rfl rfl ⟨Nat.zero_le _, EX.append _ _, ownD0 hA, by simp, by simp, by intro i; simp [cntB]⟩ ?_
  rintro ⟨i, os, ov, g⟩ ⟨hi, xg, hown, hol, hlast, hcnt⟩ L hL
  simp only at hi xg hown hol hlast hcnt hL ⊢
  rw [q26z6]
  simp only [hss.len, List.length_map, OP_some, bin_lss, IfP_dec]
  refine ⟨fun hlt => ?_, fun hge => ?_⟩
  · have hiL : i < L0.length := by omega
    obtain ⟨a, o, a1, a2⟩ := hss.get i (by simpa using hiL)
    have hel : (L0.map strS)[i]'(by simpa using hiL) = strS L0[i] := by simp
    rw [hel] at a2
    have hsn := hlenS _ (List.getElem_mem hiL)
    have htk : L0.take (i + 1) = L0.take i ++ [L0[i]] := List.take_succ_eq_append_getElem hiL
    generalize L0[i] = s at a2 hsn htk
    have hsl := strS_len s
    refine loopL (σ := Nat × Value × Heap) (fun p => [p.2.1]) (fun p => p.2.2) (fun p => EX hA p.2.2 ∧ OwnD hA.length p.2.2 p.2.1 (os ++ List.replicate p.1 0) ∧ (p.1 = 0 ∨ os.length + p.1 ≤ s.length + 1)) (fun p => s.length + 1 - (os.length + p.1))
      (0, ov, g) rfl rfl ⟨xg, by simpa using hown, .inl rfl⟩ ?_
    rintro ⟨r, ow, g2⟩ ⟨xg2, hown2, hr⟩ L2 hL2
    simp only at xg2 hown2 hr hL2 ⊢
    rw [q26z13]
    simp only [hown2.ds.len, OP_some, a1, EX.load xg2 a2, lenS_S, hsl, bin_leq, List.length_append, List.length_replicate, IfP_dec]
    refine ⟨fun hle => ?_, fun hnle => ?_⟩
    · have hrl : os.length + r ≤ s.length := by omega
      refine appD (d := 0) hown2 xg2 (by simp; omega) ?_
      intro v' g3 xg3 hown3
      simp only [true_and]
      refine hL2 (r + 1, v', g3) ⟨xg3, ?_, .inr (by show os.length + (r + 1) ≤ _; omega)⟩ (by show s.length + 1 - (os.length + (r + 1)) < s.length + 1 - (os.length + r); omega)
      show OwnD hA.length g3 v' (os ++ List.replicate (r + 1) 0)
      have : List.replicate (r + 1) 0 = List.replicate r 0 ++ [0] := List.replicate_succ'
      rw [this, ← List.append_assoc]
      exact hown3
    · rw [q26z17]
      have hj : s.length < (os ++ List.replicate r 0).length := by simp; omega
      have hgd : ∀ k, (os ++ List.replicate r 0).getD k 0 = cntB (L0.take i) k := by
        intro k
        rw [← hcnt k]
        simp only [List.getD_eq_getElem?_getD]
        by_cases hk2 : k < os.length
        · rw [List.getElem?_append_left hk2]
        · rw [List.getElem?_append_right (by omega), List.getElem?_eq_none (l := os) (by omega)]
          cases hz : (List.replicate r 0)[k - os.length]? with
          | none => rfl
          | some z =>
            have := List.mem_of_getElem? hz
            rw [(List.mem_replicate.1 this).2]; rfl
      have hval : (os ++ List.replicate r 0)[s.length] = cntB (L0.take i) s.length := by
        rw [← hgd s.length]
        simp only [List.getD_eq_getElem?_getD]
        rw [List.getElem?_eq_getElem hj]; rfl
      have hbound := cntB_le s.length (L0.take i)
      rw [List.length_take] at hbound
      obtain ⟨b, g3, b1, b2, b3, b4, b5⟩ := hown2.store (cntB (L0.take i) s.length + 1) xg2 hj
      rw [hval] at b2
      simp only [a1, EX.load xg2 a2, OP_some, lenS_S, hsl, b1, b2, bin_add, inc (cntB (L0.take i) s.length) (by omega), b3, OH_some, q26z18, inc i (by omega), true_and]
      refine hL (i + 1, (os ++ List.replicate r 0).set s.length (cntB (L0.take i) s.length + 1), ow, g3) ⟨by show i + 1 ≤ L0.length; omega, b4, b5, by show (List.set _ _ _).length ≤ 7; rw [List.length_set]; simp; omega, ?_, ?_⟩ (by show L0.length - (i + 1) < L0.length - i; omega)
      · show ((os ++ List.replicate r 0).set s.length _).getLast? ≠ some 0
        rw [List.getLast?_eq_getElem?, List.length_set, List.getElem?_set]
        by_cases he : s.length = (os ++ List.replicate r 0).length - 1
        · rw [if_pos he, if_pos hj]; simp
        · rw [if_neg he]
          have hr0 : r = 0 := by
            simp only [List.length_append, List.length_replicate] at he hj
            omega
          subst hr0
          simp only [List.replicate_zero, List.append_nil]
          rw [← List.getLast?_eq_getElem?]
          exact hlast
      · intro k
        show ((os ++ List.replicate r 0).set s.length _).getD k 0 = cntB (L0.take (i + 1)) k
        rw [htk, cntB_snoc, ← hgd k]
        simp only [List.getD_eq_getElem?_getD, List.getElem?_set]
        by_cases he : s.length = k
        · subst he
          rw [if_pos rfl, if_pos rfl, if_pos hj, List.getElem?_eq_getElem hj, hval]
          rfl
        · rw [if_neg he, if_neg he]; rfl
  · have hie : i = L0.length := by omega
    subst hie
    rw [List.take_length] at hcnt
    rw [q26z19]
    exact hk ov g os (xA.trans xg) hown.ds hol hlast hcnt

theorem DS.ns {h : Heap} {v : Value} {xs : List Nat} (p : DS 3 .i64 h v xs) (hl : xs.length ≤ 1000) : NS h v .i64 (xs.map fun d : Nat => (d : Int)) := by
  refine ⟨by rw [List.length_map]; exact p.len, fun i hi => ?_, by rw [List.length_map]; unfold maxLen; omega⟩
  rw [List.length_map] at hi
  obtain ⟨b, g1, g2⟩ := p.get hi
  exact ⟨b, i, g1, by simpa using g2⟩

end Go.Proofs.Ytjdlcokhlphmhaa

/-
  The document counts seams: rows of steps, by their last one.
-/
namespace Go.Proofs.Ytjdlcokhlphmhaa
open Go.Sim

theorem MagZ.keepX {h h' : Heap} {v : Value} {n i : Nat} (p : MagZ h v n) (hk : ∀ d, d < h.length → d ≠ i → h'[d]? = h[d]?) (hno : ∀ d r, objCells h i ≠ some (.int .i64 d :: r)) : MagZ h' v n := by
  obtain ⟨xs, d, c, hv⟩ := p
  refine ⟨xs, ?_, c, hv⟩
  rcases d with d | ⟨j, h1, h2⟩
  · exact .inl d
  · refine .inr ⟨j, h1, ?_⟩
    rcases h2 with h2 | ⟨r, h2⟩
    · exact .inl h2
    · cases xs with
      | nil => exact .inl rfl
      | cons x xs =>
        right
        refine ⟨r, ?_⟩
        have hji : j ≠ i := by
          rintro rfl
          exact hno _ _ h2
        have hjl : j < h.length := by
          unfold objCells at h2
          cases hg : h[j]? with
          | none => rw [hg] at h2; cases h2
          | some o => exact (List.getElem?_eq_some_iff.1 hg).1
        unfold objCells at h2 ⊢
        rw [hk j hjl hji]
        exact h2

/-- Integers of the document side by side in memory. -/
def RowS (b : Nat) (h : Heap) (v : Value) (zs : List Int) : Prop := ∃ i cells, b ≤ i ∧ v = sl 46 i 0 zs.length ∧ h[i]? = some (.arr 46 cells) ∧ cells.length = zs.length * 2 ∧ (∀ d r, cells ≠ .int .i64 d :: r) ∧
  ∀ j, j < zs.length → ∃ w, cells[j * 2]? = some (B (decide (zs.getD j 0 < 0))) ∧ cells[j * 2 + 1]? = some w ∧ MagZ h w (zs.getD j 0).natAbs

theorem RowS.mono {b : Nat} {h h' : Heap} {v : Value} {zs : List Int} (x : EX h h') (p : RowS b h v zs) : RowS b h' v zs :=
  let ⟨i, cells, h1, h2, h3, h4, h5, h6⟩ := p
  ⟨i, cells, h1, h2, x.get h3, h4, h5, fun j hj => let ⟨w, a, b, c⟩ := h6 j hj; ⟨w, a, b, c.mono x⟩⟩

theorem RowS.get {b : Nat} {h : Heap} {v : Value} {zs : List Int} (p : RowS b h v zs) {j : Nat} (hj : j < zs.length) : ∃ a x, iAdrSl 2 v (I j) = some a ∧ iLoad true 2 h a = some x ∧ ZV h x (zs.getD j 0) := by
  obtain ⟨i, cells, h1, h2, h3, h4, h5, h6⟩ := p
  obtain ⟨w, a, c, d⟩ := h6 j hj
  refine ⟨pt i (j * 2), .agg #[B (decide (zs.getD j 0 < 0)), w], ?_, ?_, w, rfl, d⟩
  · subst h2
    have : (0 : Int) ≤ (j : Int) ∧ (j : Int) < (zs.length : Int) := by omega
    simp [iAdrSl, sl, this]
  · have hd : (cells.drop (j * 2)).take 2 = [B (decide (zs.getD j 0 < 0)), w] := by
      obtain ⟨l1, a'⟩ := List.getElem?_eq_some_iff.1 a
      obtain ⟨l2, c'⟩ := List.getElem?_eq_some_iff.1 c
      rw [List.drop_eq_getElem_cons l1, List.drop_eq_getElem_cons l2, a', c']
      rfl
    have hl : j * 2 + 2 ≤ cells.length := by omega
    simp [iLoad, objCells, h3, iPart, hl, hd]

theorem RowS.keepX {b : Nat} {h h' : Heap} {v : Value} {zs : List Int} {i : Nat} {e : TypeId} {cs : List Value} (p : RowS b h v zs) (hk : ∀ d, d < h.length → d ≠ i → h'[d]? = h[d]?) (hi : h[i]? = some (.arr e cs)) (he : e ≠ 46) (hno : ∀ d r, cs ≠ .int .i64 d :: r) : RowS b h' v zs := by
  obtain ⟨j, cells, h1, h2, h3, h4, h5, h6⟩ := p
  have hji : j ≠ i := by
    rintro rfl
    rw [hi] at h3
    injection h3 with h3
    injection h3 with h3
    exact he h3
  refine ⟨j, cells, h1, h2, by rw [hk j (List.getElem?_eq_some_iff.1 h3).1 hji]; exact h3, h4, h5, fun k hk2 => ?_⟩
  obtain ⟨w, a, c, d⟩ := h6 k hk2
  refine ⟨w, a, c, d.keepX hk fun d r hc => ?_⟩
  unfold objCells at hc
  rw [hi] at hc
  injection hc with hc
  exact hno d r hc

theorem appR {h0 hx : Heap} {v x : Value} {zs : List Int} {z : Int} {K : Value → Heap → Prop} (p : RowS h0.length hx v zs) (hx0 : EX h0 hx) (hz : ZV hx x z) (hl : zs.length ≤ 1000)
    (hk : ∀ v' hx', EX h0 hx' → RowS h0.length hx' v' (zs ++ [z]) → K v' hx') : OH (iMkSl 46 1 [(.bool false), (.slice none 0 0)] hx [(0, 2, x)]) fun a h1 => OH (iApp 46 2 32 h1 v a) K := by
  obtain ⟨w, rfl, hw⟩ := hz
  obtain ⟨i, cells, h1, rfl, h3, h4, h5, h6⟩ := p
  have e1 : iMkSl 46 1 [(.bool false), (.slice none 0 0)] hx [(0, 2, .agg #[B (decide (z < 0)), w])] = some (sl 46 hx.length 0 1, hx ++ [.arr 46 [B (decide (z < 0)), w]]) := by
    simp [iMkSl, fillL, zrep, noTuple, vcells, Value.cells, setAt]
  rw [e1]
  simp only [OH_some]
  have hi := (List.getElem?_eq_some_iff.1 h3).1
  have hg : (hx ++ [IObj.arr 46 [B (decide (z < 0)), w]])[i]? = some (.arr 46 cells) := by rw [List.getElem?_append_left hi]; exact h3
  have e2 : sliceCells (hx ++ [IObj.arr 46 [B (decide (z < 0)), w]]) 2 (sl 46 hx.length 0 1) = some [B (decide (z < 0)), w] := by simp [sliceCells, sl, objCells]
  have e3 : lenOfSl (sl 46 hx.length 0 1) = some 1 := rfl
  have e4 : iApp 46 2 32 (hx ++ [IObj.arr 46 [B (decide (z < 0)), w]]) (sl 46 i 0 zs.length) (sl 46 hx.length 0 1) = some (sl 46 (hx.length + 1) 0 (zs.length + 1), (hx ++ [IObj.arr 46 [B (decide (z < 0)), w]]).set i IObj.dead ++ [IObj.arr 46 (cells ++ [B (decide (z < 0)), w])]) := by
    simp only [iApp, e2, e3]
    simp only [sl, hg]
    rw [if_pos ⟨trivial, trivial, h4, by omega, by unfold maxLen; omega⟩, if_neg (by omega)]
    simp
  rw [e4]
  simp only [OH_some]
  have hmag : ∀ {u : Value} {n : Nat}, MagZ hx u n → MagZ ((hx ++ [IObj.arr 46 [B (decide (z < 0)), w]]).set i IObj.dead ++ [IObj.arr 46 (cells ++ [B (decide (z < 0)), w])]) u n := by
    intro u n hm
    have h7 := hm.mono (EX.append hx [IObj.arr 46 [B (decide (z < 0)), w]])
    have h8 : MagZ ((hx ++ [IObj.arr 46 [B (decide (z < 0)), w]]).set i IObj.dead) u n := h7.keepX (i := i) (fun d _ hd => by rw [List.getElem?_set_ne (by omega)]) fun d r hc => by
      unfold objCells at hc
      rw [hg] at hc
      injection hc with hc
      exact h5 d r hc
    exact h8.mono (EX.append _ _)
  refine hk _ _ (((hx0.push _).set h1 _).push _) ⟨hx.length + 1, cells ++ [B (decide (z < 0)), w], by have := hx0.1; omega, by simp, ?_, by simp [h4]; omega, ?_, ?_⟩
  · rw [List.getElem?_append_right (by simp)]
    simp
  · intro d r hc
    cases hcl : cells with
    | nil => rw [hcl] at hc; simp at hc
    | cons c cs =>
      rw [hcl, List.cons_append] at hc
      injection hc with hc _
      exact h5 d cs (by rw [hcl, hc])
  · intro j hj
    simp only [List.length_append, List.length_singleton] at hj
    by_cases hjz : j < zs.length
    · obtain ⟨u, a, c, d⟩ := h6 j hjz
      have hgd : (zs ++ [z]).getD j 0 = zs.getD j 0 := by
        simp only [List.getD_eq_getElem?_getD]
        rw [List.getElem?_append_left hjz]
      rw [hgd]
      refine ⟨u, ?_, ?_, hmag d⟩
      · rw [List.getElem?_append_left (by omega)]; exact a
      · rw [List.getElem?_append_left (by omega)]; exact c
    · have hje : j = zs.length := by omega
      subst hje
      have hgd : (zs ++ [z]).getD zs.length 0 = z := by simp
      rw [hgd]
      refine ⟨w, ?_, ?_, hmag hw⟩
      · rw [List.getElem?_append_right (by omega), h4]; simp
      · rw [List.getElem?_append_right (by omega), h4]; simp

/-! ### What is counted -/

theorem strS_empty (s : List Nat) : decide (strS s = []) = s.isEmpty := by
  cases s with
  | nil => rfl
  | cons x s => simp [strS]

theorem freeP_self' {n : Nat} {ps : List (Int × Int)} (ht : threadsOk n ps = true) {a : Nat} (ha : a < 6) : freeP ps (lt a) (lt a) = false := by
  unfold freeP
  rw [List.any_eq_false]
  intro p hp
  obtain ⟨_, _, _, _, h⟩ := threadsOk_good ht
  have := h p hp
  simp [hit, lt_toNat (show a < 100 by omega)]
  omega

theorem follows_eq {n : Nat} {ps : List (Int × Int)} (hn : n ≤ 6) (ht : threadsOk n ps = true) {d c : List Nat} (hd : ∀ a ∈ d, a < n) (hc : ∀ a ∈ c, a < n) : followsStr (freeP ps) (strS d) (strS c) = followsS (comP ps) d c := by
  have e : ∀ x y, x < n → y < n → (!freeP ps (lt x) (lt y)) = !comP ps y x := by
    intro x y hx hy
    rw [comP_sym]
    unfold comP
    by_cases hxy : x = y
    · subst hxy
      rw [freeP_self' ht (by omega)]; simp
    · have : (x != y) = true := by simpa using hxy
      rw [this, Bool.true_and]
  unfold followsStr followsS strS perp
  rw [Bool.eq_iff_iff]
  simp only [List.all_reverse, List.any_reverse, List.all_map, List.any_map, List.all_eq_true, List.any_eq_true, Function.comp, Bool.not_eq_true', List.all_eq_false]
  constructor
  · intro h y hy
    obtain ⟨x, hx, h2⟩ := h y hy
    refine ⟨x, hx, ?_⟩
    have := e x y (hd x hx) (hc y hy)
    rw [h2] at this
    simpa using this.symm
  · intro h y hy
    obtain ⟨x, hx, h2⟩ := h y hy
    refine ⟨x, hx, ?_⟩
    have := e x y (hd x hx) (hc y hy)
    cases hq : comP ps y x with
    | true => exact absurd hq h2
    | false => rw [hq] at this; simpa using this

theorem sumL_bound {α : Type} {f : α → Int} {k : Int} (h0 : 0 ≤ k) : ∀ {l : List α}, (∀ x ∈ l, 0 ≤ f x ∧ f x ≤ k) → 0 ≤ sumL l f ∧ sumL l f ≤ l.length * k
  | [], _ => by simp [sumL]
  | x :: l, h => by
    obtain ⟨a1, a2⟩ := h x (by simp)
    obtain ⟨b1, b2⟩ := sumL_bound h0 (l := l) fun y hy => h y (by simp [hy])
    simp only [sumL, List.length_cons, Int.natCast_add, Int.add_mul]
    constructor
    · omega
    · have : ((1 : Nat) : Int) * k = k := by simp
      omega

theorem endsF_bound (com : Nat → Nat → Bool) {n : Nat} (hn : n ≤ 6) : ∀ (m : Nat) (c : List Nat), 0 ≤ endsF com n m c ∧ endsF com n m c ≤ (64 ^ m : Nat) := by
  intro m
  induction m using Nat.strongRecOn with
  | ind m ih =>
    intro c
    have hpos : 1 ≤ 64 ^ m := Nat.pow_pos (by decide)
    by_cases h : c = [] ∨ m < c.length
    · rw [endsF_zero com h]; omega
    · rw [endsF, dif_neg h]
      by_cases he : c.length = m
      · rw [if_pos he]; omega
      · rw [if_neg he]
        have hc0 : 0 < c.length := List.length_pos_iff.2 fun hc => h (.inl hc)
        have hm : m - c.length ≤ m - 1 := by omega
        have hp : (64 : Nat) ^ (m - c.length) ≤ 64 ^ (m - 1) := Nat.pow_le_pow_right (by decide) hm
        have hb := sumL_bound (k := ((64 ^ (m - 1) : Nat) : Int)) (Int.natCast_nonneg _) (l := setsL com n) (f := fun d => if (!d.isEmpty && followsS com d c) = true then endsF com n (m - c.length) d else 0) (fun d _ => by
          have := ih (m - c.length) (by omega) d
          have h1 : 0 ≤ ((64 ^ (m - 1) : Nat) : Int) := Int.natCast_nonneg _
          have h2 : ((64 ^ (m - c.length) : Nat) : Int) ≤ ((64 ^ (m - 1) : Nat) : Int) := Int.ofNat_le.2 hp
          split
          · exact ⟨this.1, Int.le_trans this.2 h2⟩
          · exact ⟨Int.le_refl _, h1⟩)
        have h2n : (setsL com n).length ≤ 64 := Nat.le_trans (setsL_count com n).1 (Nat.le_trans (Nat.pow_le_pow_right (by decide) hn) (by decide))
        have hs : 64 ^ m = 64 ^ (m - 1) * 64 := by
          rw [← Nat.pow_succ]
          congr 1
          omega
        refine ⟨hb.1, Int.le_trans hb.2 ?_⟩
        rw [hs]
        have := Nat.mul_le_mul_right (64 ^ (m - 1)) h2n
        have h3 : ((setsL com n).length : Int) * ((64 ^ (m - 1) : Nat) : Int) = (((setsL com n).length * 64 ^ (m - 1) : Nat) : Int) := by rw [Int.natCast_mul]
        rw [h3]
        omega

theorem big64 {m : Nat} (h : m ≤ 62) : 64 ^ m < bigW := Nat.lt_of_le_of_lt (Nat.pow_le_pow_right (by decide) h) (by unfold bigW; decide +kernel)

theorem sumL_take {α : Type} (f : α → Int) (l : List α) {j : Nat} (hj : j < l.length) : sumL (l.take (j + 1)) f = sumL (l.take j) f + f l[j] := by
  rw [List.take_succ_eq_append_getElem hj, sumL_append]
  simp [sumL]

theorem OwnS.mono {b : Nat} {g g' : Heap} {e : TypeId} {v : Value} {xs : List Value} (x : EX g g') (o : OwnS b g e v xs) : OwnS b g' e v xs := by
  rcases o with ⟨h1, h2⟩ | ⟨i, h1, h2, h3⟩
  · exact .inl ⟨h1, h2⟩
  · exact .inr ⟨i, h1, h2, x.get h3⟩

theorem OwnS.at {b : Nat} {g : Heap} {e : TypeId} {v : Value} {xs : List Value} (o : OwnS b g e v xs) {j : Nat} (hj : j < xs.length) : ∃ i, iAdrSl 1 v (I j) = some (pt i j) ∧ iLoad false 1 g (pt i j) = some xs[j] := by
  rcases o with ⟨_, h2⟩ | ⟨i, h1, rfl, h3⟩
  · subst h2; simp at hj
  · exact ⟨i, adr_sl hj, by simp [iLoad, objCells, h3, iPart, hj]⟩

end Go.Proofs.Ytjdlcokhlphmhaa

/-
  The document's Count, as a call answers.
-/
namespace Go.Proofs.Ytjdlcokhlphmhaa
open Go.Sim

theorem rowsF_zero (com : Nat → Nat → Bool) (n : Nat) : rowsF com n 0 = 1 := by
  have : CS com n (endsF com n 0) = 0 := by
    refine (sumL_congr fun u _ => ?_).trans (sumL_zero _)
    cases u with
    | nil => exact endsF_zero com (.inl rfl)
    | cons x u => exact endsF_zero com (.inr (by simp))
  unfold rowsF
  rw [this]
  rfl

theorem getD_map {α : Type} (l : List α) (f : α → Int) {j : Nat} (hj : j < l.length) : (l.map f).getD j 0 = f l[j] := by
  simp [List.getD_eq_getElem?_getD, hj]

/-- The rows of one length more. -/
theorem appRow {h0 g : Heap} {ev rv : Value} {evl : List Value} {rows : List (List Int)} {zs : List Int} {K : Value → Heap → Prop} (x : EX h0 g) (o : OwnS h0.length g 118 ev evl) (hl : evl.length = rows.length)
    (hr : ∀ k (h1 : k < evl.length) (h2 : k < rows.length), RowS 0 g evl[k] rows[k]) (hz : RowS 0 g rv zs) (hs : rows.length ≤ 1000)
    (hk : ∀ v' g' evl', EX h0 g' → OwnS h0.length g' 118 v' evl' → evl'.length = (rows ++ [zs]).length → (∀ k (h1 : k < evl'.length) (h2 : k < (rows ++ [zs]).length), RowS 0 g' evl'[k] (rows ++ [zs])[k]) → K v' g') :
    OH (iMkSl 118 1 [(.slice none 0 0)] g [(0, 1, rv)]) fun a h1 => OH (iApp 118 1 24 h1 ev a) K := by
  have hrv : noTuple rv = true ∧ vcells rv = [rv] := by
    obtain ⟨i, cells, _, rfl, _⟩ := hz
    exact ⟨rfl, rfl⟩
  refine app1p o (by omega) (by unfold maxLen; omega) hrv.1 hrv.2 ?_
  intro h1 hx' e1 e2 e3 e4
  simp only [OH_some]
  have keep : ∀ {v : Value} {ws : List Int}, RowS 0 g v ws → RowS 0 hx' v ws := by
    intro v ws p
    rcases o with ⟨h5, h6⟩ | ⟨i, h5, h6, h7⟩
    · refine p.mono ⟨by omega, fun d hd => e3 d hd fun n hn => ?_⟩
      rw [h5] at hn; cases hn
    · refine p.keepX (i := i) (fun d hd hne => e3 d hd fun n hn => ?_) h7 (by decide) ?_
      · rw [h6] at hn
        exact hne (sl_inj hn).1.symm
      · intro d r hc
        have hlen : 0 < evl.length := by rw [hc]; simp
        have h8 := hr 0 hlen (by omega)
        obtain ⟨j, cells, _, h9, _⟩ := h8
        simp only [hc, List.getElem_cons_zero] at h9
        cases h9
  refine hk _ hx' (evl ++ [rv]) ⟨by have := x.1; omega, fun d hd => ?_⟩ (.inr ⟨g.length + 1, by have := x.1; omega, by simp, e4⟩) (by simp [hl]) ?_
  · rw [e3 d (by have := x.1; omega) fun n hn => ?_]
    · exact x.2 d hd
    · have := (o.lt hn).1
      omega
  · intro k h5 h6
    simp only [List.length_append, List.length_singleton] at h5 h6
    by_cases hkl : k < evl.length
    · rw [List.getElem_append_left hkl, List.getElem_append_left (by omega)]
      exact keep (hr k hkl (by omega))
    · have hke : k = evl.length := by omega
      subst hke
      rw [List.getElem_append_right (Nat.le_refl _)]
      have : (rows ++ [zs])[evl.length]'(by simp; omega) = zs := by
        rw [List.getElem_append_right (by omega)]; simp
      rw [this]
      simpa using keep hz

theorem C28 {ps : List (Int × Int)} {pv : Value} {n m : Nat} {h : Heap} {K : Value → Heap → Prop} (hp : PS h pv ps) (ht : threadsOk n ps = true) (hl : ps.length ≤ 100) (hn : n ≤ 6) (hm : m ≤ 60)
    (hk : ∀ r h', EX h h' → ZV h' r (rowsF (comP ps) n m) → K r h') : CallP Try.prog 28 [I n, pv, I m] h K := by
  have hg : good ps := (threadsOk_good ht).1
  refine f28 ?_
  have e2 : ∀ g' : Heap, iAlloc 46 [(.bool false), (.slice none 0 0)] g' = some (pt g'.length 0, g' ++ [.arr 46 [(.bool false), (.slice none 0 0)]]) := fun _ => rfl
  simp only [T28, e2, OH_some]
  have x1 : EX h (h ++ [IObj.arr 46 [(.bool false), (.slice none 0 0)]]) := EX.append _ _
  have k1 : (h ++ [IObj.arr 46 [(.bool false), (.slice none 0 0)]])[h.length]? = some (.arr 46 [(.bool false), (.slice none 0 0)]) := get_last
  generalize h ++ [IObj.arr 46 [(.bool false), (.slice none 0 0)]] = hA at x1 k1 ⊢
  refine C71 (hp.mono x1) hg hl hn ?_
  intro lv h2 x2 hss
  have hltS := setsL_lt (comP ps) n
  have hlenS := setsL_len (comP ps) n
  obtain ⟨c1, c2⟩ := setsL_count (comP ps) n
  have h2n : 2 ^ n ≤ 64 := Nat.le_trans (Nat.pow_le_pow_right (by decide) hn) (by decide)
  have hcs : ∀ f, CS (comP ps) n f = sumL (setsL (comP ps) n) f := fun _ => rfl
  have hb := endsF_bound (comP ps) hn
  have k2 := x2.get k1
  have hrow : rowsF (comP ps) n m = (if m = 0 then 1 else 0) + sumL (setsL (comP ps) n) (endsF (comP ps) n m) := rfl
  have hrec : ∀ q c, (c ≠ [] ∧ c.length ≤ q ∧ c.length ≠ q) → endsF (comP ps) n q c = sumL (setsL (comP ps) n) fun d => if (!d.isEmpty && followsS (comP ps) d c) = true then endsF (comP ps) n (q - c.length) d else 0 := by
    rintro q c ⟨a, b, d⟩
    rw [endsF_rec (comP ps) a b, if_neg d, Int.zero_add]
  generalize hL0 : setsL (comP ps) n = L0 at hss hltS hlenS c1 c2 hcs hrow hrec
  have e3 : iMkSl 118 0 [(.slice none 0 0)] h2 [] = some (sl 118 h2.length 0 0, h2 ++ [.arr 118 []]) := rfl
  simp only [e3, OH_some]
  have lenL : iLenSl lv = some (I L0.length) := by have := hss.len; rwa [List.length_map] at this
  -- a set, as it lies there
  have at_ : ∀ {g : Heap} {i : Nat} (hi : i < L0.length), EX h2 g → ∃ a o, iAdrSl 1 lv (I i) = some (pt a o) ∧ iLoad false 1 g (pt a o) = some (S (strS L0[i])) := by
    intro g i hi x
    obtain ⟨a, o, a1, a2⟩ := hss.get i (by simpa using hi)
    refine ⟨a, o, a1, ?_⟩
    rw [List.getElem_map] at a2
    exact EX.load x a2
  refine loopL (σ := Nat × Value × List Value × Heap) (fun p => [p.2.1, I p.1]) (fun p => p.2.2.2)
    (fun p => p.1 ≤ m + 1 ∧ EX h2 p.2.2.2 ∧ OwnS h2.length p.2.2.2 118 p.2.1 p.2.2.1 ∧ p.2.2.1.length = p.1 ∧ ∀ k (h1 : k < p.2.2.1.length), RowS 0 p.2.2.2 p.2.2.1[k] (L0.map (endsF (comP ps) n k))) (fun p => m + 1 - p.1)
    (0, sl 118 h2.length 0 0, [], h2 ++ [.arr 118 []]) rfl rfl ⟨Nat.zero_le _, EX.append _ _, .inr ⟨h2.length, Nat.le_refl _, rfl, get_last⟩, rfl, fun k h1 => by simp at h1⟩ ?_
  rintro ⟨q, ev, evl, g⟩ ⟨hq, xg, hown, hel, hrows⟩ L hL
  simp only at hq xg hown hel hrows hL ⊢
  rw [q28z7]
  simp only [bin_leq, OP_some, IfP_dec]
  refine ⟨fun hle => ?_, fun hgt => ?_⟩
  · have e4 : iMkSl 46 0 [(.bool false), (.slice none 0 0)] g [] = some (sl 46 g.length 0 0, g ++ [.arr 46 []]) := rfl
    simp only [e4, OH_some]
    have hq60 : q ≤ 60 := by omega
    refine loopL (σ := Nat × Value × Heap) (fun p => [p.2.1, I p.1]) (fun p => p.2.2) (fun p => p.1 ≤ L0.length ∧ EX g p.2.2 ∧ RowS g.length p.2.2 p.2.1 ((L0.take p.1).map (endsF (comP ps) n q))) (fun p => L0.length - p.1)
      (0, sl 46 g.length 0 0, g ++ [.arr 46 []]) rfl rfl ⟨Nat.zero_le _, EX.append _ _, g.length, [], Nat.le_refl _, by simp, get_last, by simp, by simp, fun j hj => by simp at hj⟩ ?_
    rintro ⟨i, rv, g2⟩ ⟨hi, xg2, hrv⟩ L2 hL2
    simp only at hi xg2 hrv hL2 ⊢
    have xh2 : EX h2 g2 := xg.trans xg2
    rw [q28z16]
    simp only [lenL, OP_some, bin_lss, IfP_dec]
    refine ⟨fun hlt => ?_, fun hge => ?_⟩
    · have hiL : i < L0.length := by omega
      have htk : (L0.take (i + 1)).map (endsF (comP ps) n q) = (L0.take i).map (endsF (comP ps) n q) ++ [endsF (comP ps) n q L0[i]] := by
        rw [List.take_succ_eq_append_getElem hiL, List.map_append]; rfl
      have atI := fun {g'} (x : EX h2 g') => at_ (g := g') hiL x
      have hcl := hlenS _ (List.getElem_mem hiL)
      have hclt := hltS _ (List.getElem_mem hiL)
      generalize L0[i] = c at htk atI hcl hclt
      have hcs' := strS_len c
      refine C29 (z := 0) (by decide) ?_
      intro r3 g3 y3 z3
      obtain ⟨w3, rfl, hw3⟩ := z3
      have xh3 : EX h2 g3 := xh2.trans y3
      have hl3 : g2.length ≤ g3.length := y3.1
      simp only [e2, OH_some]
      rw [store2 get_last]
      simp only [OH_some]
      have y4 : EX g3 ((g3 ++ [IObj.arr 46 [(.bool false), (.slice none 0 0)]]).set g3.length (.arr 46 [B (decide ((0 : Int) < 0)), w3])) := EX.set (EX.append _ _) (Nat.le_refl _) _
      have k4 := set_get (o := .arr 46 [B (decide ((0 : Int) < 0)), w3]) (get_last (h := g3) (o := .arr 46 [(.bool false), (.slice none 0 0)]))
      generalize (g3 ++ [IObj.arr 46 [(.bool false), (.slice none 0 0)]]).set g3.length (.arr 46 [B (decide ((0 : Int) < 0)), w3]) = g4 at y4 k4 ⊢
      have y24 : EX g2 g4 := y3.trans y4
      obtain ⟨ai, oi, ai1, ai2⟩ := atI (xh3.trans y4)
      simp only [ai1, OP_some, ai2]
      have e5 : iBin .eql (S (strS c)) (.string ⟨#[]⟩) = some (B c.isEmpty) := by
        rw [S_nil, bin_eqlS, strS_empty]
      simp only [e5, OP_some]
      -- what is found is put into the row
      have fin : ∀ (z : Int) (w : Value) (gx : Heap), EX g2 gx → gx[g3.length]? = some (.arr 46 [B (decide (z < 0)), w]) → MagZ gx w z.natAbs → z = endsF (comP ps) n q c → p28z39 Try.prog K pv (I m) (pt h.length 0) lv ev (I q) rv (I i) (pt g3.length 0) L L2 gx := by
        intro z w gx xgx kx mx hz
        rw [q28z39, load2 kx]
        simp only [OP_some]
        refine appR (hrv.mono xgx) (xg2.trans xgx) (⟨w, rfl, mx⟩ : ZV gx _ z) (by simp; omega) ?_
        intro v' gy xgy hrow'
        simp only [q28z40, bin_add, OP_some, inc i (by omega), true_and]
        refine hL2 (i + 1, v', gy) ⟨by show i + 1 ≤ L0.length; omega, xgy, ?_⟩ (by show L0.length - (i + 1) < L0.length - i; omega)
        show RowS g.length gy v' ((L0.take (i + 1)).map (endsF (comP ps) n q))
        rw [htk, ← hz]
        exact hrow'
      have fin0 : endsF (comP ps) n q c = 0 → p28z39 Try.prog K pv (I m) (pt h.length 0) lv ev (I q) rv (I i) (pt g3.length 0) L L2 g4 := fun h0 => fin 0 w3 g4 y24 k4 (hw3.mono y4) h0.symm
      rw [q28z26]
      cases hce : c.isEmpty with
      | true =>
        have : c = [] := by simpa using hce
        simp only [GdP_tf, q28z28, iPick_t, OP_some, IfP_true]
        exact fin0 (endsF_zero _ (.inl this))
      | false =>
        have hcn : c ≠ [] := by rintro rfl; simp at hce
        simp only [GdP_ff, ai1, ai2, OP_some, lenS_S, hcs', bin_gtr, q28z28, iPick_f, IfP_dec]
        refine ⟨fun hgt => fin0 (endsF_zero _ (.inr (by omega))), fun hngt => ?_⟩
        simp only [bin_eql, OP_some, IfP_dec]
        refine ⟨fun heq => ?_, fun hneq => ?_⟩
        · refine C29 (z := 1) (by decide) ?_
          intro r5 g5 y5 z5
          obtain ⟨w5, rfl, hw5⟩ := z5
          have k5 := y5.get k4
          rw [store2 k5]
          simp only [OH_some]
          refine fin 1 w5 _ ((y24.trans y5).set hl3 _) (set_get k5) (hw5.setB k5 _) ?_
          rw [endsF, dif_neg (by simp [hcn]; omega), if_pos (by omega)]
        · have hcq : c.length ≤ q := by omega
          have hcq2 : c.length ≠ q := by omega
          have hre := hrec q c ⟨hcn, hcq, hcq2⟩
          have hsl : ∀ j, 0 ≤ sumL (L0.take j) (fun d => if (!d.isEmpty && followsS (comP ps) d c) = true then endsF (comP ps) n (q - c.length) d else 0) ∧ sumL (L0.take j) (fun d => if (!d.isEmpty && followsS (comP ps) d c) = true then endsF (comP ps) n (q - c.length) d else 0) ≤ (64 ^ 61 : Nat) := by
            intro j
            have h1 := sumL_bound (k := ((64 ^ 60 : Nat) : Int)) (Int.natCast_nonneg _) (l := L0.take j) (f := fun d => if (!d.isEmpty && followsS (comP ps) d c) = true then endsF (comP ps) n (q - c.length) d else 0) (fun d _ => by
              have h2 := hb (q - c.length) d
              have h3 : ((64 ^ (q - c.length) : Nat) : Int) ≤ ((64 ^ 60 : Nat) : Int) := Int.ofNat_le.2 (Nat.pow_le_pow_right (by decide) (by omega))
              split
              · exact ⟨h2.1, Int.le_trans h2.2 h3⟩
              · exact ⟨Int.le_refl _, Int.natCast_nonneg _⟩)
            refine ⟨h1.1, Int.le_trans h1.2 ?_⟩
            have h4 : (L0.take j).length ≤ 64 := by rw [List.length_take]; omega
            have h5 : (64 : Nat) ^ 61 = 64 * 64 ^ 60 := by decide +kernel
            rw [h5]
            have h6 := Nat.mul_le_mul_right (64 ^ 60) h4
            have h7 : ((L0.take j).length : Int) * ((64 ^ 60 : Nat) : Int) = (((L0.take j).length * 64 ^ 60 : Nat) : Int) := by rw [Int.natCast_mul]
            rw [h7]
            exact Int.ofNat_le.2 h6
          have h61 : ∀ z : Int, 0 ≤ z ∧ z ≤ (64 ^ 61 : Nat) → z.natAbs < bigW := by
            rintro z ⟨a, b⟩
            have := big64 (m := 61) (by decide)
            omega
          refine loopL (σ := Nat × Value × Heap) (fun p => [I p.1]) (fun p => p.2.2)
            (fun p => p.1 ≤ L0.length ∧ EX g2 p.2.2 ∧ p.2.2[g3.length]? = some (.arr 46 [B (decide (sumL (L0.take p.1) (fun d => if (!d.isEmpty && followsS (comP ps) d c) = true then endsF (comP ps) n (q - c.length) d else 0) < 0)), p.2.1]) ∧ MagZ p.2.2 p.2.1 (sumL (L0.take p.1) (fun d => if (!d.isEmpty && followsS (comP ps) d c) = true then endsF (comP ps) n (q - c.length) d else 0)).natAbs) (fun p => L0.length - p.1)
            (0, w3, g4) rfl rfl ⟨Nat.zero_le _, y24, k4, hw3.mono y4⟩ ?_
          rintro ⟨j, w, gx⟩ ⟨hj, xgx, kx, mx⟩ L3 hL3
          simp only at hj xgx kx mx hL3 ⊢
          have xhx : EX h2 gx := xh2.trans xgx
          rw [q28z32]
          simp only [lenL, OP_some, bin_lss, IfP_dec]
          refine ⟨fun hlt3 => ?_, fun hge3 => ?_⟩
          · have hjL : j < L0.length := by omega
            have hst := sumL_take (fun d => if (!d.isEmpty && followsS (comP ps) d c) = true then endsF (comP ps) n (q - c.length) d else 0) L0 hjL
            have hgetD := getD_map L0 (endsF (comP ps) n (q - c.length)) hjL
            have atJ := fun {g'} (x : EX h2 g') => at_ (g := g') hjL x
            have hdl := hlenS _ (List.getElem_mem hjL)
            have hdlt := hltS _ (List.getElem_mem hjL)
            have hsj := h61 _ (hsl j)
            have hbd := hb (q - c.length) L0[j]
            generalize L0[j] = d at hst hgetD atJ hdl hdlt hbd
            generalize hsum : sumL (L0.take j) (fun d => if (!d.isEmpty && followsS (comP ps) d c) = true then endsF (comP ps) n (q - c.length) d else 0) = sm at kx mx hst hsj
            have hds := strS_len d
            obtain ⟨aj, oj, aj1, aj2⟩ := atJ xhx
            have e6 : iBin .neq (S (strS d)) (.string ⟨#[]⟩) = some (B (!d.isEmpty)) := by
              rw [S_nil, bin_neqS, strS_empty]
            -- on to the next one
            have nxt : ∀ (z : Int) (w' : Value) (gy : Heap), EX g2 gy → gy[g3.length]? = some (.arr 46 [B (decide (z < 0)), w']) → MagZ gy w' z.natAbs → z = sm + (if (!d.isEmpty && followsS (comP ps) d c) = true then endsF (comP ps) n (q - c.length) d else 0) → p28z38 Try.prog K pv (I m) (pt h.length 0) lv ev (I q) rv (I i) (pt g3.length 0) (I j) L L2 L3 gy := by
              intro z w' gy xgy ky my hz
              simp only [q28z38, bin_add, OP_some, inc j (by omega), true_and]
              rw [← hst] at hz
              exact hL3 (j + 1, w', gy) ⟨by show j + 1 ≤ L0.length; omega, xgy, by show gy[g3.length]? = _; rw [← hz]; exact ky, by show MagZ gy w' _; rw [← hz]; exact my⟩ (by show L0.length - (j + 1) < L0.length - j; omega)
            simp only [aj1, aj2, OP_some, e6, true_and]
            cases hde : d.isEmpty with
            | true =>
              simp only [Bool.not_true, GdP_ft, iPick_f, OP_some, IfP_false]
              exact nxt sm w gx xgx kx mx (by simp [hde])
            | false =>
              obtain ⟨bi, pi, bi1, bi2⟩ := atI xhx
              simp only [Bool.not_false, GdP_tt, bi1, bi2, OP_some]
              refine C73 ((hp.mono x1).mono (x2.trans xhx)) hg hl (by omega) (by omega) ?_
              rw [follows_eq hn ht hdlt hclt]
              simp only [iPick_t, OP_some]
              refine IfP_of (fun hf => ?_) fun hf => ?_
              · have hf' : followsS (comP ps) d c = true := by simpa using hf
                have esub : IntKind.wrap .i64 ((q : Int) - (c.length : Int)) = ((q - c.length : Nat) : Int) := by rw [wrap64 (by omega) (by omega)]; omega
                have hc0 : 0 < c.length := List.length_pos_iff.2 hcn
                have hqc : q - c.length < evl.length := by omega
                obtain ⟨ei, ei1, ei2⟩ := (hown.mono (xg2.trans xgx)).at hqc
                obtain ⟨ra, rx, ra1, ra2, ra3⟩ := ((hrows (q - c.length) hqc).mono (xg2.trans xgx)).get (j := j) (by simpa using hjL)
                rw [hgetD] at ra3
                have hbw : (endsF (comP ps) n (q - c.length) d).natAbs < bigW := by
                  have h9 := big64 (m := q - c.length) (by omega)
                  generalize 64 ^ (q - c.length) = P at hbd h9
                  omega
                rw [load2 kx]
                simp only [OP_some, bi2, lenS_S, hcs', bin_sub, esub, ei1, ei2, ra1, ra2]
                refine C74 (⟨w, rfl, mx⟩ : ZV gx _ sm) ra3 hsj hbw ?_
                intro r7 g7 y7 z7
                obtain ⟨w7, rfl, hw7⟩ := z7
                have k7 := y7.get kx
                rw [store2 k7]
                simp only [OH_some]
                exact nxt _ w7 _ ((xgx.trans y7).set hl3 _) (set_get k7) (hw7.setB k7 _) (by simp [hde, hf'])
              · have hf' : followsS (comP ps) d c = false := by simpa using hf
                exact nxt sm w gx xgx kx mx (by simp [hf'])
          · have hje : j = L0.length := by omega
            subst hje
            rw [List.take_length] at kx mx
            exact fin _ w gx xgx kx mx hre.symm
    · have hie : i = L0.length := by omega
      subst hie
      rw [List.take_length] at hrv
      rw [q28z41]
      have hrv0 : RowS 0 g2 rv (L0.map (endsF (comP ps) n q)) := by
        obtain ⟨a, cells, _, b⟩ := hrv
        exact ⟨a, cells, Nat.zero_le _, b⟩
      refine appRow (rows := (List.range q).map fun k => L0.map (endsF (comP ps) n k)) xh2 (hown.mono xg2) (by simp [hel]) (fun k h5 h6 => by
        have := (hrows k h5).mono xg2
        simpa using this) hrv0 (by simp; omega) ?_
      intro v' g' evl' xg' ho' hl' hr'
      simp only [q28z42, bin_add, OP_some, inc q (by omega), true_and]
      have hl2 : evl'.length = q + 1 := by simpa using hl'
      refine hL (q + 1, v', evl', g') ⟨by show q + 1 ≤ m + 1; omega, xg', ho', hl2, fun k h5 => ?_⟩ (by show m + 1 - (q + 1) < m + 1 - q; omega)
      have h7 : evl'.length = q + 1 := hl2
      have h8 : k < evl'.length := h5
      have h6 : k < ((List.range q).map (fun k => L0.map (endsF (comP ps) n k)) ++ [L0.map (endsF (comP ps) n q)]).length := by simp; omega
      have := hr' k h8 h6
      have he : ((List.range q).map (fun k => L0.map (endsF (comP ps) n k)) ++ [L0.map (endsF (comP ps) n q)])[k] = L0.map (endsF (comP ps) n k) := by
        by_cases hkq : k < q
        · rw [List.getElem_append_left (by simpa using hkq)]; simp
        · have hke : k = q := by omega
          subst hke
          rw [List.getElem_append_right (by simp)]; simp
      rw [he] at this
      exact this
  · have hqe : q = m + 1 := by omega
    subst hqe
    have kg := xg.get k2
    have xhg : EX h g := (x1.trans x2).trans xg
    rw [q28z43]
    simp only [bin_eql, OP_some, IfP_dec]
    refine ⟨fun hm0 => ?_, fun hm0 => ?_⟩
    · have : m = 0 := by omega
      subst this
      refine C29 (z := 1) (by decide) ?_
      intro r5 g5 y5 z5
      obtain ⟨w5, rfl, hw5⟩ := id z5
      have k5 := y5.get kg
      refine fin2z k5 (hk _ _ ((xhg.trans y5).set (Nat.le_refl _) _) ?_)
      rw [rowsF_zero]
      exact z5.setB k5 _
    · refine C29 (z := 0) (by decide) ?_
      intro r3 g3 y3 z3
      obtain ⟨w3, rfl, hw3⟩ := z3
      simp only [e2, OH_some]
      rw [store2 get_last]
      simp only [OH_some]
      have y4 : EX g3 ((g3 ++ [IObj.arr 46 [(.bool false), (.slice none 0 0)]]).set g3.length (.arr 46 [B (decide ((0 : Int) < 0)), w3])) := EX.set (EX.append _ _) (Nat.le_refl _) _
      have k4 := set_get (o := .arr 46 [B (decide ((0 : Int) < 0)), w3]) (get_last (h := g3) (o := .arr 46 [(.bool false), (.slice none 0 0)]))
      have hsl : ∀ j, 0 ≤ sumL (L0.take j) (endsF (comP ps) n m) ∧ sumL (L0.take j) (endsF (comP ps) n m) ≤ (64 ^ 61 : Nat) := by
        intro j
        have h1 := sumL_bound (k := ((64 ^ 60 : Nat) : Int)) (Int.natCast_nonneg _) (l := L0.take j) (f := endsF (comP ps) n m) (fun d _ => by
          have h2 := hb m d
          have h3 : ((64 ^ m : Nat) : Int) ≤ ((64 ^ 60 : Nat) : Int) := Int.ofNat_le.2 (Nat.pow_le_pow_right (by decide) (by omega))
          exact ⟨h2.1, Int.le_trans h2.2 h3⟩)
        refine ⟨h1.1, Int.le_trans h1.2 ?_⟩
        have h4 : (L0.take j).length ≤ 64 := by rw [List.length_take]; omega
        have h5 : (64 : Nat) ^ 61 = 64 * 64 ^ 60 := by decide +kernel
        rw [h5]
        have h6 := Nat.mul_le_mul_right (64 ^ 60) h4
        have h7 : ((L0.take j).length : Int) * ((64 ^ 60 : Nat) : Int) = (((L0.take j).length * 64 ^ 60 : Nat) : Int) := by rw [Int.natCast_mul]
        rw [h7]
        exact Int.ofNat_le.2 h6
      have h61 : ∀ z : Int, 0 ≤ z ∧ z ≤ (64 ^ 61 : Nat) → z.natAbs < bigW := by
        rintro z ⟨a, b⟩
        have := big64 (m := 61) (by decide)
        omega
      refine loopL (σ := Nat × Value × Heap) (fun p => [I p.1]) (fun p => p.2.2)
        (fun p => p.1 ≤ L0.length ∧ EX g p.2.2 ∧ p.2.2[g3.length]? = some (.arr 46 [B (decide (sumL (L0.take p.1) (endsF (comP ps) n m) < 0)), p.2.1]) ∧ MagZ p.2.2 p.2.1 (sumL (L0.take p.1) (endsF (comP ps) n m)).natAbs) (fun p => L0.length - p.1)
        (0, w3, _) rfl rfl ⟨Nat.zero_le _, y3.trans y4, k4, hw3.mono y4⟩ ?_
      rintro ⟨j, w, gx⟩ ⟨hj, xgx, kx, mx⟩ L3 hL3
      simp only at hj xgx kx mx hL3 ⊢
      have hgl : g.length ≤ g3.length := y3.1
      rw [q28z51]
      simp only [lenL, OP_some, bin_lss, IfP_dec]
      refine ⟨fun hlt3 => ?_, fun hge3 => ?_⟩
      · have hjL : j < L0.length := by omega
        have hst := sumL_take (endsF (comP ps) n m) L0 hjL
        have hgetD := getD_map L0 (endsF (comP ps) n m) hjL
        have hsj := h61 _ (hsl j)
        have hbd := hb m L0[j]
        have hmev : m < evl.length := by omega
        obtain ⟨ei, ei1, ei2⟩ := (hown.mono xgx).at hmev
        obtain ⟨ra, rx, ra1, ra2, ra3⟩ := ((hrows m hmev).mono xgx).get (j := j) (by simpa using hjL)
        rw [hgetD] at ra3
        have hbw : (endsF (comP ps) n m L0[j]).natAbs < bigW := by
          have h9 := big64 (m := m) (by omega)
          generalize 64 ^ m = P at hbd h9
          omega
        rw [load2 kx]
        simp only [OP_some, ei1, ei2, ra1, ra2, true_and]
        refine C74 (⟨w, rfl, mx⟩ : ZV gx _ (sumL (L0.take j) (endsF (comP ps) n m))) ra3 hsj hbw ?_
        intro r7 g7 y7 z7
        obtain ⟨w7, rfl, hw7⟩ := z7
        have k7 := y7.get kx
        rw [store2 k7]
        simp only [OH_some, bin_add, OP_some, inc j (by omega), true_and]
        rw [← hst] at hw7 ⊢
        refine hL3 (j + 1, w7, _) ⟨by show j + 1 ≤ L0.length; omega, (xgx.trans y7).set hgl _, ?_, ?_⟩ (by show L0.length - (j + 1) < L0.length - j; omega)
        · exact set_get k7
        · exact hw7.setB k7 _
      · have hje : j = L0.length := by omega
        subst hje
        rw [List.take_length] at kx mx
        rw [q28z56, load2 kx]
        simp only [OP_some]
        have k9 := xgx.get kg
        refine fin2z k9 (hk _ _ ((xhg.trans xgx).set (Nat.le_refl _) _) ?_)
        rw [hrow, if_neg (by omega), Int.zero_add]
        have zz : ZV gx (.agg #[B (decide (sumL L0 (endsF (comP ps) n m) < 0)), w]) (sumL L0 (endsF (comP ps) n m)) := ⟨w, rfl, mx⟩
        exact zz.setB k9 _

end Go.Proofs.Ytjdlcokhlphmhaa

/-
  The law of Count and Cliques.
-/
namespace Go.Proofs.Ytjdlcokhlphmhaa
open Go.Sim

theorem cm_com (ps : List (Int × Int)) {n a b : Nat} (hn : n ≤ 6) (hb : b < a) (ha : a < n) : cmOf ps a b = comP ps a b := by
  have h := frM_cmOf ps (a := a) (b := b) (by omega) (by omega)
  unfold frM at h
  rw [lt_toNat (show a < 100 by omega), lt_toNat (show b < 100 by omega), show 97 + a - 97 = a by omega, show 97 + b - 97 = b by omega] at h
  have hne : (a != b) = true := by simp; omega
  unfold comP
  rw [hne, Bool.true_and, h]

theorem cliques_same {ps : List (Int × Int)} {n : Nat} (hn : n ≤ 6) {os : List Nat} (h1 : os.getLast? ≠ some 0) (h2 : ∀ i, os.getD i 0 = cntB (setsL (comP ps) n) i) : os = cqL (cmOf ps) n := by
  refine same_of_getD h1 (dropT_last _) fun i => ?_
  rw [h2 i]
  have hc : (cntB (setsL (comP ps) n) i : Int) = cqU (comP ps) n (2 ^ n) i := by rw [cntB_sum, cqU_CS]
  by_cases hi : i ≤ n
  · rw [cqL_getD _ hi, cqU_agree (com := comP ps) fun a b h3 h4 => cm_com ps hn h3 h4]
    omega
  · have h3 : (cqL (cmOf ps) n).getD i 0 = 0 := by
      have := cqL_len (cmOf ps) n
      simp only [List.getD_eq_getElem?_getD]
      rw [List.getElem?_eq_none (by omega)]; rfl
    rw [h3]
    have : (cntB (setsL (comP ps) n) i : Int) = 0 := by
      rw [cntB_sum]
      refine (sumL_congr fun u hu => ?_).trans (sumL_zero _)
      have := setsL_len (comP ps) n u hu
      rw [if_neg (by omega)]
    omega

theorem pow512b {m : Nat} (h : m ≤ 61) : 512 ^ m < 10000 ^ 199 := by
  refine Nat.lt_of_le_of_lt (Nat.pow_le_pow_right (by decide) h) ?_
  decide +kernel

theorem C4 {ps : List (Int × Int)} {pv : Value} {k n : Int} {h : Heap} {K : Value → Heap → Prop} (hp : PSl h pv ps) (hk : ∀ h', K (B true) h') : CallP Try.prog 4 [.agg #[I k, pv], I n] h K := by
  refine f4 ?_
  unfold T4
  refine pre_threads hp ?_
  intro h2 qv qs hps hl31
  simp only [ext_tuple, pair0, pair1, OP_some]
  -- what Count answers, whatever it is
  have tail : ∀ (cs : List UInt8) (e : Int) (h3 : Heap), EX h2 h3 → (threadsOk k qs = false → cs = [] ∧ e = 1) → (∀ q : Nat, k = q → threadsOk q qs = true → (n < 0 ∨ 60 < n) → cs = [] ∧ e = 1) →
      (∀ q m : Nat, k = q → n = m → threadsOk q qs = true → m ≤ 60 → cs = numS (cntF (cqL (cmOf qs) q) m) ∧ e = 0) →
      CallP Try.prog 23 [I k, qv] h3 (fun x26 h_4 => OP (iExt 0 x26) fun x27 => OP (iExt 1 x26) fun x28 => CallP Try.prog 24 [I k, qv] h_4 fun x31 h_5 => OP (iUn .not x31) fun x32 =>
        IfP x32 (OP (iBin .eql (S cs) (.string ⟨#[]⟩)) fun x34 => p4z9 Try.prog K (I e) x27 x28 x34 h_5)
          (CallP Try.prog 26 [I k, qv] h_5 fun x54 h_6 => CallP Try.prog 25 [x27, x54] h_6 fun x55 h_7 => OP (iUn .not x55) fun x56 => p4z27 Try.prog K (I n) (I k) qv (S cs) (I e) x28 x56 h_7)) := by
    intro cs e h3 x3 c1 c2 c3
    have hps3 := hps.mono x3
    refine C23 hps3 (by omega) (fun ht h4 x4 => ?_) (fun q hq ht hq1 hq6 v h4 x4 hd => ?_)
    · obtain ⟨rfl, rfl⟩ := c1 ht
      simp only [ext_tuple, pair0, pair1, OP_some]
      refine C24 (hps3.mono x4) (by omega) ?_
      rw [ht]
      simp only [un_not, OP_some, Bool.not_false, IfP_true, S_nil, bin_eqlS, decide_true, q4z9, GdP_tt, bin_eql, q4z11, iPick_t, q4z13]
      have e0 : iLenSl (.slice none 0 0) = some (I 0) := rfl
      simp only [e0, OP_some, bin_eql, decide_true, q4z15, iPick_t, q4z17, GdP_tt, q4z19, q4z21]
      refine C20 ?_
      simp only [q4z23, iPick_t, OP_some]
      exact hk _
    · subst hq
      simp only [ext_tuple, pair0, pair1, OP_some]
      refine C24 (hps3.mono x4) (by omega) ?_
      rw [ht]
      simp only [un_not, OP_some, Bool.not_true, IfP_false]
      have hps4 := hps3.mono x4
      refine C26 hps4 (threadsOk_good ht).1 (by omega) hq6 ?_
      intro w h5 os x5 dw lw lastw cw
      have hos := cliques_same hq6 lastw cw
      subst hos
      refine C25e ((hd.mono x5).ns (by omega)) (dw.ns (by omega)) (by simp; omega) ?_
      simp only [un_not, OP_some, Bool.not_true, q4z27, GdP_ff, bin_neq, decide_true, q4z29, iPick_f, q4z31]
      refine C20 ?_
      simp only [un_not, OP_some, Bool.not_true, q4z33, iPick_f, IfP_false, bin_lss]
      -- refused numbers
      have bad : (n < 0 ∨ 60 < n) → p4z43 Try.prog K (I e) (B true) h5 ∧ iBin .eql (S cs) (.string ⟨#[]⟩) = some (B true) := by
        intro hb
        obtain ⟨rfl, rfl⟩ := c2 q rfl ht hb
        constructor
        · simp only [q4z43, GdP_tt, bin_eql, decide_true, OP_some, q4z45, iPick_t]
          exact hk _
        · rw [S_nil, bin_eqlS]; rfl
      by_cases hn0 : n < 0
      · obtain ⟨b1, b2⟩ := bad (.inl hn0)
        rw [decide_eq_true hn0]
        simp only [q4z38, GdP_tf, q4z40, iPick_t, OP_some, IfP_true, b2]
        exact b1
      · rw [decide_eq_false hn0]
        simp only [q4z38, GdP_ff, bin_gtr, OP_some, q4z40, iPick_f, IfP_dec]
        refine ⟨fun h60 => ?_, fun h60 => ?_⟩
        · obtain ⟨b1, b2⟩ := bad (.inr h60)
          simp only [b2, OP_some]
          exact b1
        · obtain ⟨m, rfl⟩ : ∃ m : Nat, n = m := ⟨n.toNat, by omega⟩
          have hm60 : m ≤ 60 := by omega
          obtain ⟨rfl, rfl⟩ := c3 q m rfl rfl ht hm60
          refine C28 (hps4.mono x5) ht (by omega) hq6 hm60 ?_
          intro r h6 x6 z6
          rw [rows_cnt (cm := cmOf qs) (comP_sym qs) (comP_irr qs) hq1 hq6 (fun a b h3 h4 => cm_com qs hq6 h3 h4)] at z6
          refine C29 (z := 1) (by decide) ?_
          intro r7 h7 x7 z7
          have z6' := z6.mono x7
          obtain ⟨u, rfl, hu⟩ := z6'
          obtain ⟨w1, rfl, hw⟩ := z7
          obtain ⟨xs, dx, _⟩ := id hu
          obtain ⟨ys, dy, _⟩ := id hw
          rw [build4 dx dy]
          simp only [OP_some]
          obtain ⟨s7, s64⟩ := cqL_small (cmOf qs) hq6
          have hcb := cntF_bound (cqL (cmOf qs) q) s64 s7 m
          refine C27 (a := cntF (cqL (cmOf qs) q) m) ⟨u, w1, rfl, hu, hw⟩ (Nat.lt_of_le_of_lt hcb (pow512b (by omega))) ?_
          intro h8 x8
          simp only [decide_true, q4z48, GdP_tt, bin_eql, OP_some, q4z50, iPick_t]
          exact hk _
  refine C22 hps (by omega) (fun hb h3 x3 => ?_) (fun q m hq hm ht hm60 hq1 hq6 h3 x3 => ?_)
  · simp only [ext_tuple, pair0, pair1, OP_some]
    refine tail [] 1 h3 x3 (fun _ => ⟨rfl, rfl⟩) (fun _ _ _ _ => ⟨rfl, rfl⟩) fun q m hq hm ht hm60 => ?_
    exfalso
    subst hq
    rcases hb with hb | hb | hb
    · rw [ht] at hb; cases hb
    · omega
    · omega
  · simp only [ext_tuple, pair0, pair1, OP_some]
    refine tail _ 0 h3 x3 (fun hc => ?_) (fun _ _ _ hb => by exfalso; omega) fun q2 m2 hq2 hm2 _ _ => ?_
    · exfalso
      subst hq
      rw [ht] at hc; cases hc
    · have e1 : q2 = q := by omega
      have e2 : m2 = m := by omega
      subst e1 e2
      exact ⟨rfl, rfl⟩

end Go.Proofs.Ytjdlcokhlphmhaa
