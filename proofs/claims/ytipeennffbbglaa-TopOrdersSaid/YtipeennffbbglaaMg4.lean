/-
  The rounds of the two ranges over letters.
-/
import Derived.Test.YtipeennffbbglaaMg5
import Derived.Test.YtipeennffbbglaaSp4
import Derived.Test.YtipeennffbbglaaCtW
namespace Go.Proofs.Ytipeennffbbglaa
open Go.Sim

def YK (i : Nat) (o : IObj) (K : Value → Heap → Prop) : Exit → (Nat → Value) → Heap → Prop := fun e _ h2 => e = .normal ∧ h2[i]? = some .dead ∧ K (.bool true) (h2.set i o)
def YA (P : Program) (rb : ICode) (i : Nat) (Kb : Exit → (Nat → Value) → Heap → Prop) : Exit → (Nat → Value) → Heap → Prop := fun e f1 h1 => e = .normal ∧ h1[i]? = some .dead ∧ iwpP P rb Kb f1 h1

theorem callVP_yield {P : Program} {i : Nat} {c : LoopC} {ls : List Nat} {vs args : List Value} {ia ib : ICode} {hs1 hs2 hs1' hs2' : Hints} {h : Heap} {K : Value → Heap → Prop} (hi : h[i]? = some (.loop c ls vs)) (hn : args.length = c.ps.size)
    (hps : c.ps.all (· < c.N) = true) (ha : compCode P c.N c.asg hs1 = some (ia, hs1')) (hb : compCode P c.N c.body hs2 = some (ib, hs2')) (na : noRange c.asg = true) (nb : noRange c.body = true)
    (hw : iwpP P ia (YA P ib i (YK i (.loop c ls vs) K)) (pfr c.ps.toList args (ofl ls vs)) (h.set i .dead)) : CallVP P (.func (.yield i) #[] #[]) args h K := by
  refine ⟨⟨⟨rfl, rfl⟩, yield_intro hi hn hps ha hb na nb ?_⟩⟩
  unfold YA YK at hw
  simp only [iwpP_eq] at hw
  exact hw

noncomputable def ra43 : ICode := .ops none [⟨(some 12), .p (.mv (.tmp 28))⟩]
noncomputable def rb43 : ICode := .block 1 (.ops none [⟨(some 29), .l (.load false 1 (.tmp 10))⟩,
    ⟨(some 30), .p (.mv (.tmp 12))⟩,
    ⟨(some 31), .e (.mkSl 3 1 [(.int .i64 (0))] [(0, 1, (.tmp 30))])⟩,
    ⟨(some 32), .e (.app 3 1 8 (.tmp 29) (.tmp 31))⟩,
    ⟨none, .e (.store 1 (.tmp 10) (.tmp 32))⟩])
theorem kra43 : compCode Try.prog (loopOf Try.prog 6).N (loopOf Try.prog 6).asg [] = some (ra43, []) := by kernel_rfl
theorem krb43 : compCode Try.prog (loopOf Try.prog 6).N (loopOf Try.prog 6).body [] = some (rb43, []) := by kernel_rfl
theorem ps43 : (loopOf Try.prog 6).ps = #[27, 28] := by kernel_rfl
theorem pn43 : (loopOf Try.prog 6).ps.all (· < (loopOf Try.prog 6).N) = true := by kernel_rfl
theorem na43 : noRange (loopOf Try.prog 6).asg = true := by kernel_rfl
theorem nb43 : noRange (loopOf Try.prog 6).body = true := by kernel_rfl

theorem t43 (P : Program) (i : Nat) (o : IObj) (K : Value → Heap → Prop) (a b out : Value) (g : Heap) : iwpP P ra43 (YA P rb43 i (YK i o K)) (pfr [27, 28] [a, b] (ofl [10] [out])) g =
    (Exit.normal = Exit.normal ∧ g[i]? = some .dead ∧ OP (iLoad false 1 g out) fun x29 => OH (iMkSl 3 1 [(.int .i64 0)] g [(0, 1, b)]) fun x31 h1 => OH (iApp 3 1 8 h1 x29 x31) fun x32 h2 => OH (oStore 1 h2 out x32) fun _ h3 =>
      Exit.normal = Exit.normal ∧ h3[i]? = some .dead ∧ K (.bool true) (h3.set i o)) := by kernel_rfl

theorem Y43 {i : Nat} {a b out : Value} {h : Heap} {K : Value → Heap → Prop} (hi : h[i]? = some (.loop (loopOf Try.prog 6) [10] [out]))
    (H : OP (iLoad false 1 (h.set i .dead) out) fun x29 => OH (iMkSl 3 1 [(.int .i64 0)] (h.set i .dead) [(0, 1, b)]) fun x31 h1 => OH (iApp 3 1 8 h1 x29 x31) fun x32 h2 => OH (oStore 1 h2 out x32) fun _ h3 =>
      h3[i]? = some .dead ∧ K (.bool true) (h3.set i (.loop (loopOf Try.prog 6) [10] [out]))) : CallVP Try.prog (.func (.yield i) #[] #[]) [a, b] h K := by
  have hlt := (List.getElem?_eq_some_iff.1 hi).1
  refine callVP_yield hi (by rw [ps43]; rfl) pn43 kra43 krb43 na43 nb43 ?_
  rw [ps43]
  rw [show (#[27, 28] : Array Tmp).toList = [27, 28] from rfl, t43]
  refine ⟨rfl, by simp [hlt], ?_⟩
  simpa using H

noncomputable def ra42 : ICode := .seq (.ops none [⟨(some 11), .p (.mv (.tmp 30))⟩])
 (.ops none [⟨(some 12), .p (.mv (.tmp 31))⟩])
noncomputable def rb42 : ICode := .block 1 (.seq (.seq (.ops none [⟨(some 32), .p (.mv (.tmp 12))⟩,
      ⟨(some 33), .l (.load false 1 (.tmp 10))⟩,
      ⟨(some 34), .p (.lenSl (.tmp 33))⟩,
      ⟨(some 35), .p (.bin .gtr (.tmp 32) (.tmp 34))⟩])
   (.cond (.tmp 35) (.ops none [⟨(some 36), .l (.load false 1 (.tmp 10))⟩,
      ⟨(some 37), .e (.mkSl 55 1 [(.slice none 0 0)] [(0, 1, (.const (.slice none 0 0)))])⟩,
      ⟨(some 38), .e (.app 55 1 24 (.tmp 36) (.tmp 37))⟩,
      ⟨none, .e (.store 1 (.tmp 10) (.tmp 38))⟩])
   (.skip)))
  (.cut [10, 11, 12] (.dops [(none, [⟨(some 39), .l (.load false 1 (.tmp 10)), 0⟩,
    ⟨(some 40), .p (.mv (.tmp 12)), 0⟩,
    ⟨(some 41), .p (.bin .sub (.tmp 40) (.const (.int .i64 (1)))), 2⟩,
    ⟨(some 42), .l (.load false 1 (.tmp 10)), 0⟩,
    ⟨(some 43), .p (.mv (.tmp 12)), 0⟩,
    ⟨(some 44), .p (.bin .sub (.tmp 43) (.const (.int .i64 (1)))), 16⟩,
    ⟨(some 45), .p (.adrSl 1 (.tmp 42) (.tmp 44)), 56⟩,
    ⟨(some 46), .l (.load false 1 (.tmp 45)), 120⟩,
    ⟨(some 47), .p (.mv (.tmp 11)), 0⟩,
    ⟨(some 48), .e (.mkSl 5 1 [(.int .u8 (0))] [(0, 1, (.tmp 47))]), 256⟩,
    ⟨(some 49), .e (.app 5 1 1 (.tmp 46) (.tmp 48)), 1016⟩,
    ⟨(some 50), .p (.adrSl 1 (.tmp 39) (.tmp 41)), 2047⟩,
    ⟨none, .e (.store 1 (.tmp 50) (.tmp 49)), 4095⟩])])))
/-- A letter goes into its step. -/
def put42 (i : Nat) (o : IObj) (K : Value → Heap → Prop) (c step st : Value) (g : Heap) : Prop :=
  OP (iLoad false 1 g st) fun x39 => OP (iBin .sub step (.int .i64 1)) fun x41 => OP (iLoad false 1 g st) fun x42 => OP (iBin .sub step (.int .i64 1)) fun x44 => OP (iAdrSl 1 x42 x44) fun x45 => OP (iLoad false 1 g x45) fun x46 =>
  OH (iMkSl 5 1 [(.int .u8 0)] g [(0, 1, c)]) fun x48 h1 => OH (iApp 5 1 1 h1 x46 x48) fun x49 h2 => OP (iAdrSl 1 x39 x41) fun x50 => OH (oStore 1 h2 x50 x49) fun _ h3 =>
  iLoad false 1 h1 st = some x39 ∧ iLoad false 1 h2 st = some x39 ∧ iLoad false 1 h1 st = some x42 ∧ iLoad false 1 h2 st = some x42 ∧ iLoad false 1 h1 x45 = some x46 ∧ iLoad false 1 h2 x45 = some x46 ∧ h3[i]? = some .dead ∧ K (.bool true) (h3.set i o)

end Go.Proofs.Ytipeennffbbglaa

/-
  The letters of a seam, each with its step, handed on one by one.
-/
namespace Go.Proofs.Ytipeennffbbglaa
open Go.Sim

/-- Of each letter its last step. -/
def TabOk (L : List (UInt8 × Nat)) (tab : Nat → Nat) : Prop := ∀ a, a < 6 → (∀ p ∈ L, p.1 = lt a → p.2 ≤ tab a) ∧ (tab a = 0 ∨ ∃ p ∈ L, p.1 = lt a ∧ p.2 = tab a)

def tabs (tab : Nat → Nat) : List Value := (List.range 6).map fun a => I (tab a)

theorem tabs_get (tab : Nat → Nat) {a : Nat} (h : a < 6) : (tabs tab)[a]? = some (I (tab a)) := by simp [tabs, h]
theorem tabs_set (tab : Nat → Nat) {a : Nat} (m : Nat) : (tabs tab).set a (I m) = tabs (fun b => if b = a then m else tab b) := by
  apply List.ext_getElem?
  intro j
  rw [List.getElem?_set]
  by_cases hj : j < 6
  · by_cases hja : a = j
    · subst hja; simp [tabs, hj]
    · rw [if_neg hja, tabs_get _ hj, tabs_get _ hj, if_neg (fun h => hja h.symm)]
  · have h1 : ∀ t, (tabs t)[j]? = none := fun t => List.getElem?_eq_none (by simp [tabs]; omega)
    rw [h1, h1]
    split
    · rw [if_neg (by simp [tabs]; omega)]
    · rfl

def hgt (ps : List (Int × Int)) (s : List UInt8) (i : Nat) (hi : i < s.length) : Nat := nextH (freeP ps) (htsF (freeP ps) (s.take i)) s[i]

theorem hts_take (ps : List (Int × Int)) (s : List UInt8) {i : Nat} (hi : i < s.length) : htsF (freeP ps) (s.take (i + 1)) = htsF (freeP ps) (s.take i) ++ [(s[i], hgt ps s i hi)] := by
  rw [List.take_succ_eq_append_getElem hi, htsF_snoc]
  rfl

theorem hgt_le (ps : List (Int × Int)) (s : List UInt8) {i : Nat} (hi : i < s.length) : 1 ≤ hgt ps s i hi ∧ hgt ps s i hi ≤ i + 1 := by
  have := htsF_le (freeP ps) (s.take (i + 1)) (s[i], hgt ps s i hi) (by rw [hts_take ps s hi]; simp)
  rw [List.length_take] at this
  simp only at this
  omega


theorem C32 {n : Nat} {ps : List (Int × Int)} {s : List UInt8} {tv x1 x2 yv : Value} {h : Heap} {K : Value → Heap → Prop} (hn6 : n ≤ 6) (hself : ∀ a, a < 6 → freeP ps (lt a) (lt a) = false) (ls : letters n s) (hs : s.length ≤ 1000)
    (Q : Nat → Heap → Prop) (q1 : ∀ i g, Q i g → iLoad false 1 g x1 = some (S s) ∧ iLoad false 1 g x2 = some tv ∧ TH g tv n (cmOf ps) ∧ h.length < g.length) (q2 : ∀ i g o, Q i g → Q i (g.set h.length o))
    (q3 : ∀ i g (K' : Value → Heap → Prop) (hi : i < s.length), Q i g → (∀ g', Q (i + 1) g' → g'[h.length]? = g[h.length]? → K' (.bool true) g') → CallVP Try.prog yv [cv s[i], I (hgt ps s i hi)] g K')
    (q0 : Q 0 (h ++ [.arr 83 (tabs fun _ => 0)])) (qe : ∀ g, Q s.length g → K (.tuple #[]) g) : CallP Try.prog 32 [yv, x1, x2] h K := by
  refine f32 ?_
  have al : iAlloc 83 [(.int .i64 (0)), (.int .i64 (0)), (.int .i64 (0)), (.int .i64 (0)), (.int .i64 (0)), (.int .i64 (0))] h = some (pt h.length 0, h ++ [.arr 83 (tabs fun _ => 0)]) := rfl
  simp only [T32, al, OH_some, (q1 0 _ q0).1, OP_some, lenS_S]
  refine loopL (σ := Nat × Heap × (Nat → Nat)) (fun p => [I p.1]) (fun p => p.2.1) (fun p => p.1 ≤ s.length ∧ Q p.1 p.2.1 ∧ p.2.1[h.length]? = some (.arr 83 (tabs p.2.2)) ∧ TabOk (htsF (freeP ps) (s.take p.1)) p.2.2) (fun p => s.length - p.1)
    (0, h ++ [.arr 83 (tabs fun _ => 0)], fun _ => 0) rfl rfl ⟨by simp, q0, by simp, fun a _ => ⟨by simp [htsF], .inl rfl⟩⟩ ?_
  rintro ⟨i, g, tab⟩ ⟨hi, hq, hT, htab⟩ L hL
  simp only at hi hq hT htab hL ⊢
  rw [q32z4]
  obtain ⟨l1, l2, hth, hlt0⟩ := q1 i g hq
  simp only [bin_lss, OP_some, IfP_dec]
  refine ⟨fun hlt => ?_, fun hge => ?_⟩
  · have hil : i < s.length := by omega
    obtain ⟨x, hx, hsx⟩ := ls s[i] (List.getElem_mem hil)
    obtain ⟨ti, rfl, hc⟩ := id hth
    have hld : iLoad false 1 g (pt ti 0) = some (I n) := by simp [iLoad, hc, iPart, tcells]
    simp only [l2, nilck_pt, OP_some, fadr_pt, Nat.zero_add, hld]
    have tabB : ∀ a, a < 6 → tab a ≤ i := by
      intro a ha
      rcases (htab a ha).2 with h0 | ⟨p, hp, _, he⟩
      · omega
      · have := (htsF_le (freeP ps) _ p hp).2
        rw [List.length_take] at this
        omega
    refine loopL (σ := Nat × Nat) (fun p => [I p.1, I p.2]) (fun _ => g) (fun p => p.2 ≤ n ∧ 1 ≤ p.1 ∧ (∀ b, b < p.2 → freeP ps s[i] (lt b) = false → tab b + 1 ≤ p.1) ∧ (p.1 = 1 ∨ ∃ b, b < p.2 ∧ freeP ps s[i] (lt b) = false ∧ p.1 = tab b + 1)) (fun p => n - p.2)
      (1, 0) rfl rfl ⟨by simp, by simp, by simp, by simp⟩ ?_
    rintro ⟨st, a⟩ ⟨ha, hst, hst1, hst2⟩ L2 hL2
    simp only at ha hst hst1 hst2 hL2 ⊢
    rw [q32z14]
    have hstB : st ≤ i + 1 := by
      rcases hst2 with h0 | ⟨b, hb, _, he⟩
      · omega
      · have := tabB b (by omega); omega
    simp only [bin_lss, OP_some, IfP_dec]
    refine ⟨fun hlt2 => ?_, fun hge2 => ?_⟩
    · have hal : a < n := by omega
      simp only [l1, l2, OP_some, conv_int, true_and]
      rw [idxS_S s hil]
      simp only [OP_some, bin_add]
      rw [wrapU8 (n := (a : Int)) (by omega) (by omega), wrapU8 (by omega) (by omega)]
      have ecv : (.int .u8 (97 + (a : Int)) : Value) = cv (lt a) := by rw [cv_lt (by omega)]; congr 1
      rw [ecv]
      have hfr : frM (cmOf ps) (lt x) (lt a) = freeP ps s[i] (lt a) := by rw [hsx]; exact frM_cmOf ps (by omega) (by omega)
      have key : CallP Try.prog 31 [pt ti 0, cv s[i], cv (lt a)] g fun v h => v = B (!freeP ps s[i] (lt a)) ∧ h = g := by
        rw [← hfr, hsx]
        exact C31 hth (by omega) (by omega) ⟨rfl, rfl⟩
      refine key.mono ?_
      rintro v g' ⟨rfl, rfl⟩
      have next : ∀ st', 1 ≤ st' → (∀ b, b < a + 1 → freeP ps s[i] (lt b) = false → tab b + 1 ≤ st') → (st' = 1 ∨ ∃ b, b < a + 1 ∧ freeP ps s[i] (lt b) = false ∧ st' = tab b + 1) →
          p32z21 Try.prog K yv x1 x2 (pt h.length 0) (I i) (I st') (I s.length) (I i) (I n) (I a) L L2 g' := by
        intro st' w1 w2 w3
        rw [q32z21]
        simp only [bin_add, OP_some, inc a (by omega), true_and]
        exact hL2 (st', a + 1) ⟨by show a + 1 ≤ n; omega, w1, w2, w3⟩ (by show n - (a + 1) < n - a; omega)
      cases hfa : freeP ps s[i] (lt a) with
      | true =>
        simp only [Bool.not_true, IfP_false, true_and]
        refine next st hst (fun b hb hbf => ?_) (hst2.imp id fun ⟨b, hb, h1, h2⟩ => ⟨b, by omega, h1, h2⟩)
        by_cases hba : b = a
        · subst hba; rw [hfa] at hbf; cases hbf
        · exact hst1 b (by omega) hbf
      | false =>
        have e1 : iAdrArr 6 1 (pt h.length 0) (I a) = some (pt h.length a) := by
          have : (0 : Int) ≤ (a : Int) ∧ (a : Int) < 6 := by omega
          simp [iAdrArr, this]
        have e2 : iLoad false 1 g' (pt h.length a) = some (I (tab a)) := by
          simp [iLoad, objCells, hT, iPart, tabs_get tab (show a < 6 by omega)]
        have hta := tabB a (by omega)
        simp only [Bool.not_false, IfP_true, true_and, e1, OP_some, e2, bin_add, inc (tab a) (by omega), max2']
        have em : max (st : Int) ((tab a + 1 : Nat) : Int) = ((max st (tab a + 1) : Nat) : Int) := by omega
        rw [em]
        refine next _ (by omega) (fun b hb hbf => ?_) ?_
        · by_cases hba : b = a
          · subst hba; omega
          · have := hst1 b (by omega) hbf; omega
        · by_cases hm : st ≤ tab a + 1
          · exact .inr ⟨a, by omega, hfa, by omega⟩
          · have : max st (tab a + 1) = st := by omega
            rw [this]
            exact hst2.imp id fun ⟨b, hb, h1, h2⟩ => ⟨b, by omega, h1, h2⟩
    · have : a = n := by omega
      subst this
      rw [q32z22]
      -- the step is the reference's
      have est : st = hgt ps s i hil := by
        have lL : ∀ p ∈ htsF (freeP ps) (s.take i), ∃ b, b < a ∧ p.1 = lt b := by
          intro p hp
          have : p.1 ∈ s.take i := by
            rw [← htsF_fst (freeP ps) (s.take i)]
            exact List.mem_map_of_mem hp
          exact ls _ (List.mem_of_mem_take this)
        refine Nat.le_antisymm ?_ ?_
        · rcases hst2 with h0 | ⟨b, hb, hbf, he⟩
          · rw [h0]; exact nextH_pos _ _ _
          · rw [he]
            rcases (htab b (by omega)).2 with h0 | ⟨p, hp, hp1, hp2⟩
            · rw [h0]; exact nextH_pos _ _ _
            · rw [← hp2]
              refine nextH_ge (freeP ps) hp ?_
              rw [hp1, freeP_symm]
              exact hbf
        · unfold hgt
          rcases nextH_eq (freeP ps) (htsF (freeP ps) (s.take i)) s[i] with h0 | ⟨p, hp, hpf, he⟩
          · rw [h0]; exact hst
          · rw [he]
            obtain ⟨b, hb, hpb⟩ := lL p hp
            have h1 := (htab b (by omega)).1 p hp hpb
            have h2 := hst1 b hb (by rw [freeP_symm, ← hpb]; exact hpf)
            omega
      simp only [l1, OP_some]
      rw [idxS_S s hil]
      simp only [OP_some, bin_sub]
      have e97 : IntKind.wrap .u8 ((s[i].toNat : Int) - 97) = (x : Int) := by rw [hsx]; exact sub97 (by omega)
      rw [e97]
      have e1 : iAdrArr 6 1 (pt h.length 0) (.int .u8 (x : Int)) = some (pt h.length x) := by
        have : (0 : Int) ≤ (x : Int) ∧ (x : Int) < 6 := by omega
        simp [iAdrArr, this]
      have hx6 : x < 6 := by omega
      have e2 : oStore 1 g (pt h.length x) (I st) = some (undef, g.set h.length (.arr 83 (tabs fun b => if b = x then st else tab b))) := by
        rw [← tabs_set]
        exact store_at hT (by simp [tabs]; omega) rfl rfl
      simp only [e1, OP_some, e2, OH_some]
      have hq' := q2 i g (.arr 83 (tabs fun b => if b = x then st else tab b)) hq
      simp only [(q1 i _ hq').1, OP_some]
      rw [idxS_S s hil]
      simp only [OP_some]
      rw [est] at hq' ⊢
      refine q3 i _ _ hil hq' ?_
      intro g' hg' hgT
      simp only [un_not, OP_some, Bool.not_true, IfP_false, q32z25, bin_add, inc i (by omega), true_and]
      refine hL (i + 1, g', fun b => if b = x then hgt ps s i hil else tab b) ⟨by show i + 1 ≤ s.length; omega, hg', ?_, ?_⟩ (by show s.length - (i + 1) < s.length - i; omega)
      · rw [hgT]
        simp [hlt0]
      · intro b hb
        show (∀ p ∈ htsF (freeP ps) (s.take (i + 1)), _) ∧ _
        rw [hts_take ps s hil]
        have hmax : tab x ≤ hgt ps s i hil := by
          rcases (htab x hx6).2 with h0 | ⟨p, hp, hp1, hp2⟩
          · omega
          · have := nextH_ge (freeP ps) (L := htsF (freeP ps) (s.take i)) (c := s[i]) hp (by rw [hp1, hsx]; exact hself x hx6)
            unfold hgt
            omega
        by_cases hbx : b = x
        · subst hbx
          simp only [if_true]
          refine ⟨fun p hp hp1 => ?_, .inr ⟨(s[i], hgt ps s i hil), by simp, hsx, rfl⟩⟩
          rcases List.mem_append.1 hp with hp | hp
          · have := (htab b hb).1 p hp hp1; omega
          · rw [List.mem_singleton] at hp; subst hp; exact Nat.le_refl _
        · simp only [if_neg hbx]
          refine ⟨fun p hp hp1 => ?_, (htab b hb).2.imp id fun ⟨p, hp, h1, h2⟩ => ⟨p, by simp [hp], h1, h2⟩⟩
          rcases List.mem_append.1 hp with hp | hp
          · exact (htab b hb).1 p hp hp1
          · rw [List.mem_singleton] at hp
            subst hp
            simp only at hp1
            rw [hsx] at hp1
            exact absurd (lt_inj (by omega) (by omega) hp1).symm hbx
  · have : i = s.length := by omega
    subst this
    exact qe g hq

end Go.Proofs.Ytipeennffbbglaa

/-
  Heights, both sides.
-/
namespace Go.Proofs.Ytipeennffbbglaa
open Go.Sim

/-- Steps as numbers. -/
def hl (ps : List (Int × Int)) (s : List UInt8) : List Int := (htsF (freeP ps) s).map fun p => (p.2 : Int)
def hlv (ps : List (Int × Int)) (s : List UInt8) : List Value := (hl ps s).map (Value.int .i64)

theorem hl_length (ps : List (Int × Int)) (s : List UInt8) : (hl ps s).length = s.length := by simp [hl, htsF_length]
theorem hlv_length (ps : List (Int × Int)) (s : List UInt8) : (hlv ps s).length = s.length := by simp [hlv, hl_length]

theorem hl_take (ps : List (Int × Int)) (s : List UInt8) {i : Nat} (hi : i < s.length) : hlv ps (s.take (i + 1)) = hlv ps (s.take i) ++ [I (hgt ps s i hi)] := by
  unfold hlv hl
  rw [hts_take ps s hi]
  simp

theorem OwnS.nsI {b : Nat} {hx : Heap} {e : TypeId} {v : Value} {xs : List Int} (o : OwnS b hx e v (xs.map (Value.int .i64))) (hl : xs.length ≤ maxLen) : NS hx v .i64 xs := by
  rcases o with ⟨rfl, h⟩ | ⟨i, _, rfl, hg⟩
  · have : xs = [] := by simpa using h
    subst this
    exact NS.nil _ _
  · have := NS.sl (h := hx) (e := e) (i := i) (k := .i64) (ns := xs) (.inr (by simp [objCells, hg])) hl
    simpa using this

theorem rangeP_func {P : Program} {F : FuncId} {cap : Array Value} {ls : List Nat} {vs : List Value} {c : LoopC} {h : Heap} {K : Heap → Prop} (hF : callOk P F = true)
    (hc : CallP P F (.func (.yield h.length) #[] #[] :: cap.toList) (h ++ [.loop c ls vs]) fun _ h' => (∃ c' ls' vs', h'[h.length]? = some (.loop c' ls' vs')) ∧ K (h'.set h.length .dead)) : RangeP P (.func (.func F) #[] cap) ls vs c h K := by
  rw [CallP_eq] at hc
  exact ⟨⟨hF, by simpa using hc⟩⟩

theorem ok106 : callOk Try.prog 32 = true := by kernel_rfl

theorem C20 {a : Nat} {s : List UInt8} {h : Heap} {K : Value → Heap → Prop} (hk : K (.func (.func 32) #[] #[pt (h.length + 1) 0, pt h.length 0]) (h ++ [.arr 49 [pt a 0], .arr 9 [S s]])) : CallP Try.prog 20 [pt a 0, S s] h K := by
  refine f20 ?_
  have b1 : iBox 49 h (pt a 0) = some (pt h.length 0, h ++ [.arr 49 [pt a 0]]) := rfl
  have b2 : ∀ g : Heap, iBox 9 g (S s) = some (pt g.length 0, g ++ [.arr 9 [S s]]) := fun _ => rfl
  simp only [T20, b1, OH_some, b2]
  have e : (h ++ [IObj.arr 49 [pt a 0]]).length = h.length + 1 := by simp
  rw [e]
  simpa using hk

theorem EX.takeN (l : Heap) (k : Nat) : EX (l.take k) l := ⟨by simp; omega, fun i hi => by rw [List.getElem?_take, if_pos (by simp at hi; omega)]⟩

/-- What stands where, while the letters are handed on: the box of the result behind the heap so far, the threads' box, the string's, the loop, and the table of last steps. -/
structure Stand (h2 : Heap) (e : TypeId) (c : LoopC) (v tv : Value) (s : List UInt8) (g : Heap) : Prop where
  ex : EX h2 g
  out : g[h2.length]? = some (.arr e [v])
  th : g[h2.length + 1]? = some (.arr 49 [tv])
  st : g[h2.length + 2]? = some (.arr 9 [S s])
  lp : g[h2.length + 3]? = some (.loop c [10] [pt h2.length 0])
  lt : h2.length + 4 < g.length

theorem Stand.setT {h2 : Heap} {e : TypeId} {c : LoopC} {v tv : Value} {s : List UInt8} {g : Heap} (p : Stand h2 e c v tv s g) (o : IObj) : Stand h2 e c v tv s (g.set (h2.length + 4) o) :=
  ⟨p.ex.set (by omega) _, by rw [List.getElem?_set_ne (by omega)]; exact p.out, by rw [List.getElem?_set_ne (by omega)]; exact p.th, by rw [List.getElem?_set_ne (by omega)]; exact p.st, by rw [List.getElem?_set_ne (by omega)]; exact p.lp, by simpa using p.lt⟩

theorem Stand.low {h2 : Heap} {e : TypeId} {c : LoopC} {v tv : Value} {s : List UInt8} {g : Heap} (p : Stand h2 e c v tv s g) : iLoad false 1 g (pt (h2.length + 2) 0) = some (S s) ∧ iLoad false 1 g (pt (h2.length + 1) 0) = some tv :=
  ⟨by simp [iLoad, objCells, p.st, iPart], by simp [iLoad, objCells, p.th, iPart]⟩

theorem C6 {ps : List (Int × Int)} {pv : Value} {s : List UInt8} {k : Int} {h : Heap} {K : Value → Heap → Prop} (hp : PS h pv ps) (hl0 : ps.length ≤ 100) (hs : s.length ≤ 1000)
    (hno : whyE k ps [s] 40 ≠ 0 → ∀ h', EX h h' → K (.tuple #[.slice none 0 0, I (whyE k ps [s] 40)]) h') (hyes : whyE k ps [s] 40 = 0 → ∀ v h', EX h h' → NS h' v .i64 (hl ps s) → K (.tuple #[v, I 0]) h') : CallP Try.prog 6 [I k, pv, S s] h K := by
  refine f6 ?_
  simp only [T6, mkS1, OH_some]
  have hx : EX h (h ++ [.arr 9 [S s]]) := EX.append _ _
  have hss : SS (h ++ [.arr 9 [S s]]) (sl 9 h.length 0 1) [s] := SS.sl (ls := [s]) (by simp [objCells])
  refine C15 (most := 40) (hp.mono hx) hl0 hss (by simp) (by simp; exact hs) (fun hw => ?_) (fun hw => ?_)
  · simp only [ext_tuple, pair0, pair1, OP_some, bin_neq, decide_eq_false hw, Bool.not_false, IfP_true]
    exact hno hw _ hx
  · obtain ⟨ht, hse⟩ := whyE_ok hw
    have hy2 := hyes hw
    obtain ⟨n, rfl, hn1, hn6⟩ := threadsOk_k ht
    obtain ⟨hlen, hbad⟩ := seamsE_ok hse s (by simp)
    have ls := letters_of hbad
    generalize hh1 : h ++ [.arr 9 [S s]] = h1 at *
    simp only [ext_tuple, pair0, pair1, OP_some, bin_neq, decide_true, Bool.not_true, IfP_false]
    have hth : TH (h1 ++ [.arr 58 (tcells n (cmOf ps))]) (pt h1.length 0) n (cmOf ps) := ⟨h1.length, rfl, by simp [objCells]⟩
    have x2 : EX h (h1 ++ [.arr 58 (tcells n (cmOf ps))]) := hx.push _
    generalize h1 ++ [IObj.arr 58 (tcells n (cmOf ps))] = h2 at hth x2 ⊢
    have al : iAlloc 35 [.slice none 0 0] h2 = some (pt h2.length 0, h2 ++ [.arr 35 [.slice none 0 0]]) := rfl
    simp only [al, OH_some]
    refine C20 ?_
    refine rangeP_func ok106 ?_
    simp only [List.append_assoc, List.length_append, List.length_cons, List.length_nil, List.cons_append, List.nil_append]
    have e5 : (h2 ++ [IObj.arr 35 [.slice none 0 0], .arr 49 [pt h1.length 0], .arr 9 [S s], .loop (loopOf Try.prog 6) [10] [pt h2.length 0]]).length = h2.length + 4 := by simp
    refine C32 (n := n) (ps := ps) (s := s) (tv := pt h1.length 0) hn6 (fun a ha => freeP_self ht ha) ls hs
      (fun i g => ∃ v, Stand h2 35 (loopOf Try.prog 6) v (pt h1.length 0) s g ∧ OwnS (h2.length + 5) g 3 v (hlv ps (s.take i))) ?_ ?_ ?_ ?_ ?_
    · rintro i g ⟨v, p, _⟩
      obtain ⟨a1, a2⟩ := p.low
      exact ⟨a1, a2, hth.mono p.ex, by rw [e5]; exact p.lt⟩
    · rintro i g o ⟨v, p, q⟩
      rw [e5]
      refine ⟨v, p.setT o, q.imp id fun ⟨j, h1, h2, h3⟩ => ⟨j, h1, h2, ?_⟩⟩
      rw [List.getElem?_set_ne (by omega)]
      exact h3
    · rintro i g K' hi ⟨v, p, q⟩ hK'
      rw [e5] at hK'
      refine Y43 p.lp ?_
      have pl := p.lt
      have hv1 : iLoad false 1 (g.set (h2.length + 3) .dead) (pt h2.length 0) = some v := by
        simp [iLoad, objCells, iPart, p.out]
      simp only [hv1, OP_some]
      have hT : ((g.set (h2.length + 3) .dead).take (h2.length + 5)).length = h2.length + 5 := by simp; omega
      have hq := hgt_le ps s hi
      refine app1 (h0 := (g.set (h2.length + 3) .dead).take (h2.length + 5)) (xs := hlv ps (s.take i)) (by
        rw [hT]
        refine q.imp id fun ⟨j, h1, h2, h3⟩ => ⟨j, h1, h2, ?_⟩
        rw [List.getElem?_set_ne (by omega)]
        exact h3) (EX.takeN _ _) (by rw [hlv_length, List.length_take]; omega) (by rw [hlv_length, List.length_take]; unfold maxLen; omega) rfl rfl ?_
      intro v' hx' hex' hown'
      rw [hT] at hown'
      have get : ∀ j, j < h2.length + 5 → hx'[j]? = (g.set (h2.length + 3) .dead)[j]? := by
        intro j hj
        rw [hex'.2 j (by rw [hT]; exact hj), List.getElem?_take, if_pos hj]
      have hlx : h2.length + 5 ≤ hx'.length := by have := hex'.1; rw [hT] at this; exact this
      have ho : hx'[h2.length]? = some (.arr 35 [v]) := by rw [get _ (by omega), List.getElem?_set_ne (by omega)]; exact p.out
      have hone := hown'.one
      rw [store_at ho (by simp) hone.1 hone.2]
      simp only [OH_some, List.set_cons_zero]
      have hdead : hx'[h2.length + 3]? = some .dead := by rw [get _ (by omega), List.getElem?_set_self (by omega)]
      refine ⟨by rw [List.getElem?_set_ne (by omega)]; exact hdead, hK' _ ⟨v', ⟨?_, ?_, ?_, ?_, ?_, ?_⟩, ?_⟩ ?_⟩
      · refine ⟨?_, fun j hj => ?_⟩
        · have := p.ex.1; simp; omega
        · rw [List.getElem?_set_ne (by omega), List.getElem?_set_ne (by omega), get _ (by omega), List.getElem?_set_ne (by omega)]
          exact p.ex.2 j hj
      · rw [List.getElem?_set_ne (by omega), List.getElem?_set_self (by omega)]
      · rw [List.getElem?_set_ne (by omega), List.getElem?_set_ne (by omega), get _ (by omega), List.getElem?_set_ne (by omega)]; exact p.th
      · rw [List.getElem?_set_ne (by omega), List.getElem?_set_ne (by omega), get _ (by omega), List.getElem?_set_ne (by omega)]; exact p.st
      · rw [List.getElem?_set_self (by rw [List.length_set]; omega)]
      · rw [List.length_set, List.length_set]; omega
      · rw [hl_take ps s hi]
        refine hown'.imp id fun ⟨j, h1, h2, h3⟩ => ⟨j, h1, h2, ?_⟩
        rw [List.getElem?_set_ne (by omega), List.getElem?_set_ne (by omega)]
        exact h3
      · rw [List.getElem?_set_ne (by omega), List.getElem?_set_ne (by omega), get _ (by omega), List.getElem?_set_ne (by omega)]
    · refine ⟨.slice none 0 0, ⟨?_, ?_, ?_, ?_, ?_, ?_⟩, .inl ⟨rfl, by simp [hlv, hl, htsF]⟩⟩
      · rw [List.append_assoc]; exact EX.append _ _
      all_goals simp
    · rintro g ⟨v, p, q⟩
      rw [List.take_length] at q
      refine ⟨⟨_, _, _, p.lp⟩, ?_⟩
      have hv1 : iLoad false 1 (g.set (h2.length + 3) .dead) (pt h2.length 0) = some v := by
        simp [iLoad, objCells, iPart, p.out]
      simp only [hv1, OP_some]
      refine hy2 v _ ((x2.trans p.ex).set ?_ _) ?_
      · have := x2.1; omega
      · refine OwnS.nsI (b := h2.length + 5) (e := 3) ?_ (by rw [hl_length]; unfold maxLen; omega)
        refine q.imp id fun ⟨j, h1, h2, h3⟩ => ⟨j, h1, h2, ?_⟩
        rw [List.getElem?_set_ne (by omega)]
        exact h3

theorem C14 {ps : List (Int × Int)} {pv : Value} {s : List UInt8} {h : Heap} {K : Value → Heap → Prop} (hp : PS h pv ps) (hg : good ps) (hl0 : ps.length ≤ 100) (hs : s.length ≤ 1000)
    (hk : ∀ v h', EX h h' → NS h' v .i64 (hl ps s) → K v h') : CallP Try.prog 14 [pv, S s] h K := by
  refine f14 ?_
  have mk : iMkSl 3 0 [.int .i64 0] h [] = some (sl 3 h.length 0 0, h ++ [.arr 3 []]) := rfl
  simp only [T14, mk, OH_some]
  refine loopL (σ := Nat × Value × Heap) (fun p => [p.2.1, I p.1]) (fun p => p.2.2) (fun p => p.1 ≤ s.length ∧ EX h p.2.2 ∧ OwnS h.length p.2.2 3 p.2.1 (hlv ps (s.take p.1))) (fun p => s.length - p.1)
    (0, sl 3 h.length 0 0, h ++ [.arr 3 []]) rfl rfl ⟨by simp, EX.append _ _, .inr ⟨h.length, Nat.le_refl _, by simp [hlv, hl, htsF], by simp [hlv, hl, htsF]⟩⟩ ?_
  rintro ⟨i, v, hx⟩ ⟨hi, hex, hown⟩ L hL
  simp only at hi hex hown hL ⊢
  rw [q14z6]
  have hns : NS hx v .i64 (hl ps (s.take i)) := OwnS.nsI hown (by rw [hl_length, List.length_take]; unfold maxLen; omega)
  simp only [lenS_S, bin_lss, OP_some, IfP_dec]
  refine ⟨fun hlt => ?_, fun hge => ?_⟩
  · have hil : i < s.length := by omega
    have hLl : (htsF (freeP ps) (s.take i)).length = i := by rw [htsF_length, List.length_take]; omega
    refine loopL (σ := Nat) (fun k => [I (((htsF (freeP ps) (s.take i)).take k).foldl (fun h p => if freeP ps p.1 s[i] then h else max h (p.2 + 1)) 1 : Nat), I k]) (fun _ => hx) (fun k => k ≤ i) (fun k => i - k) 0 rfl rfl (by omega) ?_
    intro k hk L2 hL2
    rw [q14z15]
    have hfb : ((htsF (freeP ps) (s.take i)).take k).foldl (fun h p => if freeP ps p.1 s[i] then h else max h (p.2 + 1)) 1 ≤ i + 1 := by
      rcases (foldH (freeP ps) (c := s[i]) ((htsF (freeP ps) (s.take i)).take k) 1).2.2 with h0 | ⟨p, hp, _, he⟩
      · omega
      · have := (htsF_le (freeP ps) _ p (List.mem_of_mem_take hp)).2
        rw [List.length_take] at this
        omega
    simp only [bin_lss, OP_some, IfP_dec]
    refine ⟨fun hlt2 => ?_, fun hge2 => ?_⟩
    · have hki : k < i := by omega
      have hkL : k < (htsF (freeP ps) (s.take i)).length := by omega
      have hks : (htsF (freeP ps) (s.take i))[k].1 = s[k]'(by omega) := by
        have := congrArg (fun l : List UInt8 => l[k]?) (htsF_fst (freeP ps) (s.take i))
        simp only [List.getElem?_map, List.getElem?_eq_getElem hkL, Option.map_some] at this
        rw [List.getElem?_take, if_pos hki, List.getElem?_eq_getElem (by omega)] at this
        exact Option.some.inj this
      have hstep : (htsF (freeP ps) (s.take i)).take (k + 1) = (htsF (freeP ps) (s.take i)).take k ++ [(htsF (freeP ps) (s.take i))[k]] := List.take_succ_eq_append_getElem hkL
      have nx := hL2 (k + 1) (by omega) (by omega)
      rw [hstep, List.foldl_append] at nx
      simp only [List.foldl_cons, List.foldl_nil] at nx
      rw [idxS_S s (by omega), idxS_S s hil]
      simp only [OP_some]
      refine C4 (hp.mono hex) hg hl0 ⟨trivial, ?_⟩
      simp only [un_not, OP_some]
      obtain ⟨b, o, g1, g2⟩ := hns.get k (by simp [hl]; omega)
      have hval : (hl ps (s.take i))[k]'(by simp [hl]; omega) = ((htsF (freeP ps) (s.take i))[k].2 : Int) := by simp [hl]
      rw [hval] at g2
      rw [hks] at nx
      have hpb := (htsF_le (freeP ps) _ _ (List.getElem_mem hkL)).2
      rw [List.length_take] at hpb
      generalize ((htsF (freeP ps) (s.take i)).take k).foldl (fun h p => if freeP ps p.1 s[i] then h else max h (p.2 + 1)) 1 = F at nx hfb ⊢
      cases hfr : freeP ps (s[k]'(by omega)) s[i] with
      | true =>
        rw [hfr] at nx
        simp only [Bool.not_true, IfP_false, q14z21, bin_add, OP_some, inc k (by omega), true_and]
        exact nx
      | false =>
        rw [hfr] at nx
        simp only [Bool.not_false, IfP_true, g1, OP_some, g2, bin_add, inc (htsF (freeP ps) (s.take i))[k].2 (by omega), max2']
        have em : max (F : Int) (((htsF (freeP ps) (s.take i))[k].2 + 1 : Nat) : Int) = ((max F ((htsF (freeP ps) (s.take i))[k].2 + 1) : Nat) : Int) := by omega
        rw [em]
        simp only [q14z21, bin_add, OP_some, inc k (by omega), true_and]
        exact nx
    · have : k = i := by omega
      subst this
      have hfull : (htsF (freeP ps) (s.take k)).take k = htsF (freeP ps) (s.take k) := List.take_of_length_le (by omega)
      rw [hfull, q14z22]
      have e : List.foldl (fun h p => if freeP ps p.1 s[k] then h else max h (p.2 + 1)) 1 (htsF (freeP ps) (s.take k)) = hgt ps s k hil := rfl
      rw [e]
      refine app1 hown hex (by rw [hlv_length, List.length_take]; omega) (by rw [hlv_length, List.length_take]; unfold maxLen; omega) rfl rfl ?_
      intro v' hx' hex' hown'
      simp only [q14z23, bin_add, OP_some, inc k (by omega), true_and]
      exact hL (k + 1, v', hx') ⟨by show k + 1 ≤ s.length; omega, hex', by rw [hl_take ps s hil]; exact hown'⟩ (by show s.length - (k + 1) < s.length - k; omega)
  · have : i = s.length := by omega
    subst this
    rw [List.take_length] at hns
    rw [q14z24]
    exact hk v hx hex hns

end Go.Proofs.Ytipeennffbbglaa
