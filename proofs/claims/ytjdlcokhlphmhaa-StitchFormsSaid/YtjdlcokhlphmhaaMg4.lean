/-
  The rounds of the two ranges over letters.
-/
import Derived.Test.YtjdlcokhlphmhaaMg3
import Derived.Test.YtjdlcokhlphmhaaSh4
import Derived.Test.YtjdlcokhlphmhaaSp4
import Derived.Test.YtjdlcokhlphmhaaSh6
namespace Go.Proofs.Ytjdlcokhlphmhaa
open Go.Sim

def YK (i : Nat) (o : IObj) (K : Value → Heap → Prop) : Exit → (Nat → Value) → Heap → Prop := fun e _ h2 => e = .normal ∧ h2[i]? = some .dead ∧ K (.bool true) (h2.set i o)
def YA (P : Program) (rb : ICode) (i : Nat) (Kb : Exit → (Nat → Value) → Heap → Prop) : Exit → (Nat → Value) → Heap → Prop := fun e f1 h1 => e = .normal ∧ h1[i]? = some .dead ∧ iwpP P rb Kb f1 h1

theorem callVP_yield {P : Program} {i : Nat} {c : LoopC} {ls : List Nat} {vs args : List Value} {ia ib : ICode} {hs1 hs2 hs1' hs2' : Hints} {h : Heap} {K : Value → Heap → Prop} (hi : h[i]? = some (.loop c ls vs)) (hn : args.length = c.ps.size)
    (hps : c.ps.all (· < c.N) = true) (ha : compCode P c.N c.asg hs1 = some (ia, hs1')) (hb : compCode P c.N c.body hs2 = some (ib, hs2')) (na : noRange c.asg = true) (nb : noRange c.body = true)
    (hw : iwpP P ia (YA P ib i (YK i (.loop c ls vs) K)) (pfr c.ps.toList args (ofl ls vs)) (h.set i .dead)) : CallVP P (.func (.yield i) #[] #[]) args h K := by
  refine ⟨⟨⟨rfl, rfl⟩, yield_intro hi hn hps ha hb na nb ?_⟩⟩
  unfold YA YK at hw
  simp only [iwpP_eq] at hw
  exact hw

noncomputable def ra43 : ICode := .ops none [⟨(some 12), .p (.mv (.tmp 28))⟩]
noncomputable def rb43 : ICode := .block 1 (.ops none [⟨(some 29), .l (.load false 1 (.tmp 10))⟩,
    ⟨(some 30), .p (.mv (.tmp 12))⟩,
    ⟨(some 31), .e (.mkSl 3 1 [(.int .i64 (0))] [(0, 1, (.tmp 30))])⟩,
    ⟨(some 32), .e (.app 3 1 8 (.tmp 29) (.tmp 31))⟩,
    ⟨none, .e (.store 1 (.tmp 10) (.tmp 32))⟩])
theorem kra43 : compCode Try.prog (loopOf Try.prog 43).N (loopOf Try.prog 43).asg [] = some (ra43, []) := by kernel_rfl
theorem krb43 : compCode Try.prog (loopOf Try.prog 43).N (loopOf Try.prog 43).body [] = some (rb43, []) := by kernel_rfl
theorem ps43 : (loopOf Try.prog 43).ps = #[27, 28] := by kernel_rfl
theorem pn43 : (loopOf Try.prog 43).ps.all (· < (loopOf Try.prog 43).N) = true := by kernel_rfl
theorem na43 : noRange (loopOf Try.prog 43).asg = true := by kernel_rfl
theorem nb43 : noRange (loopOf Try.prog 43).body = true := by kernel_rfl

theorem t43 (P : Program) (i : Nat) (o : IObj) (K : Value → Heap → Prop) (a b out : Value) (g : Heap) : iwpP P ra43 (YA P rb43 i (YK i o K)) (pfr [27, 28] [a, b] (ofl [10] [out])) g =
    (Exit.normal = Exit.normal ∧ g[i]? = some .dead ∧ OP (iLoad false 1 g out) fun x29 => OH (iMkSl 3 1 [(.int .i64 0)] g [(0, 1, b)]) fun x31 h1 => OH (iApp 3 1 8 h1 x29 x31) fun x32 h2 => OH (oStore 1 h2 out x32) fun _ h3 =>
      Exit.normal = Exit.normal ∧ h3[i]? = some .dead ∧ K (.bool true) (h3.set i o)) := by kernel_rfl

theorem Y43 {i : Nat} {a b out : Value} {h : Heap} {K : Value → Heap → Prop} (hi : h[i]? = some (.loop (loopOf Try.prog 43) [10] [out]))
    (H : OP (iLoad false 1 (h.set i .dead) out) fun x29 => OH (iMkSl 3 1 [(.int .i64 0)] (h.set i .dead) [(0, 1, b)]) fun x31 h1 => OH (iApp 3 1 8 h1 x29 x31) fun x32 h2 => OH (oStore 1 h2 out x32) fun _ h3 =>
      h3[i]? = some .dead ∧ K (.bool true) (h3.set i (.loop (loopOf Try.prog 43) [10] [out]))) : CallVP Try.prog (.func (.yield i) #[] #[]) [a, b] h K := by
  have hlt := (List.getElem?_eq_some_iff.1 hi).1
  refine callVP_yield hi (by rw [ps43]; rfl) pn43 kra43 krb43 na43 nb43 ?_
  rw [ps43]
  rw [show (#[27, 28] : Array Tmp).toList = [27, 28] from rfl, t43]
  refine ⟨rfl, by simp [hlt], ?_⟩
  simpa using H

noncomputable def ra42 : ICode := .seq (.ops none [⟨(some 11), .p (.mv (.tmp 30))⟩])
 (.ops none [⟨(some 12), .p (.mv (.tmp 31))⟩])
noncomputable def rb42 : ICode := .block 1 (.seq (.seq (.ops none [⟨(some 32), .p (.mv (.tmp 12))⟩,
      ⟨(some 33), .l (.load false 1 (.tmp 10))⟩,
      ⟨(some 34), .p (.lenSl (.tmp 33))⟩,
      ⟨(some 35), .p (.bin .gtr (.tmp 32) (.tmp 34))⟩])
   (.cond (.tmp 35) (.ops none [⟨(some 36), .l (.load false 1 (.tmp 10))⟩,
      ⟨(some 37), .e (.mkSl 55 1 [(.slice none 0 0)] [(0, 1, (.const (.slice none 0 0)))])⟩,
      ⟨(some 38), .e (.app 55 1 24 (.tmp 36) (.tmp 37))⟩,
      ⟨none, .e (.store 1 (.tmp 10) (.tmp 38))⟩])
   (.skip)))
  (.cut [10, 11, 12] (.dops [(none, [⟨(some 39), .l (.load false 1 (.tmp 10)), 0⟩,
    ⟨(some 40), .p (.mv (.tmp 12)), 0⟩,
    ⟨(some 41), .p (.bin .sub (.tmp 40) (.const (.int .i64 (1)))), 2⟩,
    ⟨(some 42), .l (.load false 1 (.tmp 10)), 0⟩,
    ⟨(some 43), .p (.mv (.tmp 12)), 0⟩,
    ⟨(some 44), .p (.bin .sub (.tmp 43) (.const (.int .i64 (1)))), 16⟩,
    ⟨(some 45), .p (.adrSl 1 (.tmp 42) (.tmp 44)), 56⟩,
    ⟨(some 46), .l (.load false 1 (.tmp 45)), 120⟩,
    ⟨(some 47), .p (.mv (.tmp 11)), 0⟩,
    ⟨(some 48), .e (.mkSl 5 1 [(.int .u8 (0))] [(0, 1, (.tmp 47))]), 256⟩,
    ⟨(some 49), .e (.app 5 1 1 (.tmp 46) (.tmp 48)), 1016⟩,
    ⟨(some 50), .p (.adrSl 1 (.tmp 39) (.tmp 41)), 2047⟩,
    ⟨none, .e (.store 1 (.tmp 50) (.tmp 49)), 4095⟩])])))
theorem kra42 : compCode Try.prog (loopOf Try.prog 42).N (loopOf Try.prog 42).asg [[]] = some (ra42, []) := by kernel_rfl
theorem krb42 : compCode Try.prog (loopOf Try.prog 42).N (loopOf Try.prog 42).body [[], [10, 11, 12]] = some (rb42, []) := by kernel_rfl
theorem ps42 : (loopOf Try.prog 42).ps = #[30, 31] := by kernel_rfl
theorem pn42 : (loopOf Try.prog 42).ps.all (· < (loopOf Try.prog 42).N) = true := by kernel_rfl
theorem na42 : noRange (loopOf Try.prog 42).asg = true := by kernel_rfl
theorem nb42 : noRange (loopOf Try.prog 42).body = true := by kernel_rfl

/-- A letter goes into its step. -/
def put42 (i : Nat) (o : IObj) (K : Value → Heap → Prop) (c step st : Value) (g : Heap) : Prop :=
  OP (iLoad false 1 g st) fun x39 => OP (iBin .sub step (.int .i64 1)) fun x41 => OP (iLoad false 1 g st) fun x42 => OP (iBin .sub step (.int .i64 1)) fun x44 => OP (iAdrSl 1 x42 x44) fun x45 => OP (iLoad false 1 g x45) fun x46 =>
  OH (iMkSl 5 1 [(.int .u8 0)] g [(0, 1, c)]) fun x48 h1 => OH (iApp 5 1 1 h1 x46 x48) fun x49 h2 => OP (iAdrSl 1 x39 x41) fun x50 => OH (oStore 1 h2 x50 x49) fun _ h3 =>
  iLoad false 1 h1 st = some x39 ∧ iLoad false 1 h2 st = some x39 ∧ iLoad false 1 h1 st = some x42 ∧ iLoad false 1 h2 st = some x42 ∧ iLoad false 1 h1 x45 = some x46 ∧ iLoad false 1 h2 x45 = some x46 ∧ h3[i]? = some .dead ∧ K (.bool true) (h3.set i o)

end Go.Proofs.Ytjdlcokhlphmhaa

/-
  The letters of a seam, each with its step, handed on one by one.
-/
namespace Go.Proofs.Ytjdlcokhlphmhaa
open Go.Sim

/-- Of each letter its last step. -/
def TabOk (L : List (UInt8 × Nat)) (tab : Nat → Nat) : Prop := ∀ a, a < 6 → (∀ p ∈ L, p.1 = lt a → p.2 ≤ tab a) ∧ (tab a = 0 ∨ ∃ p ∈ L, p.1 = lt a ∧ p.2 = tab a)

def tabs (tab : Nat → Nat) : List Value := (List.range 6).map fun a => I (tab a)

theorem tabs_get (tab : Nat → Nat) {a : Nat} (h : a < 6) : (tabs tab)[a]? = some (I (tab a)) := by simp [tabs, h]
theorem tabs_set (tab : Nat → Nat) {a : Nat} (m : Nat) : (tabs tab).set a (I m) = tabs (fun b => if b = a then m else tab b) := by
  apply List.ext_getElem?
  intro j
  rw [List.getElem?_set]
  by_cases hj : j < 6
  · by_cases hja : a = j
    · subst hja; simp [tabs, hj]
    · rw [if_neg hja, tabs_get _ hj, tabs_get _ hj, if_neg (fun h => hja h.symm)]
  · have h1 : ∀ t, (tabs t)[j]? = none := fun t => List.getElem?_eq_none (by simp [tabs]; omega)
    rw [h1, h1]
    split
    · rw [if_neg (by simp [tabs]; omega)]
    · rfl

def hgt (ps : List (Int × Int)) (s : List UInt8) (i : Nat) (hi : i < s.length) : Nat := nextH (freeP ps) (htsF (freeP ps) (s.take i)) s[i]

theorem hts_take (ps : List (Int × Int)) (s : List UInt8) {i : Nat} (hi : i < s.length) : htsF (freeP ps) (s.take (i + 1)) = htsF (freeP ps) (s.take i) ++ [(s[i], hgt ps s i hi)] := by
  rw [List.take_succ_eq_append_getElem hi, htsF_snoc]
  rfl

theorem hgt_le (ps : List (Int × Int)) (s : List UInt8) {i : Nat} (hi : i < s.length) : 1 ≤ hgt ps s i hi ∧ hgt ps s i hi ≤ i + 1 := by
  have := htsF_le (freeP ps) (s.take (i + 1)) (s[i], hgt ps s i hi) (by rw [hts_take ps s hi]; simp)
  rw [List.length_take] at this
  simp only at this
  omega

theorem setAt_one (xs : List Value) (o : Nat) (v : Value) (ho : o < xs.length) : setAt xs o [v] = xs.set o v := by
  unfold setAt
  rw [List.set_eq_take_append_cons_drop, if_pos ho]
  simp

theorem store_at {h : Heap} {i o : Nat} {e : TypeId} {xs : List Value} {v : Value} (hg : h[i]? = some (.arr e xs)) (ho : o < xs.length) (h1 : noTuple v = true) (h2 : vcells v = [v]) : oStore 1 h (pt i o) v = some (undef, h.set i (.arr e (xs.set o v))) := by
  simp only [oStore, iStore, hg, h1, h2, setAt_one _ _ _ ho]
  rw [if_pos ⟨trivial, rfl, by omega⟩]
  rfl

theorem C106 {n : Nat} {ps : List (Int × Int)} {s : List UInt8} {tv x1 x2 yv : Value} {h : Heap} {K : Value → Heap → Prop} (hn6 : n ≤ 6) (hself : ∀ a, a < 6 → freeP ps (lt a) (lt a) = false) (ls : letters n s) (hs : s.length ≤ 1000)
    (Q : Nat → Heap → Prop) (q1 : ∀ i g, Q i g → iLoad false 1 g x1 = some (S s) ∧ iLoad false 1 g x2 = some tv ∧ TH g tv n (cmOf ps) ∧ h.length < g.length) (q2 : ∀ i g o, Q i g → Q i (g.set h.length o))
    (q3 : ∀ i g (K' : Value → Heap → Prop) (hi : i < s.length), Q i g → (∀ g', Q (i + 1) g' → g'[h.length]? = g[h.length]? → K' (.bool true) g') → CallVP Try.prog yv [cv s[i], I (hgt ps s i hi)] g K')
    (q0 : Q 0 (h ++ [.arr 157 (tabs fun _ => 0)])) (qe : ∀ g, Q s.length g → K (.tuple #[]) g) : CallP Try.prog 106 [yv, x1, x2] h K := by
  refine f106 ?_
  have al : iAlloc 157 [(.int .i64 (0)), (.int .i64 (0)), (.int .i64 (0)), (.int .i64 (0)), (.int .i64 (0)), (.int .i64 (0))] h = some (pt h.length 0, h ++ [.arr 157 (tabs fun _ => 0)]) := rfl
  simp only [T106, al, OH_some, (q1 0 _ q0).1, OP_some, lenS_S]
  refine loopL (σ := Nat × Heap × (Nat → Nat)) (fun p => [I p.1]) (fun p => p.2.1) (fun p => p.1 ≤ s.length ∧ Q p.1 p.2.1 ∧ p.2.1[h.length]? = some (.arr 157 (tabs p.2.2)) ∧ TabOk (htsF (freeP ps) (s.take p.1)) p.2.2) (fun p => s.length - p.1)
    (0, h ++ [.arr 157 (tabs fun _ => 0)], fun _ => 0) rfl rfl ⟨by simp, q0, by simp, fun a _ => ⟨by simp [htsF], .inl rfl⟩⟩ ?_
  rintro ⟨i, g, tab⟩ ⟨hi, hq, hT, htab⟩ L hL
  simp only at hi hq hT htab hL ⊢
  rw [q106z4]
  obtain ⟨l1, l2, hth, hlt0⟩ := q1 i g hq
  simp only [bin_lss, OP_some, IfP_dec]
  refine ⟨fun hlt => ?_, fun hge => ?_⟩
  · have hil : i < s.length := by omega
    obtain ⟨x, hx, hsx⟩ := ls s[i] (List.getElem_mem hil)
    obtain ⟨ti, rfl, hc⟩ := id hth
    have hld : iLoad false 1 g (pt ti 0) = some (I n) := by simp [iLoad, hc, iPart, tcells]
    simp only [l2, nilck_pt, OP_some, fadr_pt, Nat.zero_add, hld]
    have tabB : ∀ a, a < 6 → tab a ≤ i := by
      intro a ha
      rcases (htab a ha).2 with h0 | ⟨p, hp, _, he⟩
      · omega
      · have := (htsF_le (freeP ps) _ p hp).2
        rw [List.length_take] at this
        omega
    refine loopL (σ := Nat × Nat) (fun p => [I p.1, I p.2]) (fun _ => g) (fun p => p.2 ≤ n ∧ 1 ≤ p.1 ∧ (∀ b, b < p.2 → freeP ps s[i] (lt b) = false → tab b + 1 ≤ p.1) ∧ (p.1 = 1 ∨ ∃ b, b < p.2 ∧ freeP ps s[i] (lt b) = false ∧ p.1 = tab b + 1)) (fun p => n - p.2)
      (1, 0) rfl rfl ⟨by simp, by simp, by simp, by simp⟩ ?_
    rintro ⟨st, a⟩ ⟨ha, hst, hst1, hst2⟩ L2 hL2
    simp only at ha hst hst1 hst2 hL2 ⊢
    rw [q106z14]
    have hstB : st ≤ i + 1 := by
      rcases hst2 with h0 | ⟨b, hb, _, he⟩
      · omega
      · have := tabB b (by omega); omega
    simp only [bin_lss, OP_some, IfP_dec]
    refine ⟨fun hlt2 => ?_, fun hge2 => ?_⟩
    · have hal : a < n := by omega
      simp only [l1, l2, OP_some, conv_int, true_and]
      rw [idxS_S s hil]
      simp only [OP_some, bin_add]
      rw [wrapU8 (n := (a : Int)) (by omega) (by omega), wrapU8 (by omega) (by omega)]
      have ecv : (.int .u8 (97 + (a : Int)) : Value) = cv (lt a) := by rw [cv_lt (by omega)]; congr 1
      rw [ecv]
      have hfr : frM (cmOf ps) (lt x) (lt a) = freeP ps s[i] (lt a) := by rw [hsx]; exact frM_cmOf ps (by omega) (by omega)
      have key : CallP Try.prog 81 [pt ti 0, cv s[i], cv (lt a)] g fun v h => v = B (!freeP ps s[i] (lt a)) ∧ h = g := by
        rw [← hfr, hsx]
        exact C81 hth (by omega) (by omega) ⟨rfl, rfl⟩
      refine key.mono ?_
      rintro v g' ⟨rfl, rfl⟩
      have next : ∀ st', 1 ≤ st' → (∀ b, b < a + 1 → freeP ps s[i] (lt b) = false → tab b + 1 ≤ st') → (st' = 1 ∨ ∃ b, b < a + 1 ∧ freeP ps s[i] (lt b) = false ∧ st' = tab b + 1) →
          p106z21 Try.prog K yv x1 x2 (pt h.length 0) (I i) (I st') (I s.length) (I i) (I n) (I a) L L2 g' := by
        intro st' w1 w2 w3
        rw [q106z21]
        simp only [bin_add, OP_some, inc a (by omega), true_and]
        exact hL2 (st', a + 1) ⟨by show a + 1 ≤ n; omega, w1, w2, w3⟩ (by show n - (a + 1) < n - a; omega)
      cases hfa : freeP ps s[i] (lt a) with
      | true =>
        simp only [Bool.not_true, IfP_false, true_and]
        refine next st hst (fun b hb hbf => ?_) (hst2.imp id fun ⟨b, hb, h1, h2⟩ => ⟨b, by omega, h1, h2⟩)
        by_cases hba : b = a
        · subst hba; rw [hfa] at hbf; cases hbf
        · exact hst1 b (by omega) hbf
      | false =>
        have e1 : iAdrArr 6 1 (pt h.length 0) (I a) = some (pt h.length a) := by
          have : (0 : Int) ≤ (a : Int) ∧ (a : Int) < 6 := by omega
          simp [iAdrArr, this]
        have e2 : iLoad false 1 g' (pt h.length a) = some (I (tab a)) := by
          simp [iLoad, objCells, hT, iPart, tabs_get tab (show a < 6 by omega)]
        have hta := tabB a (by omega)
        simp only [Bool.not_false, IfP_true, true_and, e1, OP_some, e2, bin_add, inc (tab a) (by omega), max2']
        have em : max (st : Int) ((tab a + 1 : Nat) : Int) = ((max st (tab a + 1) : Nat) : Int) := by omega
        rw [em]
        refine next _ (by omega) (fun b hb hbf => ?_) ?_
        · by_cases hba : b = a
          · subst hba; omega
          · have := hst1 b (by omega) hbf; omega
        · by_cases hm : st ≤ tab a + 1
          · exact .inr ⟨a, by omega, hfa, by omega⟩
          · have : max st (tab a + 1) = st := by omega
            rw [this]
            exact hst2.imp id fun ⟨b, hb, h1, h2⟩ => ⟨b, by omega, h1, h2⟩
    · have : a = n := by omega
      subst this
      rw [q106z22]
      -- the step is the reference's
      have est : st = hgt ps s i hil := by
        have lL : ∀ p ∈ htsF (freeP ps) (s.take i), ∃ b, b < a ∧ p.1 = lt b := by
          intro p hp
          have : p.1 ∈ s.take i := by
            rw [← htsF_fst (freeP ps) (s.take i)]
            exact List.mem_map_of_mem hp
          exact ls _ (List.mem_of_mem_take this)
        refine Nat.le_antisymm ?_ ?_
        · rcases hst2 with h0 | ⟨b, hb, hbf, he⟩
          · rw [h0]; exact nextH_pos _ _ _
          · rw [he]
            rcases (htab b (by omega)).2 with h0 | ⟨p, hp, hp1, hp2⟩
            · rw [h0]; exact nextH_pos _ _ _
            · rw [← hp2]
              refine nextH_ge (freeP ps) hp ?_
              rw [hp1, freeP_symm]
              exact hbf
        · unfold hgt
          rcases nextH_eq (freeP ps) (htsF (freeP ps) (s.take i)) s[i] with h0 | ⟨p, hp, hpf, he⟩
          · rw [h0]; exact hst
          · rw [he]
            obtain ⟨b, hb, hpb⟩ := lL p hp
            have h1 := (htab b (by omega)).1 p hp hpb
            have h2 := hst1 b hb (by rw [freeP_symm, ← hpb]; exact hpf)
            omega
      simp only [l1, OP_some]
      rw [idxS_S s hil]
      simp only [OP_some, bin_sub]
      have e97 : IntKind.wrap .u8 ((s[i].toNat : Int) - 97) = (x : Int) := by rw [hsx]; exact sub97 (by omega)
      rw [e97]
      have e1 : iAdrArr 6 1 (pt h.length 0) (.int .u8 (x : Int)) = some (pt h.length x) := by
        have : (0 : Int) ≤ (x : Int) ∧ (x : Int) < 6 := by omega
        simp [iAdrArr, this]
      have hx6 : x < 6 := by omega
      have e2 : oStore 1 g (pt h.length x) (I st) = some (undef, g.set h.length (.arr 157 (tabs fun b => if b = x then st else tab b))) := by
        rw [← tabs_set]
        exact store_at hT (by simp [tabs]; omega) rfl rfl
      simp only [e1, OP_some, e2, OH_some]
      have hq' := q2 i g (.arr 157 (tabs fun b => if b = x then st else tab b)) hq
      simp only [(q1 i _ hq').1, OP_some]
      rw [idxS_S s hil]
      simp only [OP_some]
      rw [est] at hq' ⊢
      refine q3 i _ _ hil hq' ?_
      intro g' hg' hgT
      simp only [un_not, OP_some, Bool.not_true, IfP_false, q106z25, bin_add, inc i (by omega), true_and]
      refine hL (i + 1, g', fun b => if b = x then hgt ps s i hil else tab b) ⟨by show i + 1 ≤ s.length; omega, hg', ?_, ?_⟩ (by show s.length - (i + 1) < s.length - i; omega)
      · rw [hgT]
        simp [hlt0]
      · intro b hb
        show (∀ p ∈ htsF (freeP ps) (s.take (i + 1)), _) ∧ _
        rw [hts_take ps s hil]
        have hmax : tab x ≤ hgt ps s i hil := by
          rcases (htab x hx6).2 with h0 | ⟨p, hp, hp1, hp2⟩
          · omega
          · have := nextH_ge (freeP ps) (L := htsF (freeP ps) (s.take i)) (c := s[i]) hp (by rw [hp1, hsx]; exact hself x hx6)
            unfold hgt
            omega
        by_cases hbx : b = x
        · subst hbx
          simp only [if_true]
          refine ⟨fun p hp hp1 => ?_, .inr ⟨(s[i], hgt ps s i hil), by simp, hsx, rfl⟩⟩
          rcases List.mem_append.1 hp with hp | hp
          · have := (htab b hb).1 p hp hp1; omega
          · rw [List.mem_singleton] at hp; subst hp; exact Nat.le_refl _
        · simp only [if_neg hbx]
          refine ⟨fun p hp hp1 => ?_, (htab b hb).2.imp id fun ⟨p, hp, h1, h2⟩ => ⟨p, by simp [hp], h1, h2⟩⟩
          rcases List.mem_append.1 hp with hp | hp
          · exact (htab b hb).1 p hp hp1
          · rw [List.mem_singleton] at hp
            subst hp
            simp only at hp1
            rw [hsx] at hp1
            exact absurd (lt_inj (by omega) (by omega) hp1).symm hbx
  · have : i = s.length := by omega
    subst this
    exact qe g hq

end Go.Proofs.Ytjdlcokhlphmhaa

/-
  Heights, both sides.
-/
namespace Go.Proofs.Ytjdlcokhlphmhaa
open Go.Sim

/-- Steps as numbers. -/
def hl (ps : List (Int × Int)) (s : List UInt8) : List Int := (htsF (freeP ps) s).map fun p => (p.2 : Int)
def hlv (ps : List (Int × Int)) (s : List UInt8) : List Value := (hl ps s).map (Value.int .i64)

theorem hl_length (ps : List (Int × Int)) (s : List UInt8) : (hl ps s).length = s.length := by simp [hl, htsF_length]
theorem hlv_length (ps : List (Int × Int)) (s : List UInt8) : (hlv ps s).length = s.length := by simp [hlv, hl_length]

theorem hl_take (ps : List (Int × Int)) (s : List UInt8) {i : Nat} (hi : i < s.length) : hlv ps (s.take (i + 1)) = hlv ps (s.take i) ++ [I (hgt ps s i hi)] := by
  unfold hlv hl
  rw [hts_take ps s hi]
  simp

theorem OwnS.nsI {b : Nat} {hx : Heap} {e : TypeId} {v : Value} {xs : List Int} (o : OwnS b hx e v (xs.map (Value.int .i64))) (hl : xs.length ≤ maxLen) : NS hx v .i64 xs := by
  rcases o with ⟨rfl, h⟩ | ⟨i, _, rfl, hg⟩
  · have : xs = [] := by simpa using h
    subst this
    exact NS.nil _ _
  · have := NS.sl (h := hx) (e := e) (i := i) (k := .i64) (ns := xs) (.inr (by simp [objCells, hg])) hl
    simpa using this

theorem OwnS.one {b : Nat} {hx : Heap} {e : TypeId} {v : Value} {xs : List Value} (o : OwnS b hx e v xs) : noTuple v = true ∧ vcells v = [v] := by
  rcases o with ⟨rfl, _⟩ | ⟨i, _, rfl, _⟩ <;> exact ⟨rfl, rfl⟩

theorem rangeP_func {P : Program} {F : FuncId} {cap : Array Value} {ls : List Nat} {vs : List Value} {c : LoopC} {h : Heap} {K : Heap → Prop} (hF : callOk P F = true)
    (hc : CallP P F (.func (.yield h.length) #[] #[] :: cap.toList) (h ++ [.loop c ls vs]) fun _ h' => (∃ c' ls' vs', h'[h.length]? = some (.loop c' ls' vs')) ∧ K (h'.set h.length .dead)) : RangeP P (.func (.func F) #[] cap) ls vs c h K := by
  rw [CallP_eq] at hc
  exact ⟨⟨hF, by simpa using hc⟩⟩

theorem ok106 : callOk Try.prog 106 = true := by kernel_rfl

theorem C78 {a : Nat} {s : List UInt8} {h : Heap} {K : Value → Heap → Prop} (hk : K (.func (.func 106) #[] #[pt (h.length + 1) 0, pt h.length 0]) (h ++ [.arr 91 [pt a 0], .arr 9 [S s]])) : CallP Try.prog 78 [pt a 0, S s] h K := by
  refine f78 ?_
  have b1 : iBox 91 h (pt a 0) = some (pt h.length 0, h ++ [.arr 91 [pt a 0]]) := rfl
  have b2 : ∀ g : Heap, iBox 9 g (S s) = some (pt g.length 0, g ++ [.arr 9 [S s]]) := fun _ => rfl
  simp only [T78, b1, OH_some, b2]
  have e : (h ++ [IObj.arr 91 [pt a 0]]).length = h.length + 1 := by simp
  rw [e]
  simpa using hk

theorem EX.takeN (l : Heap) (k : Nat) : EX (l.take k) l := ⟨by simp; omega, fun i hi => by rw [List.getElem?_take, if_pos (by simp at hi; omega)]⟩

/-- What stands where, while the letters are handed on: the box of the result behind the heap so far, the threads' box, the string's, the loop, and the table of last steps. -/
structure Stand (h2 : Heap) (e : TypeId) (c : LoopC) (v tv : Value) (s : List UInt8) (g : Heap) : Prop where
  ex : EX h2 g
  out : g[h2.length]? = some (.arr e [v])
  th : g[h2.length + 1]? = some (.arr 91 [tv])
  st : g[h2.length + 2]? = some (.arr 9 [S s])
  lp : g[h2.length + 3]? = some (.loop c [10] [pt h2.length 0])
  lt : h2.length + 4 < g.length

theorem Stand.setT {h2 : Heap} {e : TypeId} {c : LoopC} {v tv : Value} {s : List UInt8} {g : Heap} (p : Stand h2 e c v tv s g) (o : IObj) : Stand h2 e c v tv s (g.set (h2.length + 4) o) :=
  ⟨p.ex.set (by omega) _, by rw [List.getElem?_set_ne (by omega)]; exact p.out, by rw [List.getElem?_set_ne (by omega)]; exact p.th, by rw [List.getElem?_set_ne (by omega)]; exact p.st, by rw [List.getElem?_set_ne (by omega)]; exact p.lp, by simpa using p.lt⟩

theorem Stand.low {h2 : Heap} {e : TypeId} {c : LoopC} {v tv : Value} {s : List UInt8} {g : Heap} (p : Stand h2 e c v tv s g) : iLoad false 1 g (pt (h2.length + 2) 0) = some (S s) ∧ iLoad false 1 g (pt (h2.length + 1) 0) = some tv :=
  ⟨by simp [iLoad, objCells, p.st, iPart], by simp [iLoad, objCells, p.th, iPart]⟩

theorem C43 {ps : List (Int × Int)} {pv : Value} {s : List UInt8} {k : Int} {h : Heap} {K : Value → Heap → Prop} (hp : PS h pv ps) (hl0 : ps.length ≤ 100) (hs : s.length ≤ 1000)
    (hno : whyE k ps [s] 40 ≠ 0 → ∀ h', EX h h' → K (.tuple #[.slice none 0 0, I (whyE k ps [s] 40)]) h') (hyes : whyE k ps [s] 40 = 0 → ∀ v h', EX h h' → NS h' v .i64 (hl ps s) → K (.tuple #[v, I 0]) h') : CallP Try.prog 43 [I k, pv, S s] h K := by
  refine f43 ?_
  simp only [T43, mkS1, OH_some]
  have hx : EX h (h ++ [.arr 9 [S s]]) := EX.append _ _
  have hss : SS (h ++ [.arr 9 [S s]]) (sl 9 h.length 0 1) [s] := SS.sl (ls := [s]) (by simp [objCells])
  refine C56 (most := 40) (hp.mono hx) hl0 hss (by simp) (by simp; exact hs) (fun hw => ?_) (fun hw => ?_)
  · simp only [ext_tuple, pair0, pair1, OP_some, bin_neq, decide_eq_false hw, Bool.not_false, IfP_true]
    exact hno hw _ hx
  · obtain ⟨ht, hse⟩ := whyE_ok hw
    have hy2 := hyes hw
    obtain ⟨n, rfl, hn1, hn6⟩ := threadsOk_k ht
    obtain ⟨hlen, hbad⟩ := seamsE_ok hse s (by simp)
    have ls := letters_of hbad
    generalize hh1 : h ++ [.arr 9 [S s]] = h1 at *
    simp only [ext_tuple, pair0, pair1, OP_some, bin_neq, decide_true, Bool.not_true, IfP_false]
    have hth : TH (h1 ++ [.arr 138 (tcells n (cmOf ps))]) (pt h1.length 0) n (cmOf ps) := ⟨h1.length, rfl, by simp [objCells]⟩
    have x2 : EX h (h1 ++ [.arr 138 (tcells n (cmOf ps))]) := hx.push _
    generalize h1 ++ [IObj.arr 138 (tcells n (cmOf ps))] = h2 at hth x2 ⊢
    have al : iAlloc 38 [.slice none 0 0] h2 = some (pt h2.length 0, h2 ++ [.arr 38 [.slice none 0 0]]) := rfl
    simp only [al, OH_some]
    refine C78 ?_
    refine rangeP_func ok106 ?_
    simp only [List.append_assoc, List.length_append, List.length_cons, List.length_nil, List.cons_append, List.nil_append]
    have e5 : (h2 ++ [IObj.arr 38 [.slice none 0 0], .arr 91 [pt h1.length 0], .arr 9 [S s], .loop (loopOf Try.prog 43) [10] [pt h2.length 0]]).length = h2.length + 4 := by simp
    refine C106 (n := n) (ps := ps) (s := s) (tv := pt h1.length 0) hn6 (fun a ha => freeP_self ht ha) ls hs
      (fun i g => ∃ v, Stand h2 38 (loopOf Try.prog 43) v (pt h1.length 0) s g ∧ OwnS (h2.length + 5) g 3 v (hlv ps (s.take i))) ?_ ?_ ?_ ?_ ?_
    · rintro i g ⟨v, p, _⟩
      obtain ⟨a1, a2⟩ := p.low
      exact ⟨a1, a2, hth.mono p.ex, by rw [e5]; exact p.lt⟩
    · rintro i g o ⟨v, p, q⟩
      rw [e5]
      refine ⟨v, p.setT o, q.imp id fun ⟨j, h1, h2, h3⟩ => ⟨j, h1, h2, ?_⟩⟩
      rw [List.getElem?_set_ne (by omega)]
      exact h3
    · rintro i g K' hi ⟨v, p, q⟩ hK'
      rw [e5] at hK'
      refine Y43 p.lp ?_
      have pl := p.lt
      have hv1 : iLoad false 1 (g.set (h2.length + 3) .dead) (pt h2.length 0) = some v := by
        simp [iLoad, objCells, iPart, p.out]
      simp only [hv1, OP_some]
      have hT : ((g.set (h2.length + 3) .dead).take (h2.length + 5)).length = h2.length + 5 := by simp; omega
      have hq := hgt_le ps s hi
      refine app1 (h0 := (g.set (h2.length + 3) .dead).take (h2.length + 5)) (xs := hlv ps (s.take i)) (by
        rw [hT]
        refine q.imp id fun ⟨j, h1, h2, h3⟩ => ⟨j, h1, h2, ?_⟩
        rw [List.getElem?_set_ne (by omega)]
        exact h3) (EX.takeN _ _) (by rw [hlv_length, List.length_take]; omega) (by rw [hlv_length, List.length_take]; unfold maxLen; omega) rfl rfl ?_
      intro v' hx' hex' hown'
      rw [hT] at hown'
      have get : ∀ j, j < h2.length + 5 → hx'[j]? = (g.set (h2.length + 3) .dead)[j]? := by
        intro j hj
        rw [hex'.2 j (by rw [hT]; exact hj), List.getElem?_take, if_pos hj]
      have hlx : h2.length + 5 ≤ hx'.length := by have := hex'.1; rw [hT] at this; exact this
      have ho : hx'[h2.length]? = some (.arr 38 [v]) := by rw [get _ (by omega), List.getElem?_set_ne (by omega)]; exact p.out
      have hone := hown'.one
      rw [store_at ho (by simp) hone.1 hone.2]
      simp only [OH_some, List.set_cons_zero]
      have hdead : hx'[h2.length + 3]? = some .dead := by rw [get _ (by omega), List.getElem?_set_self (by omega)]
      refine ⟨by rw [List.getElem?_set_ne (by omega)]; exact hdead, hK' _ ⟨v', ⟨?_, ?_, ?_, ?_, ?_, ?_⟩, ?_⟩ ?_⟩
      · refine ⟨?_, fun j hj => ?_⟩
        · have := p.ex.1; simp; omega
        · rw [List.getElem?_set_ne (by omega), List.getElem?_set_ne (by omega), get _ (by omega), List.getElem?_set_ne (by omega)]
          exact p.ex.2 j hj
      · rw [List.getElem?_set_ne (by omega), List.getElem?_set_self (by omega)]
      · rw [List.getElem?_set_ne (by omega), List.getElem?_set_ne (by omega), get _ (by omega), List.getElem?_set_ne (by omega)]; exact p.th
      · rw [List.getElem?_set_ne (by omega), List.getElem?_set_ne (by omega), get _ (by omega), List.getElem?_set_ne (by omega)]; exact p.st
      · rw [List.getElem?_set_self (by rw [List.length_set]; omega)]
      · rw [List.length_set, List.length_set]; omega
      · rw [hl_take ps s hi]
        refine hown'.imp id fun ⟨j, h1, h2, h3⟩ => ⟨j, h1, h2, ?_⟩
        rw [List.getElem?_set_ne (by omega), List.getElem?_set_ne (by omega)]
        exact h3
      · rw [List.getElem?_set_ne (by omega), List.getElem?_set_ne (by omega), get _ (by omega), List.getElem?_set_ne (by omega)]
    · refine ⟨.slice none 0 0, ⟨?_, ?_, ?_, ?_, ?_, ?_⟩, .inl ⟨rfl, by simp [hlv, hl, htsF]⟩⟩
      · rw [List.append_assoc]; exact EX.append _ _
      all_goals simp
    · rintro g ⟨v, p, q⟩
      rw [List.take_length] at q
      refine ⟨⟨_, _, _, p.lp⟩, ?_⟩
      have hv1 : iLoad false 1 (g.set (h2.length + 3) .dead) (pt h2.length 0) = some v := by
        simp [iLoad, objCells, iPart, p.out]
      simp only [hv1, OP_some]
      refine hy2 v _ ((x2.trans p.ex).set ?_ _) ?_
      · have := x2.1; omega
      · refine OwnS.nsI (b := h2.length + 5) (e := 3) ?_ (by rw [hl_length]; unfold maxLen; omega)
        refine q.imp id fun ⟨j, h1, h2, h3⟩ => ⟨j, h1, h2, ?_⟩
        rw [List.getElem?_set_ne (by omega)]
        exact h3

theorem C46 {ps : List (Int × Int)} {pv : Value} {s : List UInt8} {h : Heap} {K : Value → Heap → Prop} (hp : PS h pv ps) (hg : good ps) (hl0 : ps.length ≤ 100) (hs : s.length ≤ 1000)
    (hk : ∀ v h', EX h h' → NS h' v .i64 (hl ps s) → K v h') : CallP Try.prog 46 [pv, S s] h K := by
  refine f46 ?_
  have mk : iMkSl 3 0 [.int .i64 0] h [] = some (sl 3 h.length 0 0, h ++ [.arr 3 []]) := rfl
  simp only [T46, mk, OH_some]
  refine loopL (σ := Nat × Value × Heap) (fun p => [p.2.1, I p.1]) (fun p => p.2.2) (fun p => p.1 ≤ s.length ∧ EX h p.2.2 ∧ OwnS h.length p.2.2 3 p.2.1 (hlv ps (s.take p.1))) (fun p => s.length - p.1)
    (0, sl 3 h.length 0 0, h ++ [.arr 3 []]) rfl rfl ⟨by simp, EX.append _ _, .inr ⟨h.length, Nat.le_refl _, by simp [hlv, hl, htsF], by simp [hlv, hl, htsF]⟩⟩ ?_
  rintro ⟨i, v, hx⟩ ⟨hi, hex, hown⟩ L hL
  simp only at hi hex hown hL ⊢
  rw [q46z6]
  have hns : NS hx v .i64 (hl ps (s.take i)) := OwnS.nsI hown (by rw [hl_length, List.length_take]; unfold maxLen; omega)
  simp only [lenS_S, bin_lss, OP_some, IfP_dec]
  refine ⟨fun hlt => ?_, fun hge => ?_⟩
  · have hil : i < s.length := by omega
    have hLl : (htsF (freeP ps) (s.take i)).length = i := by rw [htsF_length, List.length_take]; omega
    refine loopL (σ := Nat) (fun k => [I (((htsF (freeP ps) (s.take i)).take k).foldl (fun h p => if freeP ps p.1 s[i] then h else max h (p.2 + 1)) 1 : Nat), I k]) (fun _ => hx) (fun k => k ≤ i) (fun k => i - k) 0 rfl rfl (by omega) ?_
    intro k hk L2 hL2
    rw [q46z15]
    have hfb : ((htsF (freeP ps) (s.take i)).take k).foldl (fun h p => if freeP ps p.1 s[i] then h else max h (p.2 + 1)) 1 ≤ i + 1 := by
      rcases (foldH (freeP ps) (c := s[i]) ((htsF (freeP ps) (s.take i)).take k) 1).2.2 with h0 | ⟨p, hp, _, he⟩
      · omega
      · have := (htsF_le (freeP ps) _ p (List.mem_of_mem_take hp)).2
        rw [List.length_take] at this
        omega
    simp only [bin_lss, OP_some, IfP_dec]
    refine ⟨fun hlt2 => ?_, fun hge2 => ?_⟩
    · have hki : k < i := by omega
      have hkL : k < (htsF (freeP ps) (s.take i)).length := by omega
      have hks : (htsF (freeP ps) (s.take i))[k].1 = s[k]'(by omega) := by
        have := congrArg (fun l : List UInt8 => l[k]?) (htsF_fst (freeP ps) (s.take i))
        simp only [List.getElem?_map, List.getElem?_eq_getElem hkL, Option.map_some] at this
        rw [List.getElem?_take, if_pos hki, List.getElem?_eq_getElem (by omega)] at this
        exact Option.some.inj this
      have hstep : (htsF (freeP ps) (s.take i)).take (k + 1) = (htsF (freeP ps) (s.take i)).take k ++ [(htsF (freeP ps) (s.take i))[k]] := List.take_succ_eq_append_getElem hkL
      have nx := hL2 (k + 1) (by omega) (by omega)
      rw [hstep, List.foldl_append] at nx
      simp only [List.foldl_cons, List.foldl_nil] at nx
      rw [idxS_S s (by omega), idxS_S s hil]
      simp only [OP_some]
      refine C33 (hp.mono hex) hg hl0 ⟨trivial, ?_⟩
      simp only [un_not, OP_some]
      obtain ⟨b, o, g1, g2⟩ := hns.get k (by simp [hl]; omega)
      have hval : (hl ps (s.take i))[k]'(by simp [hl]; omega) = ((htsF (freeP ps) (s.take i))[k].2 : Int) := by simp [hl]
      rw [hval] at g2
      rw [hks] at nx
      have hpb := (htsF_le (freeP ps) _ _ (List.getElem_mem hkL)).2
      rw [List.length_take] at hpb
      generalize ((htsF (freeP ps) (s.take i)).take k).foldl (fun h p => if freeP ps p.1 s[i] then h else max h (p.2 + 1)) 1 = F at nx hfb ⊢
      cases hfr : freeP ps (s[k]'(by omega)) s[i] with
      | true =>
        rw [hfr] at nx
        simp only [Bool.not_true, IfP_false, q46z21, bin_add, OP_some, inc k (by omega), true_and]
        exact nx
      | false =>
        rw [hfr] at nx
        simp only [Bool.not_false, IfP_true, g1, OP_some, g2, bin_add, inc (htsF (freeP ps) (s.take i))[k].2 (by omega), max2']
        have em : max (F : Int) (((htsF (freeP ps) (s.take i))[k].2 + 1 : Nat) : Int) = ((max F ((htsF (freeP ps) (s.take i))[k].2 + 1) : Nat) : Int) := by omega
        rw [em]
        simp only [q46z21, bin_add, OP_some, inc k (by omega), true_and]
        exact nx
    · have : k = i := by omega
      subst this
      have hfull : (htsF (freeP ps) (s.take k)).take k = htsF (freeP ps) (s.take k) := List.take_of_length_le (by omega)
      rw [hfull, q46z22]
      have e : List.foldl (fun h p => if freeP ps p.1 s[k] then h else max h (p.2 + 1)) 1 (htsF (freeP ps) (s.take k)) = hgt ps s k hil := rfl
      rw [e]
      refine app1 hown hex (by rw [hlv_length, List.length_take]; omega) (by rw [hlv_length, List.length_take]; unfold maxLen; omega) rfl rfl ?_
      intro v' hx' hex' hown'
      simp only [q46z23, bin_add, OP_some, inc k (by omega), true_and]
      exact hL (k + 1, v', hx') ⟨by show k + 1 ≤ s.length; omega, hex', by rw [hl_take ps s hil]; exact hown'⟩ (by show s.length - (k + 1) < s.length - k; omega)
  · have : i = s.length := by omega
    subst this
    rw [List.take_length] at hns
    rw [q46z24]
    exact hk v hx hex hns

/-- The same numbers are the same. -/
theorem C70e {v w : Value} {ns : List Int} {h : Heap} {K : Value → Heap → Prop} (hv : NS h v .i64 ns) (hw : NS h w .i64 ns) (hs : ns.length ≤ 1000) (hk : K (B false) h) : CallP Try.prog 70 [v, w] h K := by
  refine f70 ?_
  refine loopL (σ := Nat) (fun i => [I i]) (fun _ => h) (fun i => i ≤ ns.length) (fun i => ns.length - i) 0 rfl rfl (by omega) ?_
  intro i hi L hL
  rw [q70z5]
  simp only [hv.len, OP_some, bin_lss, q70z9]
  by_cases h1 : (i : Int) < ns.length
  · obtain ⟨b, o, g1, g2⟩ := hv.get i (by omega)
    obtain ⟨b', o', g1', g2'⟩ := hw.get i (by omega)
    simp only [decide_eq_true h1, GdP_tt, hw.len, OP_some, bin_lss, q70z11, iPick_t, IfP_true, g1, g2, g1', g2', true_and, bin_neq, decide_true, Bool.not_true, IfP_false, bin_add, inc i (by omega)]
    exact hL (i + 1) (by omega) (by omega)
  · simp only [decide_eq_false h1, GdP_ft, q70z11, iPick_f, OP_some, IfP_false, q70z16, hv.len, hw.len, bin_lss]
    rw [decide_eq_false (by omega)]
    exact hk

theorem C25e {v w : Value} {ns : List Int} {h : Heap} {K : Value → Heap → Prop} (hv : NS h v .i64 ns) (hw : NS h w .i64 ns) (hs : ns.length ≤ 1000) (hk : K (B true) h) : CallP Try.prog 25 [v, w] h K := by
  refine f25 (C70e hv hw hs ?_)
  simp only [un_not, OP_some, Bool.not_false, q25z4, GdP_tt]
  refine C70e hw hv hs ?_
  simp only [un_not, OP_some, Bool.not_false, q25z6, iPick_t]
  exact hk

/-- The same strings are the same. -/
theorem C44e {v w : Value} {ls : List (List UInt8)} {h : Heap} {K : Value → Heap → Prop} (hv : SS h v ls) (hw : SS h w ls) (hs : ls.length ≤ 1000) (hk : K (B true) h) : CallP Try.prog 44 [v, w] h K := by
  refine f44 ?_
  simp only [T44, hv.len, hw.len, OP_some, bin_neq, decide_true, Bool.not_true, IfP_false]
  refine loopL (σ := Nat) (fun i => [I i]) (fun _ => h) (fun i => i ≤ ls.length) (fun i => ls.length - i) 0 rfl rfl (by omega) ?_
  intro i hi L hL
  rw [q44z8]
  simp only [hv.len, OP_some, bin_lss, IfP_dec]
  refine ⟨fun hlt => ?_, fun _ => hk⟩
  obtain ⟨b, o, g1, g2⟩ := hv.get i (by omega)
  obtain ⟨b', o', g1', g2'⟩ := hw.get i (by omega)
  simp only [g1, g2, g1', g2', OP_some, true_and, bin_neqS, decide_true, Bool.not_true, IfP_false, bin_add, inc i (by omega)]
  exact hL (i + 1) (by omega) (by omega)

end Go.Proofs.Ytjdlcokhlphmhaa

/-
  The library's sort, at few letters.
-/
namespace Go.Proofs.Ytjdlcokhlphmhaa
open Go.Sim

theorem len_ev : ((List.range 13).all fun n => match evF Try.prog evH 100 30 (.func 108) [.int .u64 (n : Int)] [] with | some (.int .i64 _, _) => true | _ => false) = true := by kernel_rfl

theorem C108 {n : Nat} {h : Heap} {K : Value → Heap → Prop} (hn : n ≤ 12) (hk : ∀ v : Int, K (I v) h) : CallP Try.prog 108 [.int .u64 (n : Int)] h K := by
  have := List.all_eq_true.1 len_ev n (List.mem_range.2 (by omega))
  split at this
  · rename_i v h' he
    obtain ⟨g, hc⟩ := ev_call evH 100 30 (F := 108) (args := [.int .u64 (n : Int)]) (v := .int .i64 v) (by rw [he]; rfl)
    exact callP_any (Ren.scal rfl) hc rfl (hk v)
  · cases this

theorem C131 {x : UInt8} {h : Heap} {K : Value → Heap → Prop} (hk : K (B false) h) : CallP Try.prog 131 [cv x] h K := by
  refine f131 ?_
  simp only [T131, bin_neq, decide_true, Bool.not_true, OP_some]
  exact hk

theorem C120 {x y : UInt8} {h : Heap} {K : Value → Heap → Prop} (hk : K (B (decide ((x.toNat : Int) < y.toNat))) h) : CallP Try.prog 120 [cv x, cv y] h K := by
  refine f120 (C131 ?_)
  simp only [q120z4, GdP_ft, q120z6, iPick_f, OP_some, q120z8, GdP_ff, bin_lss, q120z10]
  exact hk

/-- A letter on its way down. -/
def dn (P R : List UInt8) (x : UInt8) (j : Nat) : List UInt8 := P.take j ++ x :: (P.drop j ++ R)

theorem dn_get {P R : List UInt8} {x : UInt8} {j : Nat} (hj : j ≤ P.length) : (dn P R x j)[j]? = some x := by
  unfold dn
  rw [List.getElem?_append_right (by simp; omega)]
  simp [Nat.min_eq_left hj]

theorem dn_prev {P R : List UInt8} {x : UInt8} {j : Nat} (h0 : 0 < j) (hj : j ≤ P.length) : (dn P R x j)[j - 1]? = some (P[j - 1]'(by omega)) := by
  unfold dn
  rw [List.getElem?_append_left (by simp; omega), List.getElem?_take, if_pos (by omega), List.getElem?_eq_getElem]

theorem dn_step {P R : List UInt8} {x : UInt8} {j : Nat} (h0 : 0 < j) (hj : j ≤ P.length) : ((dn P R x j).set j (P[j - 1]'(by omega))).set (j - 1) x = dn P R x (j - 1) := by
  have h1 : P.take j = P.take (j - 1) ++ [P[j - 1]'(by omega)] := by
    have := List.take_succ_eq_append_getElem (l := P) (i := j - 1) (by omega)
    rwa [show j - 1 + 1 = j by omega] at this
  have h2 : P.drop (j - 1) = P[j - 1]'(by omega) :: P.drop j := by
    have := List.drop_eq_getElem_cons (l := P) (i := j - 1) (by omega)
    rwa [show j - 1 + 1 = j by omega] at this
  unfold dn
  rw [h1, h2]
  have hl : (P.take (j - 1)).length = j - 1 := by simp; omega
  generalize P[j - 1]'(by omega) = y
  generalize P.drop j = D
  generalize hT : P.take (j - 1) = T at hl
  rw [List.append_assoc, List.set_append_right _ _ (by omega), List.set_append_right _ _ (by omega)]
  rw [show j - T.length = 1 by omega, show j - 1 - T.length = 0 by omega]
  rfl

theorem dn_perm {P R : List UInt8} {x : UInt8} (j : Nat) : (dn P R x j).Perm (P ++ x :: R) := by
  unfold dn
  have h1 : (P.take j ++ x :: (P.drop j ++ R)).Perm (x :: (P.take j ++ (P.drop j ++ R))) := List.perm_middle
  have h2 : (P ++ x :: R).Perm (x :: (P ++ R)) := List.perm_middle
  rw [← List.append_assoc, List.take_append_drop] at h1
  exact h1.trans h2.symm

abbrev leB (a b : UInt8) : Prop := a.toNat ≤ b.toNat

section
variable {h : Heap} {id : Nat}

abbrev hb (h : Heap) (id : Nat) (xs : List UInt8) : Heap := h.set id (.arr 5 (xs.map cv))

theorem hb_get (hid : id < h.length) (xs : List UInt8) : (hb h id xs)[id]? = some (.arr 5 (xs.map cv)) := by simp [hb, hid]

theorem hb_load (hid : id < h.length) {xs : List UInt8} {j : Nat} {c : UInt8} (hj : xs[j]? = some c) : iLoad false 1 (hb h id xs) (pt id j) = some (cv c) := by
  simp [iLoad, objCells, hb_get hid, iPart, hj]

theorem hb_store (hid : id < h.length) {xs : List UInt8} {j : Nat} (c : UInt8) (hj : j < xs.length) : oStore 1 (hb h id xs) (pt id j) (cv c) = some (undef, hb h id (xs.set j c)) := by
  rw [store_at (hb_get hid xs) (by simpa using hj) rfl rfl]
  simp [hb, List.map_set]

theorem adr_sl {e : TypeId} {n j : Nat} (hj : j < n) : iAdrSl 1 (sl e id 0 n) (I j) = some (pt id j) := by
  have : (0 : Int) ≤ (j : Int) ∧ (j : Int) < (n : Int) := by omega
  simp [Go.Sim.sl, iAdrSl, this]

theorem C114 {xs0 : List UInt8} {K : Value → Heap → Prop} (hid : id < h.length) (hn : xs0.length ≤ 1000) (hk : ∀ xs, xs.Perm xs0 → xs.Pairwise leB → K (.tuple #[]) (hb h id xs)) :
    CallP Try.prog 114 [sl 5 id 0 xs0.length, I 0, I xs0.length] (hb h id xs0) K := by
  refine f114 ?_
  have e1 : IntKind.wrap .i64 ((0 : Int) + 1) = ((1 : Nat) : Int) := by rw [wrap64 (by omega) (by omega)]; rfl
  simp only [T114, bin_add, e1, OP_some]
  refine loopL (σ := Nat × List UInt8) (fun p => [I p.1]) (fun p => hb h id p.2) (fun p => 1 ≤ p.1 ∧ p.2.Perm xs0 ∧ (p.2.take p.1).Pairwise leB) (fun p => xs0.length - p.1) (1, xs0) rfl rfl ⟨by simp, List.Perm.refl _, by
    cases xs0 with
    | nil => simp
    | cons a l => simp⟩ ?_
  rintro ⟨i, xs⟩ ⟨hi, hp, hso⟩ L hL
  simp only at hi hp hso hL ⊢
  rw [q114z3]
  have hlen := hp.length_eq
  simp only [bin_lss, OP_some, IfP_dec]
  refine ⟨fun hlt => ?_, fun hge => ?_⟩
  · have hil : i < xs.length := by omega
    obtain ⟨P, hP⟩ : ∃ P, P = xs.take i := ⟨_, rfl⟩
    obtain ⟨R, hR⟩ : ∃ R, R = xs.drop (i + 1) := ⟨_, rfl⟩
    have hPl : P.length = i := by rw [hP, List.length_take]; omega
    have hxs : dn P R xs[i] i = xs := by
      unfold dn
      rw [List.take_of_length_le (by omega), List.drop_eq_nil_of_le (by omega), hP, hR, List.nil_append, ← List.drop_eq_getElem_cons hil, List.take_append_drop]
    have hPs : P.Pairwise leB := by rw [hP]; exact hso
    have hpx : (P ++ xs[i] :: R).Perm xs0 := by
      have : P ++ xs[i] :: R = xs := by rw [hP, hR, ← List.drop_eq_getElem_cons hil, List.take_append_drop]
      rw [this]; exact hp
    generalize hx : xs[i] = x at hxs hpx
    have hdl : ∀ j, (dn P R x j).length = xs0.length := fun j => (dn_perm j).length_eq.trans hpx.length_eq
    refine loopL (σ := Nat) (fun j => [I j]) (fun j => hb h id (dn P R x j)) (fun j => j ≤ i ∧ ∀ y ∈ P.drop j, x.toNat < y.toNat) (fun j => j) i rfl (by rw [hxs]) ⟨Nat.le_refl _, by rw [List.drop_eq_nil_of_le (by omega)]; simp⟩ ?_
    rintro j ⟨hj, hgt⟩ L2 hL2
    rw [q114z10]
    have stop : (j = 0 ∨ ∃ hj0 : j - 1 < P.length, (P[j - 1]'hj0).toNat ≤ x.toNat) → p114z15 Try.prog K (sl 5 id 0 xs0.length) (I 0) (I xs0.length) (I i) L (hb h id (dn P R x j)) := by
      intro hst
      rw [q114z15]
      simp only [bin_add, OP_some, inc i (by omega), true_and]
      refine hL (i + 1, dn P R x j) ⟨by show 1 ≤ i + 1; omega, (dn_perm j).trans hpx, ?_⟩ (by show xs0.length - (i + 1) < xs0.length - i; omega)
      show ((dn P R x j).take (i + 1)).Pairwise leB
      have e : (dn P R x j).take (i + 1) = P.take j ++ x :: P.drop j := by
        have : dn P R x j = (P.take j ++ x :: P.drop j) ++ R := by unfold dn; simp
        rw [this, List.take_left' (by simp; omega)]
      rw [e]
      have hsplit : P.take j ++ P.drop j = P := List.take_append_drop j P
      have hps2 := hPs
      rw [← hsplit, List.pairwise_append] at hps2
      obtain ⟨w1, w2, w3⟩ := hps2
      rw [List.pairwise_append, List.pairwise_cons]
      refine ⟨w1, ⟨fun y hy => Nat.le_of_lt (hgt y hy), w2⟩, ?_⟩
      intro a ha b hb'
      rcases List.mem_cons.1 hb' with rfl | hb'
      · rcases hst with rfl | ⟨hj0, hle⟩
        · simp at ha
        · by_cases hj00 : j = 0
          · subst hj00; simp at ha
          · obtain ⟨q, hq, rfl⟩ := List.mem_iff_getElem.1 ha
            simp at hq
            rw [List.getElem_take]
            by_cases hqj : q = j - 1
            · subst hqj; exact hle
            · have := List.pairwise_iff_getElem.1 hPs q (j - 1) (by omega) (by omega) (by omega)
              exact Nat.le_trans this hle
      · exact w3 a ha b hb'
    simp only [bin_gtr, OP_some]
    by_cases hj0 : j = 0
    · subst hj0
      rw [decide_eq_false (show ¬ (0 : Int) < ((0 : Nat) : Int) by omega)]
      simp only [GdP_ft, iPick_f, OP_some, IfP_false, true_and]
      exact stop (.inl rfl)
    · rw [decide_eq_true (show (0 : Int) < (j : Int) by omega)]
      have ej : IntKind.wrap .i64 ((j : Int) - 1) = ((j - 1 : Nat) : Int) := by rw [wrap64 (by omega) (by omega)]; omega
      have g1 := dn_get (R := R) (x := x) (show j ≤ P.length by omega)
      have g2 := dn_prev (R := R) (x := x) (show 0 < j by omega) (show j ≤ P.length by omega)
      have a1 := adr_sl (id := id) (e := 5) (n := xs0.length) (j := j) (by omega)
      have a2 := adr_sl (id := id) (e := 5) (n := xs0.length) (j := j - 1) (by omega)
      simp only [GdP_tt, a1, OP_some, hb_load hid g1, bin_sub, ej, a2, hb_load hid g2, true_and]
      refine C120 ?_
      simp only [iPick_t, OP_some, IfP_dec]
      refine ⟨fun hlt2 => ?_, fun hge2 => ?_⟩
      · simp only [hb_load hid g1, hb_load hid g2, OP_some]
        rw [hb_store hid _ (by rw [hdl]; omega)]
        simp only [OH_some]
        rw [hb_store hid _ (by rw [List.length_set, hdl]; omega)]
        simp only [OH_some]
        rw [dn_step (by omega) (by omega)]
        refine hL2 (j - 1) ⟨by omega, ?_⟩ (by omega)
        have h2 : P.drop (j - 1) = P[j - 1]'(by omega) :: P.drop j := by
          have := List.drop_eq_getElem_cons (l := P) (i := j - 1) (by omega)
          rwa [show j - 1 + 1 = j by omega] at this
        rw [h2]
        intro y hy
        rcases List.mem_cons.1 hy with rfl | hy
        · omega
        · exact hgt y hy
      · exact stop (.inr ⟨by omega, by omega⟩)
  · refine hk xs hp ?_
    rwa [List.take_of_length_le (by omega)] at hso

theorem C79 {xs0 : List UInt8} {K : Value → Heap → Prop} (hget : h[id]? = some (.arr 5 (xs0.map cv))) (hlet : letters 6 xs0) (hn : xs0.length ≤ 12) (hk : K (.tuple #[]) (hb h id (srt xs0))) :
    CallP Try.prog 79 [sl 5 id 0 xs0.length] h K := by
  have hid := (List.getElem?_eq_some_iff.1 hget).1
  have e0 : h = hb h id xs0 := by
    apply List.ext_getElem?
    intro j
    by_cases hj : id = j
    · subst hj; rw [hb_get hid, hget]
    · rw [List.getElem?_set_ne hj]
  refine f79 ?_
  have e1 : iLenSl (sl 5 id 0 xs0.length) = some (I xs0.length) := rfl
  have e2 : IntKind.wrap .u64 (xs0.length : Int) = xs0.length := by
    have : IntKind.wrap .u64 (xs0.length : Int) = (xs0.length : Int) % 18446744073709551616 := by simp [IntKind.wrap, IntKind.bits, IntKind.signed]
    rw [this]; omega
  simp only [T79, e1, OP_some, conv_int, e2]
  refine C108 hn ?_
  intro v
  refine f107 ?_
  simp only [T107]
  refine loopL (σ := Unit) (fun _ => [I 0, I xs0.length, I v, .bool true, .bool true]) (fun _ => h) (fun _ => True) (fun _ => 0) () rfl rfl trivial ?_
  intro _ _ L hL
  rw [q107z4]
  have e3 : IntKind.wrap .i64 ((xs0.length : Int) - 0) = xs0.length := by rw [wrap64 (by omega) (by omega)]; omega
  simp only [bin_sub, e3, OP_some, bin_leq, decide_eq_true (show (xs0.length : Int) ≤ 12 by omega), IfP_true]
  conv => arg 4; rw [e0]
  refine C114 hid (by omega) ?_
  intro xs hp hso
  have : xs = srt xs0 := sorted_unique (hp.trans (srt_perm hlet).symm) hso (srt_sorted xs0)
  rw [this]
  exact hk
end

end Go.Proofs.Ytjdlcokhlphmhaa

/-
  Steps, as the program makes them.
-/
namespace Go.Proofs.Ytjdlcokhlphmhaa
open Go.Sim

/-- The steps of a seam. -/
def stepsF (ps : List (Int × Int)) (s : List UInt8) : List (List UInt8) := (gsOf (htsF (freeP ps) s)).map srt

/-- One element more: what stays, what comes. -/
theorem app1p {b : Nat} {hx : Heap} {e : TypeId} {bytes : Nat} {v x z : Value} {xs : List Value} {K : Value → Heap → Prop} (o : OwnS b hx e v xs) (hb : (xs.length + 1) * bytes ≤ 140737488355328) (hm : xs.length + 1 ≤ maxLen)
    (h1 : noTuple x = true) (h2 : vcells x = [x]) (hk : ∀ h1 hx', h1 = hx ++ [.arr e [x]] → hx'.length = hx.length + 2 → (∀ d, d < hx.length → (∀ n, v ≠ sl e d 0 n) → hx'[d]? = hx[d]?) → hx'[hx.length + 1]? = some (.arr e (xs ++ [x])) → OH (some (sl e (hx.length + 1) 0 (xs.length + 1), hx')) K) :
    OH (iMkSl e 1 [z] hx [(0, 1, x)]) fun a h2 => OH (iApp e 1 bytes h2 v a) K := by
  have e1 : iMkSl e 1 [z] hx [(0, 1, x)] = some (sl e hx.length 0 1, hx ++ [.arr e [x]]) := by
    simp [iMkSl, fillL, zrep, h1, h2, setAt]
  rw [e1]
  simp only [OH_some]
  have e2 : sliceCells (hx ++ [.arr e [x]]) 1 (sl e hx.length 0 1) = some [x] := by simp [sliceCells, sl, objCells]
  have e3 : lenOfSl (sl e hx.length 0 1) = some 1 := rfl
  rcases o with ⟨rfl, rfl⟩ | ⟨i, hi, rfl, hget⟩
  · have hb' : 1 * bytes ≤ 140737488355328 := by simpa using hb
    have hm' : 1 ≤ maxLen := by simpa using hm
    have e4 : iApp e 1 bytes (hx ++ [.arr e [x]]) (.slice none 0 0) (sl e hx.length 0 1) = some (sl e (hx.length + 1) 0 1, hx ++ [.arr e [x]] ++ [.arr e [x]]) := by
      simp only [iApp, e2, e3]
      rw [if_neg (by omega), if_pos ⟨hb', hm'⟩]
      simp
    rw [e4]
    refine hk _ _ rfl (by simp) (fun d hd _ => by rw [List.getElem?_append_left (by simp; omega), List.getElem?_append_left hd]) (by rw [List.getElem?_append_right (by simp)]; simp)
  · have hlt := (List.getElem?_eq_some_iff.1 hget).1
    have hg : (hx ++ [.arr e [x]])[i]? = some (.arr e xs) := by rw [List.getElem?_append_left hlt]; exact hget
    have e4 : iApp e 1 bytes (hx ++ [.arr e [x]]) (sl e i 0 xs.length) (sl e hx.length 0 1) = some (sl e (hx.length + 1) 0 (xs.length + 1), (hx ++ [IObj.arr e [x]]).set i IObj.dead ++ [IObj.arr e (xs ++ [x])]) := by
      simp only [iApp, e2, e3]
      simp only [sl, hg]
      rw [if_pos ⟨trivial, trivial, by simp, hb, hm⟩, if_neg (by omega)]
      simp
    rw [e4]
    refine hk _ _ rfl (by simp) (fun d hd hne => ?_) (by rw [List.getElem?_append_right (by simp)]; simp)
    have hdi : i ≠ d := by rintro rfl; exact hne _ rfl
    rw [List.getElem?_append_left (by simp; omega), List.getElem?_set_ne hdi, List.getElem?_append_left hd]

/-- Steps in memory: a slice of slices, all apart. -/
structure StepsIn (b : Nat) (g : Heap) (sv : Value) (evl : List Value) (gs : List (List UInt8)) : Prop where
  len : evl.length = gs.length
  el : ∀ j (h1 : j < evl.length) (h2 : j < gs.length), OwnS b g 5 evl[j] (gs[j].map cv)
  ap : ∀ j k (h1 : j < evl.length) (h2 : k < evl.length) d n m, evl[j] = sl 5 d 0 n → evl[k] = sl 5 d 0 m → j = k
  own : OwnS b g 55 sv evl
  sap : ∀ j (h1 : j < evl.length) d n m, evl[j] = sl 5 d 0 n → sv ≠ sl 55 d 0 m

theorem sl_inj {e e' : TypeId} {i i' o o' n n' : Nat} (h : sl e i o n = sl e' i' o' n') : i = i' ∧ n = n' := by
  unfold sl at h
  injection h with h1 h2
  injection h1 with h1
  injection h1 with h1
  exact ⟨h1, h2⟩

theorem OwnS.keep {b : Nat} {g g' : Heap} {e : TypeId} {v : Value} {xs : List Value} (o : OwnS b g e v xs) (h : ∀ d n, v = sl e d 0 n → b ≤ d → g'[d]? = g[d]?) : OwnS b g' e v xs := by
  rcases o with ⟨h1, h2⟩ | ⟨i, h1, h2, h3⟩
  · exact .inl ⟨h1, h2⟩
  · exact .inr ⟨i, h1, h2, by rw [h i _ h2 h1]; exact h3⟩

theorem StepsIn.keep {b : Nat} {g g' : Heap} {sv : Value} {evl : List Value} {gs : List (List UInt8)} (p : StepsIn b g sv evl gs) (h : ∀ d, b ≤ d → d < g.length → g'[d]? = g[d]?) : StepsIn b g' sv evl gs := by
  have lt : ∀ {e v xs d n}, OwnS b g e v xs → v = sl e d 0 n → b ≤ d → g'[d]? = g[d]? := by
    intro e v xs d n o hv hd
    rcases o with ⟨h1, _⟩ | ⟨i, h1, h2, h3⟩
    · rw [h1] at hv; cases hv
    · rw [h2] at hv
      obtain ⟨rfl, _⟩ := sl_inj hv
      exact h _ hd (List.getElem?_eq_some_iff.1 h3).1
  exact ⟨p.len, fun j h1 h2 => (p.el j h1 h2).keep fun d n hv hd => lt (p.el j h1 h2) hv hd, p.ap, p.own.keep fun d n hv hd => lt p.own hv hd, p.sap⟩

theorem OwnS.lt {b : Nat} {g : Heap} {e : TypeId} {v : Value} {xs : List Value} {d n : Nat} (o : OwnS b g e v xs) (h : v = sl e d 0 n) : b ≤ d ∧ d < g.length ∧ g[d]? = some (.arr e xs) := by
  rcases o with ⟨h1, _⟩ | ⟨i, h1, h2, h3⟩
  · rw [h1] at h; cases h
  · rw [h2] at h
    obtain ⟨rfl, _⟩ := sl_inj h
    exact ⟨h1, (List.getElem?_eq_some_iff.1 h3).1, h3⟩

section
variable {i : Nat} {o : IObj} {K : Value → Heap → Prop}

noncomputable def rb42_4 : ICode := .dops [(none, [⟨(some 39), .l (.load false 1 (.tmp 10)), 0⟩,
   ⟨(some 40), .p (.mv (.tmp 12)), 0⟩,
   ⟨(some 41), .p (.bin .sub (.tmp 40) (.const (.int .i64 (1)))), 2⟩,
   ⟨(some 42), .l (.load false 1 (.tmp 10)), 0⟩,
   ⟨(some 43), .p (.mv (.tmp 12)), 0⟩,
   ⟨(some 44), .p (.bin .sub (.tmp 43) (.const (.int .i64 (1)))), 16⟩,
   ⟨(some 45), .p (.adrSl 1 (.tmp 42) (.tmp 44)), 56⟩,
   ⟨(some 46), .l (.load false 1 (.tmp 45)), 120⟩,
   ⟨(some 47), .p (.mv (.tmp 11)), 0⟩,
   ⟨(some 48), .e (.mkSl 5 1 [(.int .u8 (0))] [(0, 1, (.tmp 47))]), 256⟩,
   ⟨(some 49), .e (.app 5 1 1 (.tmp 46) (.tmp 48)), 1016⟩,
   ⟨(some 50), .p (.adrSl 1 (.tmp 39) (.tmp 41)), 2047⟩,
   ⟨none, .e (.store 1 (.tmp 50) (.tmp 49)), 4095⟩])]

def pr42 (P : Program) (i : Nat) (o : IObj) (K : Value → Heap → Prop) (steps10 c11 step12 : Value) (h : Heap) : Prop := CutP (iwpP P rb42_4 (inBlockK 1 (YK i o K))) [10, 11, 12] [steps10, c11, step12] h
theorem qr42 (P : Program) (i : Nat) (o : IObj) (K : Value → Heap → Prop) (steps10 c11 step12 : Value) (h : Heap) : pr42 P i o K steps10 c11 step12 h =
  (OP (iLoad false 1 h steps10) fun x39 =>
  (True) ∧
  OP (iBin .sub step12 (.int .i64 (1))) fun x41 =>
  OP (iLoad false 1 h steps10) fun x42 =>
  (True) ∧
  OP (iBin .sub step12 (.int .i64 (1))) fun x44 =>
  OP (iAdrSl 1 x42 x44) fun x45 =>
  OP (iLoad false 1 h x45) fun x46 =>
  (True) ∧
  OH (iMkSl 5 1 [(.int .u8 (0))] h [(0, 1, c11)]) fun x48 h_1 =>
  (iLoad false 1 h_1 steps10 = some x39 ∧ iLoad false 1 h_1 steps10 = some x42 ∧ iLoad false 1 h_1 x45 = some x46 ∧ True) ∧
  OH (iApp 5 1 1 h_1 x46 x48) fun x49 h_2 =>
  (iLoad false 1 h_2 steps10 = some x39 ∧ True) ∧
  OP (iAdrSl 1 x39 x41) fun x50 =>
  OH (oStore 1 h_2 x50 x49) fun _ h_3 =>
  (True) ∧
  (Exit.normal = Exit.normal ∧ h_3[i]? = some .dead ∧ K (.bool true) (h_3.set i o))) := (CutP_def _ _ _ _).trans (by kernel_rfl)

theorem t42 (P : Program) (i : Nat) (o : IObj) (K : Value → Heap → Prop) (a b out : Value) (g : Heap) : iwpP P ra42 (YA P rb42 i (YK i o K)) (pfr [30, 31] [a, b] (ofl [10] [out])) g =
    (Exit.normal = Exit.normal ∧ g[i]? = some .dead ∧ OP (iLoad false 1 g out) fun x33 =>
      OP (iLenSl x33) fun x34 =>
      OP (iBin .gtr b x34) fun x35 =>
      IfP x35
        (OP (iLoad false 1 g out) fun x36 =>
        OH (iMkSl 55 1 [(.slice none 0 0)] g [(0, 1, (.slice none 0 0))]) fun x37 h_1 =>
        OH (iApp 55 1 24 h_1 x36 x37) fun x38 h_2 =>
        OH (oStore 1 h_2 out x38) fun _ h_3 =>
        pr42 P i o K out a b h_3)
        (pr42 P i o K out a b g)) := by kernel_rfl
end

theorem Y42 {i : Nat} {a b out : Value} {h : Heap} {K : Value → Heap → Prop} (hi : h[i]? = some (.loop (loopOf Try.prog 42) [10] [out]))
    (H : OP (iLoad false 1 (h.set i .dead) out) fun x33 =>
      OP (iLenSl x33) fun x34 =>
      OP (iBin .gtr b x34) fun x35 =>
      IfP x35
        (OP (iLoad false 1 (h.set i .dead) out) fun x36 =>
        OH (iMkSl 55 1 [(.slice none 0 0)] (h.set i .dead) [(0, 1, (.slice none 0 0))]) fun x37 h_1 =>
        OH (iApp 55 1 24 h_1 x36 x37) fun x38 h_2 =>
        OH (oStore 1 h_2 out x38) fun _ h_3 =>
        pr42 Try.prog i (.loop (loopOf Try.prog 42) [10] [out]) K out a b h_3)
        (pr42 Try.prog i (.loop (loopOf Try.prog 42) [10] [out]) K out a b (h.set i .dead))) : CallVP Try.prog (.func (.yield i) #[] #[]) [a, b] h K := by
  have hlt := (List.getElem?_eq_some_iff.1 hi).1
  refine callVP_yield hi (by rw [ps42]; rfl) pn42 kra42 krb42 na42 nb42 ?_
  rw [ps42]
  rw [show (#[30, 31] : Array Tmp).toList = [30, 31] from rfl, t42]
  exact ⟨rfl, by simp [hlt], H⟩

/-- A letter goes into its step: the step is there. -/
theorem putC42 {i m b : Nat} {o : IObj} {K : Value → Heap → Prop} {g : Heap} {sv : Value} {evl : List Value} {gs : List (List UInt8)} {c : UInt8} {st : Nat} (hb : m < b) (hib : i < b) (him : i ≠ m) (p : StepsIn b g sv evl gs) (hout : g[m]? = some (.arr 124 [sv])) (hdead : g[i]? = some .dead) (h1 : 1 ≤ st) (h2 : st ≤ gs.length) (hgl : gs.length ≤ 1000)
    (hl : ∀ x ∈ gs, x.length ≤ 1000)
    (hk : ∀ g' evl', (∀ d, d < b → g'[d]? = g[d]?) → b ≤ g'.length → StepsIn b g' sv evl' (gs.set (st - 1) ((gs[st - 1]'(by omega)) ++ [c])) → K (.bool true) (g'.set i o)) :
    pr42 Try.prog i o K (pt m 0) (cv c) (I st) g := by
  rw [qr42]
  have ld : iLoad false 1 g (pt m 0) = some sv := by simp [iLoad, objCells, iPart, hout]
  have es : IntKind.wrap .i64 ((st : Int) - 1) = ((st - 1 : Nat) : Int) := by rw [wrap64 (by omega) (by omega)]; omega
  have hpl := p.len
  have hj1 : st - 1 < evl.length := by omega
  have hj2 : st - 1 < gs.length := by omega
  -- the slice of steps is not nil
  obtain ⟨sid, hsb, hsv, hsg⟩ : ∃ sid, b ≤ sid ∧ sv = sl 55 sid 0 evl.length ∧ g[sid]? = some (.arr 55 evl) := by
    rcases p.own with ⟨_, h0⟩ | h0
    · rw [h0] at hj1; simp at hj1
    · exact h0
  have hsl : sid < g.length := (List.getElem?_eq_some_iff.1 hsg).1
  have a1 : iAdrSl 1 sv (I ((st - 1 : Nat) : Int)) = some (pt sid (st - 1)) := by rw [hsv]; exact adr_sl hj1
  have l46 : iLoad false 1 g (pt sid (st - 1)) = some evl[st - 1] := by simp [iLoad, objCells, hsg, iPart, hj1]
  have hel := p.el (st - 1) hj1 hj2
  simp only [ld, OP_some, bin_sub, es, a1, l46, true_and]
  have hgj : gs[st - 1].length ≤ 1000 := hl _ (List.getElem_mem hj2)
  -- side conditions of the two steps
  have mk : iMkSl 5 1 [.int .u8 0] g [(0, 1, cv c)] = some (sl 5 g.length 0 1, g ++ [.arr 5 [cv c]]) := rfl
  have hx1 : EX g (g ++ [.arr 5 [cv c]]) := EX.append _ _
  have key := app1p (K := fun x49 h_2 => (iLoad false 1 h_2 (pt m 0) = some sv ∧ True) ∧ OP (iAdrSl 1 sv (I ((st - 1 : Nat) : Int))) fun x50 => OH (oStore 1 h_2 x50 x49) fun _ h_3 =>
    (True) ∧ (Exit.normal = Exit.normal ∧ h_3[i]? = some .dead ∧ K (.bool true) (h_3.set i o))) (z := .int .u8 0) (x := cv c) (bytes := 1) hel (by simp; omega) (by simp [maxLen]; omega) rfl rfl ?_
  · rw [mk] at key ⊢
    simp only [OH_some] at key ⊢
    refine ⟨⟨EX.load hx1 ld, EX.load hx1 ld, EX.load hx1 l46, trivial⟩, ?_⟩
    simpa [a1] using key
  · intro hA hx' _ hlen hkeep hnew
    have low : ∀ d, d < b → hx'[d]? = g[d]? := by
      intro d hd
      by_cases hdg : d < g.length
      · refine hkeep d hdg fun n hv => ?_
        have := (hel.lt hv).1
        omega
      · omega
    simp only [OH_some]
    have lm : iLoad false 1 hx' (pt m 0) = some sv := by simp [iLoad, objCells, iPart, low m hb, hout]
    refine ⟨⟨lm, trivial⟩, ?_⟩
    have hs' : hx'[sid]? = some (.arr 55 evl) := by
      rw [hkeep sid hsl, hsg]
      intro n hv
      exact p.sap (st - 1) hj1 sid n _ hv hsv
    simp only [a1, OP_some]
    rw [store_at hs' hj1 rfl rfl]
    simp only [OH_some, true_and]
    refine ⟨by rw [List.getElem?_set_ne (by omega), low i hib]; exact hdead, ?_⟩
    have sne : sid ≠ g.length + 1 := by omega
    refine hk _ (evl.set (st - 1) (sl 5 (g.length + 1) 0 ((gs[st - 1].map cv).length + 1))) (fun d hd => by rw [List.getElem?_set_ne (by omega)]; exact low d hd) (by simp; omega) ⟨by simp [hpl], ?_, ?_, ?_, ?_⟩
    · intro j q1 q2
      rw [List.length_set] at q1 q2
      by_cases hj : st - 1 = j
      · subst hj
        rw [List.getElem_set_self, List.getElem_set_self]
        refine .inr ⟨g.length + 1, by omega, by simp, ?_⟩
        rw [List.getElem?_set_ne sne, hnew]
        simp
      · rw [List.getElem_set_ne hj, List.getElem_set_ne hj]
        refine (p.el j q1 q2).keep fun d n hv hd => ?_
        have hd' := (p.el j q1 q2).lt hv
        rw [List.getElem?_set_ne (fun e => p.sap j q1 d n _ hv (by rw [hsv, e])), hkeep d hd'.2.1]
        intro n' hv'
        exact hj (p.ap (st - 1) j hj1 q1 d n' n hv' hv)
    · intro j k q1 q2 d n n' hv hv'
      rw [List.length_set] at q1 q2
      by_cases hj : st - 1 = j
      · by_cases hk2 : st - 1 = k
        · omega
        · subst hj
          rw [List.getElem_set_self] at hv
          rw [List.getElem_set_ne hk2] at hv'
          obtain ⟨e1, _⟩ := sl_inj hv
          have := (p.el k q2 (by omega)).lt hv'
          omega
      · by_cases hk2 : st - 1 = k
        · subst hk2
          rw [List.getElem_set_self] at hv'
          rw [List.getElem_set_ne hj] at hv
          obtain ⟨e1, _⟩ := sl_inj hv'
          have := (p.el j q1 (by omega)).lt hv
          omega
        · rw [List.getElem_set_ne hj] at hv
          rw [List.getElem_set_ne hk2] at hv'
          exact p.ap j k q1 q2 d n n' hv hv'
    · refine .inr ⟨sid, hsb, by rw [hsv, List.length_set], ?_⟩
      rw [List.getElem?_set_self (by omega)]
    · intro j q1 d n n' hv
      rw [List.length_set] at q1
      by_cases hj : st - 1 = j
      · subst hj
        rw [List.getElem_set_self] at hv
        obtain ⟨rfl, _⟩ := sl_inj hv
        rw [hsv]
        intro h
        exact sne (sl_inj h).1
      · rw [List.getElem_set_ne hj] at hv
        exact p.sap j q1 d n n' hv

end Go.Proofs.Ytjdlcokhlphmhaa

/-
  Steps.
-/
namespace Go.Proofs.Ytjdlcokhlphmhaa
open Go.Sim

theorem OwnS.ss {b : Nat} {hx : Heap} {e : TypeId} {v : Value} {ls : List (List UInt8)} (o : OwnS b hx e v (ls.map S)) : SS hx v ls := by
  rcases o with ⟨rfl, h⟩ | ⟨i, _, rfl, hg⟩
  · have : ls = [] := by simpa using h
    subst this
    exact ⟨rfl, fun k hk => by simp at hk⟩
  · have := SS.sl (h := hx) (e := e) (i := i) (ls := ls) (by simp [objCells, hg])
    simpa using this

theorem OwnS.len {b : Nat} {hx : Heap} {e : TypeId} {v : Value} {xs : List Value} (o : OwnS b hx e v xs) : iLenSl v = some (I xs.length) := by
  rcases o with ⟨rfl, rfl⟩ | ⟨i, _, rfl, _⟩ <;> rfl

theorem grp_length_le (L : List (UInt8 × Nat)) (n : Nat) : (grp L n).length ≤ L.length := by
  unfold grp
  rw [List.length_map]
  exact List.length_filter_le _ _

theorem gsOf_mem {L : List (UInt8 × Nat)} {x : List UInt8} (h : x ∈ gsOf L) : ∃ n, 1 ≤ n ∧ n ≤ maxH L ∧ x = grp L n := by
  obtain ⟨j, hj, rfl⟩ := List.mem_map.1 h
  exact ⟨j + 1, by omega, by have := List.mem_range.1 hj; omega, rfl⟩

theorem maxH_le (ps : List (Int × Int)) (s : List UInt8) : maxH (htsF (freeP ps) s) ≤ s.length := by
  induction s using snocInd with
  | nil => simp [htsF, maxH]
  | snoc s c ih =>
    rw [htsF_snoc, maxH_snoc]
    have := nextH_le_max (fr := freeP ps) (htsF (freeP ps) s) c
    simp
    omega

theorem C42 {ps : List (Int × Int)} {pv : Value} {s : List UInt8} {k : Int} {h : Heap} {K : Value → Heap → Prop} (hp : PS h pv ps) (hl0 : ps.length ≤ 100) (hs : s.length ≤ 1000)
    (hno : whyE k ps [s] 40 ≠ 0 → ∀ h', EX h h' → K (.tuple #[.slice none 0 0, I (whyE k ps [s] 40)]) h') (hyes : whyE k ps [s] 40 = 0 → ∀ v h', EX h h' → SS h' v (stepsF ps s) → K (.tuple #[v, I 0]) h') : CallP Try.prog 42 [I k, pv, S s] h K := by
  refine f42 ?_
  simp only [T42, mkS1, OH_some]
  have hx : EX h (h ++ [.arr 9 [S s]]) := EX.append _ _
  have hss : SS (h ++ [.arr 9 [S s]]) (sl 9 h.length 0 1) [s] := SS.sl (ls := [s]) (by simp [objCells])
  refine C56 (most := 40) (hp.mono hx) hl0 hss (by simp) (by simp; exact hs) (fun hw => ?_) (fun hw => ?_)
  · simp only [ext_tuple, pair0, pair1, OP_some, bin_neq, decide_eq_false hw, Bool.not_false, IfP_true]
    exact hno hw _ hx
  · obtain ⟨ht, hse⟩ := whyE_ok hw
    have hy2 := hyes hw
    obtain ⟨n, rfl, hn1, hn6⟩ := threadsOk_k ht
    obtain ⟨hlen, hbad⟩ := seamsE_ok hse s (by simp)
    have ls := letters_of hbad
    have ls6 := letters_le hn6 ls
    have hself : ∀ a, a < 6 → freeP ps (lt a) (lt a) = false := fun a ha => freeP_self ht ha
    generalize hh1 : h ++ [.arr 9 [S s]] = h1 at *
    simp only [ext_tuple, pair0, pair1, OP_some, bin_neq, decide_true, Bool.not_true, IfP_false]
    have hth : TH (h1 ++ [.arr 138 (tcells n (cmOf ps))]) (pt h1.length 0) n (cmOf ps) := ⟨h1.length, rfl, by simp [objCells]⟩
    have x2 : EX h (h1 ++ [.arr 138 (tcells n (cmOf ps))]) := hx.push _
    generalize h1 ++ [IObj.arr 138 (tcells n (cmOf ps))] = h2 at hth x2 ⊢
    have al : iAlloc 124 [.slice none 0 0] h2 = some (pt h2.length 0, h2 ++ [.arr 124 [.slice none 0 0]]) := rfl
    simp only [al, OH_some]
    refine C78 ?_
    refine rangeP_func ok106 ?_
    simp only [List.append_assoc, List.length_append, List.length_cons, List.length_nil, List.cons_append, List.nil_append]
    have e5 : (h2 ++ [IObj.arr 124 [.slice none 0 0], .arr 91 [pt h1.length 0], .arr 9 [S s], .loop (loopOf Try.prog 42) [10] [pt h2.length 0]]).length = h2.length + 4 := by simp
    refine C106 (n := n) (ps := ps) (s := s) (tv := pt h1.length 0) hn6 hself ls hs
      (fun i g => ∃ sv evl, Stand h2 124 (loopOf Try.prog 42) sv (pt h1.length 0) s g ∧ StepsIn (h2.length + 5) g sv evl (gsOf (htsF (freeP ps) (s.take i)))) ?_ ?_ ?_ ?_ ?_
    · rintro i g ⟨sv, evl, p, _⟩
      obtain ⟨a1, a2⟩ := p.low
      exact ⟨a1, a2, hth.mono p.ex, by rw [e5]; exact p.lt⟩
    · rintro i g o ⟨sv, evl, p, q⟩
      rw [e5]
      refine ⟨sv, evl, p.setT o, q.keep fun d hd _ => ?_⟩
      rw [List.getElem?_set_ne (by omega)]
    · rintro i g K' hi ⟨sv, evl, p, q⟩ hK'
      rw [e5] at hK'
      refine Y42 p.lp ?_
      have pl := p.lt
      have q0 : StepsIn (h2.length + 5) (g.set (h2.length + 3) .dead) sv evl (gsOf (htsF (freeP ps) (s.take i))) := q.keep fun d hd _ => by rw [List.getElem?_set_ne (by omega)]
      have o0 : (g.set (h2.length + 3) .dead)[h2.length]? = some (.arr 124 [sv]) := by rw [List.getElem?_set_ne (by omega)]; exact p.out
      have d0 : (g.set (h2.length + 3) .dead)[h2.length + 3]? = some .dead := List.getElem?_set_self (by omega)
      have l0 : h2.length + 5 ≤ (g.set (h2.length + 3) .dead).length := by rw [List.length_set]; omega
      have k0 : ∀ d, d ≠ h2.length + 3 → (g.set (h2.length + 3) .dead)[d]? = g[d]? := fun d hd => by rw [List.getElem?_set_ne (fun e => hd e.symm)]
      generalize g.set (h2.length + 3) .dead = g0 at q0 o0 d0 l0 k0 ⊢
      have hv1 : iLoad false 1 g0 (pt h2.length 0) = some sv := by simp [iLoad, objCells, iPart, o0]
      have hgl : (gsOf (htsF (freeP ps) (s.take i))).length ≤ 40 := by
        rw [gsOf_length]
        have := maxH_le ps (s.take i)
        rw [List.length_take] at this
        omega
      have hgm : ∀ x ∈ gsOf (htsF (freeP ps) (s.take i)), x.length ≤ 40 := by
        intro x hx
        obtain ⟨m, _, _, rfl⟩ := gsOf_mem hx
        have := grp_length_le (htsF (freeP ps) (s.take i)) m
        rw [htsF_length, List.length_take] at this
        omega
      have hq := (hgt_le ps s hi).1
      have hq2 : hgt ps s i hi ≤ maxH (htsF (freeP ps) (s.take i)) + 1 := nextH_le_max _ _
      have hglen := gsOf_length (htsF (freeP ps) (s.take i))
      have hel := q0.len
      simp only [hv1, OP_some, q0.own.len, bin_gtr]
      -- what is known when the letter is in its place
      have fin : ∀ (g1 : Heap) (sv1 : Value), g1[h2.length]? = some (.arr 124 [sv1]) → (∀ d, d ≠ h2.length → d < h2.length + 5 → g1[d]? = g0[d]?) → h2.length + 5 ≤ g1.length → ∀ g' evl', (∀ d, d < h2.length + 5 → g'[d]? = g1[d]?) → h2.length + 5 ≤ g'.length →
          StepsIn (h2.length + 5) g' sv1 evl' (gsOf (htsF (freeP ps) (s.take (i + 1)))) → K' (.bool true) (g'.set (h2.length + 3) (.loop (loopOf Try.prog 42) [10] [pt h2.length 0])) := by
        intro g1 sv1 w1 w2 w3 g' evl' z1 z2 z3
        have low : ∀ d, d ≠ h2.length → d < h2.length + 5 → d ≠ h2.length + 3 → (g'.set (h2.length + 3) (.loop (loopOf Try.prog 42) [10] [pt h2.length 0]))[d]? = g[d]? := by
          intro d h1 h2' h3
          rw [List.getElem?_set_ne (fun e => h3 e.symm), z1 d h2', w2 d h1 h2', k0 d h3]
        refine hK' _ ⟨sv1, evl', ⟨?_, ?_, ?_, ?_, ?_, ?_⟩, z3.keep fun d hd _ => by rw [List.getElem?_set_ne (by omega)]⟩ ?_
        · refine ⟨by rw [List.length_set]; omega, fun j hj => ?_⟩
          rw [low j (by omega) (by omega) (by omega)]
          exact p.ex.2 j hj
        · rw [List.getElem?_set_ne (by omega), z1 _ (by omega)]; exact w1
        · rw [low _ (by omega) (by omega) (by omega)]; exact p.th
        · rw [low _ (by omega) (by omega) (by omega)]; exact p.st
        · rw [List.getElem?_set_self (by omega)]
        · rw [List.length_set]; omega
        · rw [low _ (by omega) (by omega) (by omega)]
      by_cases hnew : maxH (htsF (freeP ps) (s.take i)) < hgt ps s i hi
      · have hst : hgt ps s i hi = maxH (htsF (freeP ps) (s.take i)) + 1 := by omega
        rw [decide_eq_true (show ((evl.length : Nat) : Int) < (hgt ps s i hi : Nat) by omega)]
        simp only [IfP_true, hv1, OP_some]
        refine app1p q0.own (by omega) (by unfold maxLen; omega) rfl rfl ?_
        intro hA hx' _ hxl hkeep hnw
        simp only [OH_some]
        have low : ∀ d, d < h2.length + 5 → hx'[d]? = g0[d]? := by
          intro d hd
          refine hkeep d (by omega) fun n hv => ?_
          have := (q0.own.lt hv).1
          omega
        rw [store_at (by rw [low _ (by omega)]; exact o0) (by simp) rfl rfl]
        simp only [OH_some, List.set_cons_zero]
        have e1 : gsOf (htsF (freeP ps) (s.take (i + 1))) = (gsOf (htsF (freeP ps) (s.take i)) ++ [[]]).set (hgt ps s i hi - 1) (((gsOf (htsF (freeP ps) (s.take i)) ++ [[]])[hgt ps s i hi - 1]'(by simp; omega)) ++ [s[i]]) := by
          rw [hts_take ps s hi, gsOf_new hst]
          have hidx : hgt ps s i hi - 1 = (gsOf (htsF (freeP ps) (s.take i))).length := by omega
          simp only [hidx]
          rw [List.getElem_append_right (Nat.le_refl _), List.set_append_right _ _ (Nat.le_refl _)]
          simp
        refine putC42 (m := h2.length) (b := h2.length + 5) (evl := evl ++ [.slice none 0 0]) (gs := gsOf (htsF (freeP ps) (s.take i)) ++ [[]]) (by omega) (by omega) (by omega) ?_ (by rw [List.getElem?_set_self (by omega)]) (by rw [List.getElem?_set_ne (by omega), low _ (by omega)]; exact d0) hq (by simp; omega) (by simp; omega) ?_ ?_
        · have sid : ∀ j (h1 : j < evl.length) d n, evl[j] = sl 5 d 0 n → h2.length + 5 ≤ d ∧ d < g0.length := fun j h1 d n hv => ⟨((q0.el j h1 (by omega)).lt hv).1, ((q0.el j h1 (by omega)).lt hv).2.1⟩
          refine ⟨by simp [hel], ?_, ?_, ?_, ?_⟩
          · intro j q1 q2
            by_cases hj : j < evl.length
            · rw [List.getElem_append_left hj, List.getElem_append_left (by omega)]
              refine (q0.el j hj (by omega)).keep fun d n hv hd => ?_
              have hd' := (q0.el j hj (by omega)).lt hv
              rw [List.getElem?_set_ne (by omega), hkeep d hd'.2.1]
              intro n' hv'
              exact q0.sap j hj d n n' hv hv'
            · have : j = evl.length := by simp at q1; omega
              subst this
              rw [List.getElem_append_right (Nat.le_refl _), List.getElem_append_right (by omega)]
              left
              simp
          · intro j k q1 q2 d n n' hv hv'
            have hj : j < evl.length := by
              apply Classical.byContradiction
              intro hc
              rw [List.getElem_append_right (by omega)] at hv
              simp [sl] at hv
            have hk2 : k < evl.length := by
              apply Classical.byContradiction
              intro hc
              rw [List.getElem_append_right (by omega)] at hv'
              simp [sl] at hv'
            rw [List.getElem_append_left hj] at hv
            rw [List.getElem_append_left hk2] at hv'
            exact q0.ap j k hj hk2 d n n' hv hv'
          · refine .inr ⟨g0.length + 1, by omega, by simp, ?_⟩
            rw [List.getElem?_set_ne (by omega), hnw]
          · intro j q1 d n n' hv
            have hj : j < evl.length := by
              apply Classical.byContradiction
              intro hc
              rw [List.getElem_append_right (by omega)] at hv
              simp [sl] at hv
            rw [List.getElem_append_left hj] at hv
            have := sid j hj d n hv
            intro h
            obtain ⟨e, _⟩ := sl_inj h
            omega
        · intro x hx
          rcases List.mem_append.1 hx with hx | hx
          · have := hgm x hx; omega
          · rw [List.mem_singleton] at hx; subst hx; simp
        · intro g' evl' z1 z2 z3
          refine fin (hx'.set h2.length (.arr 124 [sl 55 (g0.length + 1) 0 (evl.length + 1)])) _ (by rw [List.getElem?_set_self (by omega)]) (fun d h1 h2' => by rw [List.getElem?_set_ne (fun e => h1 e.symm), low d h2']) (by rw [List.length_set]; omega) g' evl' z1 z2 ?_
          rw [e1]
          exact z3
      · rw [decide_eq_false (show ¬ ((evl.length : Nat) : Int) < (hgt ps s i hi : Nat) by omega)]
        simp only [IfP_false]
        have hst : hgt ps s i hi ≤ maxH (htsF (freeP ps) (s.take i)) := by omega
        have e1 : gsOf (htsF (freeP ps) (s.take (i + 1))) = (gsOf (htsF (freeP ps) (s.take i))).set (hgt ps s i hi - 1) (((gsOf (htsF (freeP ps) (s.take i)))[hgt ps s i hi - 1]'(by omega)) ++ [s[i]]) := by
          rw [hts_take ps s hi, gsOf_old hq hst]
          have := gsOf_get (htsF (freeP ps) (s.take i)) (j := hgt ps s i hi - 1) (by omega)
          rw [List.getElem?_eq_getElem (by omega)] at this
          rw [Option.some.inj this, show hgt ps s i hi - 1 + 1 = hgt ps s i hi by omega]
        refine putC42 (m := h2.length) (b := h2.length + 5) (by omega) (by omega) (by omega) q0 o0 d0 hq (by omega) (by omega) (fun x hx => by have := hgm x hx; omega) ?_
        intro g' evl' z1 z2 z3
        refine fin g0 sv o0 (fun d _ _ => rfl) l0 g' evl' z1 z2 ?_
        rw [e1]
        exact z3
    · refine ⟨.slice none 0 0, [], ⟨?_, ?_, ?_, ?_, ?_, ?_⟩, ⟨by simp [gsOf, htsF, maxH], fun j h1 => by simp at h1, fun j k h1 => by simp at h1, .inl ⟨rfl, rfl⟩, fun j h1 => by simp at h1⟩⟩
      · rw [List.append_assoc]; exact EX.append _ _
      all_goals simp
    · rintro g ⟨sv, evl, p, q⟩
      rw [List.take_length] at q
      refine ⟨⟨_, _, _, p.lp⟩, ?_⟩
      have pl := p.lt
      have q0 : StepsIn (h2.length + 5) (g.set (h2.length + 3) .dead) sv evl (gsOf (htsF (freeP ps) s)) := q.keep fun d hd _ => by rw [List.getElem?_set_ne (by omega)]
      have hv1 : iLoad false 1 (g.set (h2.length + 3) .dead) (pt h2.length 0) = some sv := by
        simp [iLoad, objCells, iPart, p.out]
      have hxE : EX h (g.set (h2.length + 3) .dead) := (x2.trans p.ex).set (by have := x2.1; omega) _
      have hxl : h.length ≤ h2.length := x2.1
      have hgEl : h2.length + 5 ≤ (g.set (h2.length + 3) .dead).length := by rw [List.length_set]; omega
      generalize g.set (h2.length + 3) .dead = gE at q0 hv1 hxE hgEl ⊢
      simp only [hv1, OP_some, q0.own.len]
      have hel := q0.len
      have hgl : (gsOf (htsF (freeP ps) s)).length ≤ 40 := by
        rw [gsOf_length]
        have := maxH_le ps s
        omega
      have hgood : ∀ x ∈ gsOf (htsF (freeP ps) s), letters 6 x ∧ x.length ≤ 6 ∧ x ≠ [] := by
        intro x hx
        obtain ⟨m, h1, h2, rfl⟩ := gsOf_mem hx
        have hlt := grp_letters (fr := freeP ps) ls6 m
        exact ⟨hlt, grp_len hlt hself (grp_free m), grp_some m h1 h2⟩
      have hst : stepsF ps s = (gsOf (htsF (freeP ps) s)).map srt := rfl
      rw [hst] at hy2
      generalize gsOf (htsF (freeP ps) s) = gs at q0 hel hgl hgood hy2
      refine loopL (σ := Nat × Value × Heap) (fun p => [p.2.1, I p.1]) (fun p => p.2.2) (fun p => p.1 ≤ evl.length ∧ gE.length ≤ p.2.2.length ∧ (∀ d, d < gE.length → (∀ j (hj : j < evl.length) n, j < p.1 → evl[j] ≠ sl 5 d 0 n) → p.2.2[d]? = gE[d]?) ∧ OwnS gE.length p.2.2 9 p.2.1 (((gs.take p.1).map srt).map S)) (fun p => evl.length - p.1)
        (0, .slice none 0 0, gE) rfl rfl ⟨by simp, Nat.le_refl _, fun d _ _ => rfl, .inl ⟨rfl, by simp⟩⟩ ?_
      rintro ⟨i, out, hx⟩ ⟨hi, hxlen, hsame, hown⟩ L hL
      simp only at hi hxlen hsame hown hL ⊢
      rw [q42z14]
      simp only [bin_lss, OP_some, IfP_dec]
      refine ⟨fun hlt => ?_, fun hge => ?_⟩
      · have hie : i < evl.length := by omega
        have hig : i < gs.length := by omega
        obtain ⟨hgl6, hg6, hgne⟩ := hgood _ (List.getElem_mem hig)
        obtain ⟨sid, hsb, hsv, hsg⟩ : ∃ sid, h2.length + 5 ≤ sid ∧ sv = sl 55 sid 0 evl.length ∧ gE[sid]? = some (.arr 55 evl) := by
          rcases q0.own with ⟨_, h0⟩ | h0
          · rw [h0] at hie; simp at hie
          · exact h0
        have hsl : sid < gE.length := (List.getElem?_eq_some_iff.1 hsg).1
        have hs2 : hx[sid]? = some (.arr 55 evl) := by
          rw [hsame sid hsl, hsg]
          intro j hj n _ hv
          exact q0.sap j hj sid n _ hv hsv
        obtain ⟨d, hdb, hdv, hdg⟩ : ∃ d, h2.length + 5 ≤ d ∧ evl[i] = sl 5 d 0 gs[i].length ∧ gE[d]? = some (.arr 5 (gs[i].map cv)) := by
          rcases q0.el i hie hig with ⟨_, h0⟩ | ⟨d, h1, h2, h3⟩
          · exact absurd (by simpa using h0) hgne
          · exact ⟨d, h1, by simpa using h2, h3⟩
        have hdl : d < gE.length := (List.getElem?_eq_some_iff.1 hdg).1
        have hd2 : hx[d]? = some (.arr 5 (gs[i].map cv)) := by
          rw [hsame d hdl, hdg]
          intro j hj n hji hv
          have := q0.ap j i hj hie d n _ hv hdv
          omega
        have a1 : iAdrSl 1 sv (I i) = some (pt sid i) := by rw [hsv]; exact adr_sl hie
        have l1 : iLoad false 1 hx (pt sid i) = some evl[i] := by simp [iLoad, objCells, hs2, iPart, hie]
        simp only [a1, OP_some, l1]
        rw [hdv]
        refine C79 hd2 hgl6 (by omega) ?_
        have hperm := (srt_perm hgl6).length_eq
        have b2 : iB2s (hb hx d (srt gs[i])) (sl 5 d 0 gs[i].length) = some (S (srt gs[i])) := by
          refine b2s (b := 0) (e := 5) (l := srt gs[i]) (.inr ⟨d, Nat.zero_le _, by simp [hperm], ?_⟩)
          rw [hb_get (by omega)]
        simp only [b2, OP_some]
        have hT : ((hb hx d (srt gs[i])).take gE.length).length = gE.length := by rw [List.length_take, List.length_set]; omega
        refine app1 (h0 := (hb hx d (srt gs[i])).take gE.length) (xs := ((gs.take i).map srt).map S) (by
          rw [hT]
          refine hown.keep fun d' n hv hd' => ?_
          rw [List.getElem?_set_ne (by omega)]) (EX.takeN _ _) (by rw [List.length_map, List.length_map, List.length_take]; omega) (by rw [List.length_map, List.length_map, List.length_take]; unfold maxLen; omega) rfl rfl ?_
        intro v' hx' hex' hown'
        rw [hT] at hown'
        have hlen' : gE.length ≤ hx'.length := by have := hex'.1; rw [hT] at this; exact this
        simp only [bin_add, OP_some, inc i (by omega), true_and]
        refine hL (i + 1, v', hx') ⟨by show i + 1 ≤ evl.length; omega, hlen', ?_, ?_⟩ (by show evl.length - (i + 1) < evl.length - i; omega)
        · intro d' hd' hne
          rw [hex'.2 d' (by rw [hT]; exact hd'), List.getElem?_take, if_pos hd', List.getElem?_set_ne ?_]
          · exact hsame d' hd' fun j hj n hji => hne j hj n (by show j < i + 1; omega)
          · rintro rfl
            exact hne i hie _ (by show i < i + 1; omega) hdv
        · have : ((gs.take (i + 1)).map srt).map S = ((gs.take i).map srt).map S ++ [S (srt gs[i])] := by
            rw [List.take_succ_eq_append_getElem hig, List.map_append, List.map_append]; rfl
          show OwnS gE.length hx' 9 v' (((gs.take (i + 1)).map srt).map S)
          rw [this]
          exact hown'
      · have : i = evl.length := by omega
        subst this
        rw [q42z21]
        have : gs.take evl.length = gs := List.take_of_length_le (by omega)
        rw [this] at hown
        refine hy2 out hx ⟨by have := hxE.1; omega, fun j hj => ?_⟩ hown.ss
        rw [hsame j (by have := hxE.1; omega) ?_]
        · exact hxE.2 j hj
        · intro j' hj' n _ hv
          have := ((q0.el j' hj' (by omega)).lt hv).1
          omega

end Go.Proofs.Ytjdlcokhlphmhaa
