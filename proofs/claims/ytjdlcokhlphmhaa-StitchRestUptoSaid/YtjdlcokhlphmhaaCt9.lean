/-
  Threads and seams derived from arbitrary numbers; a seam without all letters but two.
-/
import Derived.Test.YtjdlcokhlphmhaaCt8
import Derived.Test.YtjdlcokhlphmhaaSp2
import Derived.Test.YtjdlcokhlphmhaaSim24
namespace Go.Proofs.Ytjdlcokhlphmhaa
open Go.Sim

theorem C34 {s : List UInt8} {x y : UInt8} {h : Heap} {K : Value → Heap → Prop} (hs : s.length ≤ 1000) (hk : K (S (only x y s)) h) : CallP Try.prog 34 [S s, cv x, cv y] h K := by
  refine f34 ?_
  refine loopL (σ := Nat) (fun i => [S (only x y (s.take i)), I i]) (fun _ => h) (fun i => i ≤ s.length) (fun i => s.length - i) 0 rfl rfl (by omega) ?_
  intro i hi L hL
  rw [q34z6]
  simp only [lenS_S, bin_lss, OP_some, IfP_dec]
  refine ⟨fun hlt => ?_, fun hge => ?_⟩
  · have hlt' : i < s.length := by omega
    have hstep : s.take (i + 1) = s.take i ++ [s[i]] := by rw [List.take_succ_eq_append_getElem hlt']
    have hlen : (only x y (s.take i)).length ≤ 1000 := Nat.le_trans (List.length_filter_le _ _) (by rw [List.length_take]; omega)
    have hL' := hL (i + 1) (by omega) (by omega)
    rw [hstep, only_append] at hL'
    rw [idxS_S s hlt']
    simp only [OP_some, bin_eql, cv_inj, q34z13]
    have hone : only x y [s[i]] = if s[i] = x ∨ s[i] = y then [s[i]] else [] := by
      by_cases h1 : s[i] = x <;> by_cases h2 : s[i] = y <;> simp [only, h1, h2]
    have yes : s[i] = x ∨ s[i] = y → OP (iBin .add (I i) (.int .i64 1)) fun x31 => OP (iSlS (S s) (some (I i)) (some x31)) fun x32 => OP (iBin .add (S (only x y (s.take i))) x32) fun x33 => p34z16 Try.prog K (S s) (cv x) (cv y) x33 (I i) L h := by
      intro hor
      rw [if_pos hor] at hone
      simp only [bin_add, OP_some, inc i (by omega)]
      rw [slS_lh s (by omega) (by omega), take_drop_one hlt']
      simp only [OP_some]
      rw [bin_addS _ _ (by simp only [List.length_cons, List.length_nil, maxLen]; omega)]
      simp only [OP_some, q34z16, bin_add, inc i (by omega), true_and]
      rw [hone] at hL'
      exact hL'
    by_cases h1 : s[i] = x
    · simp only [decide_eq_true h1, GdP_tf, q34z15, iPick_t, OP_some, IfP_true]
      exact yes (.inl h1)
    · simp only [decide_eq_false h1, GdP_ff]
      rw [idxS_S s hlt']
      simp only [OP_some, bin_eql, cv_inj, q34z15, iPick_f, IfP_dec]
      refine ⟨fun h2 => yes (.inr h2), fun h2 => ?_⟩
      rw [if_neg (by rintro (h | h); exact h1 h; exact h2 h)] at hone
      simp only [q34z16, bin_add, OP_some, inc i (by omega), true_and]
      rw [hone, List.append_nil] at hL'
      exact hL'
  · have : i = s.length := by omega
    subst this
    rw [List.take_length, q34z17]
    exact hk

/-- The numbers of a slice of small numbers. -/
def U8 (ns : List Int) : Prop := ∀ x ∈ ns, 0 ≤ x ∧ x < 256

theorem abc (i : Nat) (h : i < 6) : (([97, 98, 99, 100, 101, 102] : List UInt8).take (i + 1)).drop i = [lt i] := by
  have : i = 0 ∨ i = 1 ∨ i = 2 ∨ i = 3 ∨ i = 4 ∨ i = 5 := by omega
  rcases this with rfl | rfl | rfl | rfl | rfl | rfl <;> rfl

theorem C31 {n most : Nat} {lv : Value} {ns : List Int} {h : Heap} {K : Value → Heap → Prop} (hn : 1 ≤ n) (hn6 : n ≤ 6) (hm : most ≤ 100) (hl : NS h lv .u8 ns) (hu : U8 ns) (hk : ∀ s, letters n s → s.length ≤ most → K (S s) h) :
    CallP Try.prog 31 [I n, lv, I most] h K := by
  refine f31 ?_
  refine loopL (σ := List UInt8) (fun s => [S s, I s.length]) (fun _ => h) (fun s => letters n s ∧ s.length ≤ most) (fun s => most - s.length) [] rfl rfl ⟨fun c hc => by simp at hc, by simp⟩ ?_
  rintro s ⟨hs, hsm⟩ L hL
  rw [q31z6]
  simp only [hl.len, OP_some, bin_lss, q31z10]
  have done : p31z15 Try.prog K (S s) h := by rw [q31z15]; exact hk s hs hsm
  by_cases h1 : (s.length : Int) < ns.length
  · simp only [decide_eq_true h1, GdP_tt, OP_some, q31z12, iPick_t, IfP_dec]
    refine ⟨fun h2 => ?_, fun _ => done⟩
    obtain ⟨b, o, g1, g2⟩ := hl.get s.length (by omega)
    obtain ⟨u1, u2⟩ := hu _ (List.getElem_mem (show s.length < ns.length by omega))
    generalize ns[s.length] = m at g2 u1 u2
    obtain ⟨m, rfl⟩ : ∃ j : Nat, m = j := ⟨m.toNat, by omega⟩
    simp only [g1, OP_some, g2, conv_int, true_and]
    rw [wrap64 (by omega) (by omega), rem_nat _ _ _ (by omega)]
    have hr : m % n < n := Nat.mod_lt _ (by omega)
    simp only [OP_some, bin_add, inc (m % n) (by omega)]
    have e : (.string ⟨#[97, 98, 99, 100, 101, 102]⟩ : Value) = S [97, 98, 99, 100, 101, 102] := rfl
    rw [e, slS_lh _ (by omega) (by simp; omega), abc _ (by omega)]
    simp only [OP_some]
    rw [bin_addS _ _ (by simp only [List.length_cons, List.length_nil, maxLen]; omega)]
    simp only [OP_some, inc s.length (by omega), true_and]
    have := hL (s ++ [lt (m % n)]) ⟨fun c hc => by
      rcases List.mem_append.1 hc with hc | hc
      · exact hs c hc
      · rw [List.mem_singleton] at hc; exact ⟨_, hr, hc⟩, by simp; omega⟩ (by simp; omega)
    simpa using this
  · simp only [decide_eq_false h1, GdP_ft, q31z12, iPick_f, OP_some, IfP_false]
    exact done

/-- Two letters side by side, exchanged. -/
def swapAt (s : List UInt8) (i : Nat) : List UInt8 := s.take i ++ (s.take (i + 2)).drop (i + 1) ++ (s.take (i + 1)).drop i ++ s.drop (i + 2)

theorem swapAt_length {s : List UInt8} {i : Nat} (h : i + 1 < s.length) : (swapAt s i).length = s.length := by
  simp [swapAt]; omega

theorem swapAt_letters {n : Nat} {s : List UInt8} (h : letters n s) (i : Nat) : letters n (swapAt s i) := by
  intro c hc
  simp only [swapAt, List.mem_append] at hc
  rcases hc with ((hc | hc) | hc) | hc
  · exact h c (List.mem_of_mem_take hc)
  · exact h c (List.mem_of_mem_take (List.mem_of_mem_drop hc))
  · exact h c (List.mem_of_mem_take (List.mem_of_mem_drop hc))
  · exact h c (List.mem_of_mem_drop hc)

theorem swapT {t : List UInt8} {i : Nat} {K : Value → Prop} (hi : i + 1 < t.length) (ht : t.length ≤ 1000) (hk : K (S (swapAt t i))) :
    OP (iSlS (S t) none (some (I i))) fun x40 => OP (iBin .add (I i) (.int .i64 1)) fun x43 => OP (iBin .add (I i) (.int .i64 2)) fun x45 => OP (iSlS (S t) (some x43) (some x45)) fun x46 => OP (iBin .add x40 x46) fun x47 =>
      OP (iBin .add (I i) (.int .i64 1)) fun x51 => OP (iSlS (S t) (some (I i)) (some x51)) fun x52 => OP (iBin .add x47 x52) fun x53 => OP (iBin .add (I i) (.int .i64 2)) fun x56 => OP (iSlS (S t) (some x56) none) fun x57 => OP (iBin .add x53 x57) K := by
  have e2 : IntKind.wrap .i64 ((i : Int) + 2) = ((i + 2 : Nat) : Int) := by rw [wrap64 (by omega) (by omega)]; omega
  rw [slS_hi t (by omega)]
  simp only [OP_some, bin_add, inc i (by omega), e2]
  rw [slS_lh t (by omega) (by omega)]
  simp only [OP_some]
  rw [bin_addS _ _ (by simp only [List.length_take, List.length_drop, maxLen]; omega)]
  simp only [OP_some]
  rw [slS_lh t (by omega) (by omega)]
  simp only [OP_some]
  rw [bin_addS _ _ (by simp only [List.length_append, List.length_take, List.length_drop, maxLen]; omega)]
  simp only [OP_some]
  rw [slS_lo t (by omega)]
  simp only [OP_some]
  rw [bin_addS _ _ (by simp only [List.length_append, List.length_take, List.length_drop, maxLen]; omega)]
  exact OP_some.2 hk

theorem C32 {ps : List (Int × Int)} {pv bv : Value} {n : Nat} {s : List UInt8} {ns : List Int} {h : Heap} {K : Value → Heap → Prop} (hp : PS h pv ps) (hg : good ps) (hl : ps.length ≤ 100) (hb : NS h bv .u8 ns) (hu : U8 ns) (hs : letters n s) (hls : s.length ≤ 1000)
    (hk : ∀ t, letters n t → t.length = s.length → K (S t) h) : CallP Try.prog 32 [pv, S s, bv] h K := by
  refine f32 ?_
  refine loopL (σ := List UInt8 × Nat) (fun p => [S p.1, I p.2]) (fun _ => h) (fun p => letters n p.1 ∧ p.1.length = s.length ∧ p.2 ≤ ns.length) (fun p => ns.length - p.2) (s, 0) rfl rfl ⟨hs, rfl, by omega⟩ ?_
  rintro ⟨t, i⟩ ⟨ht, htl, hi⟩ L hL
  simp only at ht htl hi hL ⊢
  rw [q32z5]
  simp only [hb.len, OP_some, bin_lss, q32z9]
  have done : p32z17 Try.prog K (S t) h := by rw [q32z17]; exact hk t ht htl
  have hmax := hb.le
  by_cases h1 : (i : Int) < ns.length
  · have next : ∀ t', letters n t' → t'.length = s.length → p32z16 Try.prog K pv (S t') bv (I i) L h := by
      intro t' h2 h3
      simp only [q32z16, bin_add, OP_some, incM i (by omega), true_and]
      exact hL (t', i + 1) ⟨h2, h3, by show i + 1 ≤ ns.length; omega⟩ (by simp; omega)
    simp only [decide_eq_true h1, GdP_tt, lenS_S, OP_some, bin_gtr, q32z11, iPick_t, IfP_dec]
    refine ⟨fun h2 => ?_, fun _ => done⟩
    obtain ⟨b, o, g1, g2⟩ := hb.get i (by omega)
    obtain ⟨u1, u2⟩ := hu _ (List.getElem_mem (show i < ns.length by omega))
    generalize ns[i] = m at g2 u1 u2
    obtain ⟨m, rfl⟩ : ∃ j : Nat, m = j := ⟨m.toNat, by omega⟩
    simp only [g1, OP_some, g2, conv_int, bin_sub]
    have e1 : IntKind.wrap .i64 ((t.length : Int) - 1) = ((t.length - 1 : Nat) : Int) := by rw [wrap64 (by omega) (by omega)]; omega
    rw [wrap64 (by omega) (by omega), e1, rem_nat _ _ _ (by omega)]
    have hr : m % (t.length - 1) < t.length - 1 := Nat.mod_lt _ (by omega)
    generalize m % (t.length - 1) = j at hr
    simp only [OP_some]
    rw [idxS_S t (by omega)]
    simp only [OP_some, bin_add, inc j (by omega)]
    rw [idxS_S t (by omega)]
    simp only [OP_some]
    refine C33 hp hg hl ?_
    refine ⟨trivial, IfP_of (fun _ => ?_) fun _ => next t ht htl⟩
    have := swapT (t := t) (i := j) (K := fun x58 => p32z16 Try.prog K pv x58 bv (I i) L h) (by omega) (by omega) (next _ (swapAt_letters ht j) (by rw [swapAt_length (by omega)]; exact htl))
    simpa only [bin_add, OP_some, inc j (by omega)] using this
  · simp only [decide_eq_false h1, GdP_ft, q32z11, iPick_f, OP_some, IfP_false]
    exact done

theorem plain_pcells (ps : List (Int × Int)) : plainObj (.arr 98 (pcells ps)) = true := by
  induction ps with
  | nil => rfl
  | cons p ps ih => simp only [plainObj, pcells] at ih ⊢; simp [ih, scal]

theorem app_pair {h0 hx : Heap} {id : Nat} {ps : List (Int × Int)} {a b : Int} {K : Value → Heap → Prop} (hex : EX h0 hx) (hid : h0.length ≤ id) (hg : hx[id]? = some (.arr 98 (pcells ps))) (hl : ps.length ≤ 1000)
    (hk : ∀ id' hx', EX h0 hx' → h0.length ≤ id' → hx'[id']? = some (.arr 98 (pcells (ps ++ [(a, b)]))) → K (sl 98 id' 0 (ps ++ [(a, b)]).length) hx') :
    OP (iBuild [.int .i64 0, .int .i64 0] [(0, 1, I a), (1, 1, I b)]) fun x36 => OH (iMkSl 98 1 [.int .i64 0, .int .i64 0] hx [(0, 2, x36)]) fun x37 h_1 => OH (iApp 98 2 16 h_1 (sl 98 id 0 ps.length) x37) K := by
  have e0 : iBuild [.int .i64 0, .int .i64 0] [(0, 1, I a), (1, 1, I b)] = some (.agg #[I a, I b]) := rfl
  have e1 : iMkSl 98 1 [.int .i64 0, .int .i64 0] hx [(0, 2, .agg #[I a, I b])] = some (sl 98 hx.length 0 1, hx ++ [.arr 98 [I a, I b]]) := rfl
  simp only [e0, OP_some, e1, OH_some]
  have e2 : sliceCells (hx ++ [.arr 98 [I a, I b]]) 2 (sl 98 hx.length 0 1) = some [I a, I b] := by simp [sliceCells, sl, objCells]
  have e3 : lenOfSl (sl 98 hx.length 0 1) = some 1 := rfl
  have hlt := (List.getElem?_eq_some_iff.1 hg).1
  have hg' : (hx ++ [.arr 98 [I a, I b]])[id]? = some (.arr 98 (pcells ps)) := by rw [List.getElem?_append_left hlt]; exact hg
  have hpl := pcells_length ps
  have hpp : pcells (ps ++ [(a, b)]) = pcells ps ++ [I a, I b] := by simp [pcells]
  refine OH_of (v := sl 98 (hx.length + 1) 0 (ps ++ [(a, b)]).length) (h := (hx ++ [IObj.arr 98 [I a, I b]]).set id IObj.dead ++ [IObj.arr 98 (pcells (ps ++ [(a, b)]))]) ?_
    (hk _ _ (((hex.push _).set hid _).push _) (by have := hex.1; omega) (by rw [List.getElem?_append_right (by simp)]; simp))
  simp only [iApp, e2, e3]
  simp only [sl, hg']
  rw [if_pos ⟨trivial, trivial, by omega, by omega, by unfold maxLen; omega⟩, if_neg (by omega), hpp]
  simp

theorem C30k {kk f : Int} {h : Heap} {K : Value → Heap → Prop} (h0 : 0 ≤ kk) (h1 : kk < 256)
    (hk : ∀ (n : Nat) ps id hx, 1 ≤ n → n ≤ 6 → threadsOk n ps = true → EX h hx → h.length ≤ id → hx[id]? = some (.arr 98 (pcells ps)) → K (.tuple #[I n, sl 98 id 0 ps.length]) hx) :
    CallP Try.prog 30 [.agg #[.int .u8 kk, .int .u16 f]] h K := by
  refine f30 ?_
  obtain ⟨kk, rfl⟩ : ∃ j : Nat, kk = j := ⟨kk.toNat, by omega⟩
  have e1 : iBox 54 h (.agg #[.int .u8 kk, .int .u16 f]) = some (pt h.length 0, h ++ [.arr 54 [.int .u8 kk, .int .u16 f]]) := rfl
  simp only [T30, e1, OH_some, fadr_pt, Nat.add_zero, OP_some]
  have l0 : iLoad false 1 (h ++ [.arr 54 [.int .u8 kk, .int .u16 f]]) (pt h.length 0) = some (.int .u8 kk) := load_last rfl
  have l1 : iLoad false 1 (h ++ [.arr 54 [.int .u8 kk, .int .u16 f]]) (pt h.length 1) = some (.int .u16 f) := load_last rfl
  have x1 : EX h (h ++ [.arr 54 [.int .u8 kk, .int .u16 f]]) := EX.append _ _
  generalize hh1 : h ++ [IObj.arr 54 [.int .u8 kk, .int .u16 f]] = h1 at *
  simp only [l0, OP_some, conv_int]
  rw [wrap64 (by omega) (by omega), show (.int .i64 6 : Value) = .int .i64 ((6 : Nat) : Int) from rfl, rem_nat _ _ _ (by omega)]
  have hr : kk % 6 < 6 := Nat.mod_lt _ (by omega)
  simp only [OP_some, bin_add, inc (kk % 6) (by omega)]
  obtain ⟨n, hn⟩ : ∃ n, n = kk % 6 + 1 := ⟨_, rfl⟩
  rw [← hn]
  have hn1 : 1 ≤ n := by omega
  have hn6 : n ≤ 6 := by omega
  have e2 : iMkSl 98 0 [.int .i64 0, .int .i64 0] h1 [] = some (sl 98 h1.length 0 0, h1 ++ [.arr 98 []]) := rfl
  simp only [e2, OH_some]
  let V : List (Int × Int) → Prop := fun ps => ∀ p ∈ ps, 0 ≤ p.2 ∧ p.2 < p.1 ∧ p.1 < n
  refine loopL (σ := List (Int × Int) × Nat × Nat × Nat × Heap) (fun s => [sl 98 s.2.1 0 s.1.length, I s.2.2.1, I s.2.2.2.1]) (fun s => s.2.2.2.2)
    (fun s => V s.1 ∧ EX h1 s.2.2.2.2 ∧ h1.length ≤ s.2.1 ∧ s.2.2.2.2[s.2.1]? = some (.arr 98 (pcells s.1)) ∧ s.1.length ≤ s.2.2.1 ∧ s.2.2.1 ≤ 5 * s.2.2.2.1 ∧ s.2.2.2.1 ≤ n) (fun s => n - s.2.2.2.1)
    ([], h1.length, 0, 0, h1 ++ [.arr 98 []]) rfl rfl ⟨fun p hp => by simp at hp, EX.append _ _, Nat.le_refl _, by simp [pcells], by simp, by simp, by simp⟩ ?_
  rintro ⟨ps, id, at_, i, hx⟩ ⟨hv, hex, hid, hg, hlen, hat, hi⟩ L hL
  simp only at hv hex hid hg hlen hat hi hL ⊢
  rw [q30z6]
  simp only [bin_lss, OP_some, IfP_dec]
  refine ⟨fun hlt => ?_, fun hge => ?_⟩
  · simp only [bin_add, OP_some, inc i (by omega)]
    refine loopL (σ := List (Int × Int) × Nat × Nat × Nat × Heap) (fun s => [sl 98 s.2.1 0 s.1.length, I s.2.2.1, I s.2.2.2.1]) (fun s => s.2.2.2.2)
      (fun s => V s.1 ∧ EX h1 s.2.2.2.2 ∧ h1.length ≤ s.2.1 ∧ s.2.2.2.2[s.2.1]? = some (.arr 98 (pcells s.1)) ∧ s.1.length ≤ s.2.2.1 ∧ s.2.2.1 + (i + 1) ≤ 5 * i + s.2.2.2.1 ∧ i < s.2.2.2.1 ∧ s.2.2.2.1 ≤ n) (fun s => n - s.2.2.2.1)
      (ps, id, at_, i + 1, hx) rfl rfl ⟨hv, hex, hid, hg, hlen, by show at_ + (i + 1) ≤ 5 * i + (i + 1); omega, by show i < i + 1; omega, by show i + 1 ≤ n; omega⟩ ?_
    rintro ⟨qs, jd, bt, j, hy⟩ ⟨hv, hex, hid, hg, hlen, hat, hij, hj⟩ L2 hL2
    simp only at hv hex hid hg hlen hat hij hj hL2 ⊢
    rw [q30z13]
    simp only [bin_lss, OP_some, IfP_dec]
    refine ⟨fun hlt2 => ?_, fun hge2 => ?_⟩
    · have l1y := EX.load hex l1
      simp only [fadr_pt, Nat.zero_add, OP_some, l1y]
      have es : ∃ z, iBin .shr (.int .u16 f) (I bt) = some (.int .u16 z) := by
        refine ⟨f.fdiv (2 ^ (min ((bt : Int)).toNat IntKind.u16.bits)), ?_⟩
        simp only [iBin, iShift]
        rw [if_neg (by omega)]
      obtain ⟨z, es⟩ := es
      simp only [es, OP_some]
      have ea : ∃ w, iBin .and (.int .u16 z) (.int .u16 1) = some (.int .u16 w) := ⟨_, rfl⟩
      obtain ⟨w, ea⟩ := ea
      simp only [ea, OP_some, bin_eql]
      have next : ∀ (rs : List (Int × Int)) (id' : Nat) (hz : Heap), V rs → EX h1 hz → h1.length ≤ id' → hz[id']? = some (.arr 98 (pcells rs)) → rs.length ≤ bt + 1 → p30z20 Try.prog K (pt h.length 0) (I n) (sl 98 id' 0 rs.length) (I bt) (I i) (I j) L L2 hz := by
        intro rs id' hz q1 q2 q3 q4 q5
        simp only [q30z20, q30z21, bin_add, OP_some, inc bt (by omega), inc j (by omega), true_and]
        exact hL2 (rs, id', bt + 1, j + 1, hz) ⟨q1, q2, q3, q4, q5, by show bt + 1 + (i + 1) ≤ 5 * i + (j + 1); omega, by show i < j + 1; omega, by show j + 1 ≤ n; omega⟩ (by show n - (j + 1) < n - j; omega)
      simp only [IfP_dec]
      refine ⟨fun _ => ?_, fun _ => next qs jd hy hv hex hid hg (by omega)⟩
      refine app_pair (a := j) (b := i) hex hid hg (by omega) ?_
      intro id' hz q2 q3 q4
      refine next _ id' hz ?_ q2 q3 q4 (by simp; omega)
      intro p hp
      rcases List.mem_append.1 hp with hp | hp
      · exact hv p hp
      · rw [List.mem_singleton] at hp
        subst hp
        show 0 ≤ (i : Int) ∧ (i : Int) < (j : Int) ∧ (j : Int) < (n : Int)
        omega
    · have : j = n := by omega
      subst this
      simp only [q30z22, bin_add, OP_some, inc i (by omega), true_and]
      exact hL (qs, jd, bt, i + 1, hy) ⟨hv, hex, hid, hg, hlen, by show bt ≤ 5 * (i + 1); omega, by show i + 1 ≤ j; omega⟩ (by show j - (i + 1) < j - i; omega)
  · have : i = n := by omega
    subst this
    rw [q30z23]
    have ht : threadsOk i ps = true := by
      simp only [threadsOk, tlOk, Bool.and_eq_true, decide_eq_true_eq, List.all_eq_true]
      refine ⟨fun p hp => ?_, ⟨by omega, by omega⟩, by omega⟩
      have := hv p hp
      simp only [pok, Bool.and_eq_true, decide_eq_true_eq, Bool.not_eq_true', decide_eq_false_iff_not]
      omega
    exact hk i ps id hx hn1 hn6 ht (x1.trans hex) (by have := x1.1; omega) hg

/-- Threads derived from numbers: they are valid. -/
theorem C30 {kk f : Int} {h : Heap} {K : Value → Heap → Prop} (h0 : 0 ≤ kk) (h1 : kk < 256) (hk : ∀ (n : Nat) ps, 1 ≤ n → n ≤ 6 → threadsOk n ps = true → K (.tuple #[I n, sl 98 h.length 0 ps.length]) (h ++ [.arr 98 (pcells ps)])) :
    CallP Try.prog 30 [.agg #[.int .u8 kk, .int .u16 f]] h K :=
  callP_newE (C30k h0 h1 fun n ps id hx a1 a2 a3 a4 a5 a6 => ⟨a4, id, .arr 98 (pcells ps), fun j => .tuple #[I n, sl 98 j 0 ps.length], a5, a6, plain_pcells ps,
    Ren.tuple (l := [fun _ => I n, fun j => sl 98 j 0 ps.length]) (.cons (Ren.scal rfl) (.cons (Ren.sl _ _ _) .nil)), rfl, hk n ps a1 a2 a3⟩)

end Go.Proofs.Ytjdlcokhlphmhaa
