/-
  What follows a beginning: both sides; the law.
-/
import Derived.Test.YtjdlcokhlphmhaaMg1
import Derived.Test.YtjdlcokhlphmhaaLv1
import Derived.Test.YtjdlcokhlphmhaaSh2
import Derived.Test.YtjdlcokhlphmhaaSp2
import Derived.Test.YtjdlcokhlphmhaaSim24
namespace Go.Proofs.Ytjdlcokhlphmhaa
open Go.Sim

@[simp] theorem pair0 (a b : Value) : (#[a, b] : Array Value)[0]? = some a := rfl
@[simp] theorem pair1 (a b : Value) : (#[a, b] : Array Value)[1]? = some b := rfl

/-- A law's threads: at most 31 pairs of them, copied. -/
theorem pre_threads {ps : List (Int × Int)} {pv : Value} {k : Int} {h : Heap} {K : Value → Heap → Prop} (hp : PSl h pv ps) (hk : ∀ h2 qv qs, PS h2 qv qs → qs.length ≤ 31 → K (.tuple #[I k, qv]) h2) :
    OH (iBox 24 h (.agg #[I k, pv])) fun t3 h_1 => OP (iLoad true 2 h_1 t3) fun x15 => CallP Try.prog 16 [x15] h_1 K := by
  have e1 : iBox 24 h (.agg #[I k, pv]) = some (pt h.length 0, h ++ [.arr 24 [I k, pv]]) := rfl
  have e2 : iLoad true 2 (h ++ [.arr 24 [I k, pv]]) (pt h.length 0) = some (.agg #[I k, pv]) := by simp [iLoad, objCells, iPart]
  simp only [e1, OH_some, e2, OP_some]
  refine C16 (hp.mono (EX.append _ _)) ?_
  generalize h ++ [IObj.arr 24 [I k, pv]] = h1
  have hl : (ps.take 31).length ≤ 31 := by rw [List.length_take]; omega
  have hps : PS (h1 ++ [.arr 98 (pcells (ps.take 31))]) (sl 98 h1.length 0 (ps.take 31).length) (ps.take 31) := PS.sl (by simp [objCells])
  exact hk _ _ _ hps hl

/-- The list of two seams that 'why' gets. -/
theorem pre_two {s u : List UInt8} {qs : List (Int × Int)} {qv : Value} {k : Int} {h : Heap} {K : Value → Heap → Prop} (hp : PS h qv qs) (hl : qs.length ≤ 31) (hs : s.length ≤ 41) (hu : u.length ≤ 41)
    (hk : ∀ h2, PS h2 qv qs → K (I (whyE k qs [s, u] 40)) h2) : OH (iMkSl 9 2 [.string ⟨#[]⟩] h [(0, 1, S s), (1, 1, S u)]) fun x35 h_6 => CallP Try.prog 19 [I k, qv, I 40, x35] h_6 K := by
  simp only [mkS2, OH_some]
  have hx : EX h (h ++ [.arr 9 [S s, S u]]) := EX.append _ _
  have hss : SS (h ++ [.arr 9 [S s, S u]]) (sl 9 h.length 0 2) [s, u] := SS.sl (ls := [s, u]) (by simp [objCells])
  exact C19 (most := 40) (hp.mono hx) (by omega) hss (by simp) (by simp; omega) (hk _ (hp.mono hx))

def divF (fr : UInt8 → UInt8 → Bool) : List UInt8 → List UInt8 → Option (List UInt8)
  | [], u => some u
  | c :: cs, u => match firstAt fr c u 0 with
    | some i => divF fr cs (without u i)
    | none => none

theorem divF_congr {fr gr : UInt8 → UInt8 → Bool} {n : Nat} (hfr : ∀ a b, a < n → b < n → fr (lt a) (lt b) = gr (lt a) (lt b)) : ∀ {s u : List UInt8}, letters n s → letters n u → divF fr s u = divF gr s u
  | [], u, _, _ => rfl
  | c :: cs, u, hs, hu => by
    obtain ⟨b, hb, rfl⟩ := hs c (by simp)
    simp only [divF]
    rw [firstAt_congr (gr := gr) fun c hc => by obtain ⟨a, ha, rfl⟩ := hu c hc; exact hfr a b ha hb]
    split
    · exact divF_congr hfr (fun d hd => hs d (by simp [hd])) (letters_without hu _)
    · rfl

theorem divF_letters {fr : UInt8 → UInt8 → Bool} {n : Nat} : ∀ {s u r : List UInt8}, letters n u → divF fr s u = some r → letters n r ∧ r.length ≤ u.length
  | [], u, r, hu, h => by simp [divF] at h; subst h; exact ⟨hu, Nat.le_refl _⟩
  | c :: cs, u, r, hu, h => by
    simp only [divF] at h
    split at h
    · rename_i i hi
      obtain ⟨h1, h2⟩ := divF_letters (letters_without hu i) h
      have := without_length (firstAt_lt hi).1
      exact ⟨h1, by omega⟩
    · cases h

theorem letters_le {n m : Nat} (h : n ≤ m) {s : List UInt8} (hs : letters n s) : letters m s := fun c hc => let ⟨a, h1, h2⟩ := hs c hc; ⟨a, by omega, h2⟩

def divV (o : Option (List UInt8)) : Value := match o with | some r => .tuple #[S r, B true] | none => .tuple #[S [], B false]

theorem C82 {t : Value} {k : Int} {cm : Nat → Nat → Bool} {s u : List UInt8} {h : Heap} {K : Value → Heap → Prop} (ht : TH h t k cm) (hs : letters 6 s) (hu : letters 6 u) (hls : s.length ≤ 1000) (hlu : u.length ≤ 1000)
    (hk : K (divV (divF (frM cm) s u)) h) : CallP Try.prog 82 [t, S s, S u] h K := by
  refine f82 ?_
  simp only [T82, lenS_S, OP_some]
  refine loopL (σ := List UInt8 × Nat) (fun p => [S p.1, I p.2]) (fun _ => h) (fun p => p.2 ≤ s.length ∧ letters 6 p.1 ∧ p.1.length ≤ 1000 ∧ divF (frM cm) s u = divF (frM cm) (s.drop p.2) p.1) (fun p => s.length - p.2) (u, 0) rfl rfl ⟨by omega, hu, hlu, rfl⟩ ?_
  rintro ⟨w, i⟩ ⟨hi, hw, hlw, hf⟩ L hL
  simp only at hi hw hlw hf hL ⊢
  rw [q82z5]
  simp only [bin_lss, OP_some, IfP_dec]
  refine ⟨fun hlt => ?_, fun hge => ?_⟩
  · have hlt' : i < s.length := by omega
    rw [idxS_S s hlt']
    simp only [OP_some]
    rw [List.drop_eq_getElem_cons hlt'] at hf
    simp only [divF] at hf
    obtain ⟨a, ha, hsa⟩ := hs s[i] (List.getElem_mem hlt')
    rw [hsa] at hf ⊢
    refine C84 ht ha hw hlw ?_
    cases hfa : firstAt (frM cm) (lt a) w 0 with
    | none =>
      rw [hfa] at hf
      simp only at hf
      rw [hf] at hk
      simp [optI]
      exact hk
    | some j =>
      rw [hfa] at hf
      simp only at hf
      have hj := (firstAt_lt hfa).1
      have hwl := without_length hj
      simp only [optI, bin_lss, OP_some, IfP_dec]
      refine ⟨fun h => by omega, fun _ => ?_⟩
      refine C85 hj (by omega) ?_
      simp only [bin_add, OP_some, inc i (by omega), true_and]
      exact hL (without w j, i + 1) ⟨by omega, letters_without hw j, (by show (without w j).length ≤ 1000; omega), hf⟩ (by simp; omega)
  · have : i = s.length := by omega
    subst this
    simp [divF] at hf
    rw [hf] at hk
    rw [q82z15]
    exact hk

def restV (fr : UInt8 → UInt8 → Bool) (ps : List (Int × Int)) (s u : List UInt8) : Value := divV ((divF fr s u).map (Lst ps))

theorem C52 {ps : List (Int × Int)} {pv : Value} {s u : List UInt8} {h : Heap} {K : Value → Heap → Prop} (hp : PS h pv ps) (hg : good ps) (hl : ps.length ≤ 100) (hls : s.length ≤ 1000) (hlu : u.length ≤ 1000) (hu : letters 6 u)
    (hk : K (restV (freeP ps) ps s u) h) : CallP Try.prog 52 [pv, S s, S u] h K := by
  refine f52 ?_
  unfold restV at hk
  refine loopL (σ := List UInt8 × Nat) (fun p => [S p.1, I p.2]) (fun _ => h) (fun p => p.2 ≤ s.length ∧ letters 6 p.1 ∧ p.1.length ≤ 1000 ∧ divF (freeP ps) s u = divF (freeP ps) (s.drop p.2) p.1) (fun p => s.length - p.2) (u, 0) rfl rfl ⟨by omega, hu, hlu, rfl⟩ ?_
  rintro ⟨w, i⟩ ⟨hi, hw, hlw, hf⟩ L hL
  simp only at hi hw hlw hf hL ⊢
  rw [q52z5]
  simp only [lenS_S, bin_lss, OP_some, IfP_dec]
  refine ⟨fun hlt => ?_, fun hge => ?_⟩
  · have hlt' : i < s.length := by omega
    rw [idxS_S s hlt']
    simp only [OP_some]
    rw [List.drop_eq_getElem_cons hlt'] at hf
    simp only [divF] at hf
    refine C59 hp hg hl hlw ?_
    cases hfa : firstAt (freeP ps) s[i] w 0 with
    | none =>
      rw [hfa] at hf
      simp only at hf
      rw [hf] at hk
      simp [optI]
      exact hk
    | some j =>
      rw [hfa] at hf
      simp only at hf
      have hj := (firstAt_lt hfa).1
      have hwl := without_length hj
      simp only [optI, bin_lss, OP_some, IfP_dec]
      refine ⟨fun h => by omega, fun _ => ?_⟩
      refine C60 hj (by omega) ?_
      simp only [bin_add, OP_some, inc i (by omega), true_and]
      exact hL (without w j, i + 1) ⟨by omega, letters_without hw j, (by show (without w j).length ≤ 1000; omega), hf⟩ (by simp; omega)
  · have : i = s.length := by omega
    subst this
    simp [divF] at hf
    rw [hf] at hk
    rw [q52z14]
    exact C21 hp hg hl hlw hw hk

/-- Rest's answer. -/
def restE (k : Int) (ps : List (Int × Int)) (s u : List UInt8) : Value :=
  if whyE k ps [s, u] 40 = 0 then (match divF (freeP ps) s u with | some r => .tuple #[S (Lst ps r), I 0] | none => .tuple #[S [], I 5]) else .tuple #[S [], I (whyE k ps [s, u] 40)]

theorem Ren.si (s : List UInt8) (n : Int) : Ren fun _ => .tuple #[S s, I n] := Ren.tuple (l := [fun _ => S s, fun _ => I n]) (.cons (Ren.scal rfl) (.cons (Ren.scal rfl) .nil))

theorem restE_ren (k : Int) (ps : List (Int × Int)) (s u : List UInt8) : Ren fun _ => restE k ps s u := by
  unfold restE
  split
  · split <;> exact Ren.si _ _
  · exact Ren.si _ _

theorem C51 {ps : List (Int × Int)} {pv : Value} {s u : List UInt8} {k : Int} {h : Heap} {K : Value → Heap → Prop} (hp : PS h pv ps) (hl : ps.length ≤ 100) (hs : s.length ≤ 1000) (hu : u.length ≤ 1000)
    (hk : K (restE k ps s u) h) : CallP Try.prog 51 [I k, pv, S s, S u] h K := by
  refine callP_gc (v := restE k ps s u) (restE_ren k ps s u) ?_ hk
  refine f51 ?_
  simp only [T51, mkS2, OH_some]
  have hx : EX h (h ++ [.arr 9 [S s, S u]]) := EX.append _ _
  have hss : SS (h ++ [.arr 9 [S s, S u]]) (sl 9 h.length 0 2) [s, u] := SS.sl (ls := [s, u]) (by simp [objCells])
  refine C56 (most := 40) (hp.mono hx) hl hss (by simp) (by simp; exact ⟨hs, hu⟩) (fun hw => ?_) (fun hw => ?_)
  · simp only [ext_tuple, pair0, pair1, OP_some, bin_neq, decide_eq_false hw, Bool.not_false, IfP_true]
    exact ⟨by unfold restE; rw [if_neg hw]; rfl, hx⟩
  · obtain ⟨ht, hse⟩ := whyE_ok hw
    obtain ⟨n, rfl, hn1, hn6⟩ := threadsOk_k ht
    have hok := seamsE_ok hse
    have ls := letters_of (hok s (by simp)).2
    have lu := letters_of (hok u (by simp)).2
    generalize hh1 : h ++ [.arr 9 [S s, S u]] = h1 at *
    simp only [ext_tuple, pair0, pair1, OP_some, bin_neq, decide_true, Bool.not_true, IfP_false]
    have hth : TH (h1 ++ [.arr 138 (tcells n (cmOf ps))]) (pt h1.length 0) n (cmOf ps) := ⟨h1.length, rfl, by simp [objCells]⟩
    refine C82 hth (letters_le hn6 ls) (letters_le hn6 lu) hs hu ?_
    have hfr : ∀ a b, a < n → b < n → frM (cmOf ps) (lt a) (lt b) = freeP ps (lt a) (lt b) := fun a b ha hb => frM_cmOf ps (by omega) (by omega)
    rw [divF_congr hfr ls lu]
    unfold restE
    rw [hw]
    cases hd : divF (freeP ps) s u with
    | none => simp [divV]; exact ⟨rfl, hx.push _⟩
    | some r =>
      obtain ⟨lr, hlr⟩ := divF_letters lu hd
      simp only [divV, ext_tuple, pair0, pair1, OP_some, un_not, Bool.not_true, IfP_false]
      refine C57 (k := n) hth hn6 (by omega) lr ?_
      rw [Lst_eq hn6 lr]
      simp
      exact hx.push _

theorem C10 {ps : List (Int × Int)} {pv : Value} {k : Int} {x y : List UInt8} {h : Heap} {K : Value → Heap → Prop} (hp : PSl h pv ps) (hk : ∀ h', K (.bool true) h') : CallP Try.prog 10 [.agg #[I k, pv], S x, S y] h K := by
  refine f10 ?_
  refine pre_threads hp ?_
  intro h2 qv qs hps hl
  simp only [ext_tuple, pair0, pair1, OP_some]
  refine C17 (n := 41) (C17 (n := 41) ?_)
  have hs : (x.take 41).length ≤ 41 := by rw [List.length_take]; omega
  have hu : (y.take 41).length ≤ 41 := by rw [List.length_take]; omega
  generalize x.take 41 = s at hs ⊢
  generalize y.take 41 = u at hu ⊢
  refine C51 hps (by omega) (by omega) (by omega) ?_
  -- what is refused, and what does not begin
  have no : ∀ e h', p10z20 Try.prog K (S []) (I e) (I e) h' := by
    intro e h'
    simp only [q10z20, S_nil, bin_eqlS, OP_some, decide_true, q10z23, GdP_tt, bin_eql, q10z25, iPick_t, q10z27]
    refine C20 ?_
    simp only [q10z29, iPick_t, OP_some]
    exact hk _
  unfold restE
  by_cases hw : whyE k qs [s, u] 40 = 0
  · rw [if_pos hw]
    obtain ⟨ht, hse⟩ := whyE_ok hw
    obtain ⟨n, rfl, hn1, hn6⟩ := threadsOk_k ht
    have hok := seamsE_ok hse
    have lu := letters_le hn6 (letters_of (hok u (by simp)).2)
    have hg := (threadsOk_good ht).1
    cases hd : divF (freeP qs) s u with
    | none =>
      simp only [ext_tuple, pair0, pair1, OP_some]
      refine pre_two hps hl hs hu ?_
      intro h3 hps3
      simp only [hw, bin_eql, decide_true, OP_some, IfP_true]
      refine C52 hps3 hg (by omega) (by omega) (by omega) lu ?_
      simp only [restV, hd, Option.map_none, divV, ext_tuple, pair0, pair1, OP_some, IfP_false]
      exact no 5 _
    | some r =>
      simp only [ext_tuple, pair0, pair1, OP_some]
      refine pre_two hps hl hs hu ?_
      intro h3 hps3
      simp only [hw, bin_eql, decide_true, OP_some, IfP_true]
      refine C52 hps3 hg (by omega) (by omega) (by omega) lu ?_
      simp only [restV, hd, Option.map_some, divV, ext_tuple, pair0, pair1, OP_some, IfP_true, bin_eqlS, decide_true, q10z13, GdP_tt, bin_eql, q10z15, iPick_t, q10z17]
      refine C20 ?_
      simp only [q10z19, iPick_t, OP_some]
      exact hk _
  · rw [if_neg hw]
    simp only [ext_tuple, pair0, pair1, OP_some]
    refine pre_two hps hl hs hu ?_
    intro h3 hps3
    simp only [bin_eql, decide_eq_false hw, OP_some, IfP_false]
    exact no _ _

end Go.Proofs.Ytjdlcokhlphmhaa

/-
  Threads and seams derived from arbitrary numbers; a seam without all letters but two.
-/
namespace Go.Proofs.Ytjdlcokhlphmhaa
open Go.Sim

theorem C34 {s : List UInt8} {x y : UInt8} {h : Heap} {K : Value → Heap → Prop} (hs : s.length ≤ 1000) (hk : K (S (only x y s)) h) : CallP Try.prog 34 [S s, cv x, cv y] h K := by
  refine f34 ?_
  refine loopL (σ := Nat) (fun i => [S (only x y (s.take i)), I i]) (fun _ => h) (fun i => i ≤ s.length) (fun i => s.length - i) 0 rfl rfl (by omega) ?_
  intro i hi L hL
  rw [q34z6]
  simp only [lenS_S, bin_lss, OP_some, IfP_dec]
  refine ⟨fun hlt => ?_, fun hge => ?_⟩
  · have hlt' : i < s.length := by omega
    have hstep : s.take (i + 1) = s.take i ++ [s[i]] := by rw [List.take_succ_eq_append_getElem hlt']
    have hlen : (only x y (s.take i)).length ≤ 1000 := Nat.le_trans (List.length_filter_le _ _) (by rw [List.length_take]; omega)
    have hL' := hL (i + 1) (by omega) (by omega)
    rw [hstep, only_append] at hL'
    rw [idxS_S s hlt']
    simp only [OP_some, bin_eql, cv_inj, q34z13]
    have hone : only x y [s[i]] = if s[i] = x ∨ s[i] = y then [s[i]] else [] := by
      by_cases h1 : s[i] = x <;> by_cases h2 : s[i] = y <;> simp [only, h1, h2]
    have yes : s[i] = x ∨ s[i] = y → OP (iBin .add (I i) (.int .i64 1)) fun x31 => OP (iSlS (S s) (some (I i)) (some x31)) fun x32 => OP (iBin .add (S (only x y (s.take i))) x32) fun x33 => p34z16 Try.prog K (S s) (cv x) (cv y) x33 (I i) L h := by
      intro hor
      rw [if_pos hor] at hone
      simp only [bin_add, OP_some, inc i (by omega)]
      rw [slS_lh s (by omega) (by omega), take_drop_one hlt']
      simp only [OP_some]
      rw [bin_addS _ _ (by simp only [List.length_cons, List.length_nil, maxLen]; omega)]
      simp only [OP_some, q34z16, bin_add, inc i (by omega), true_and]
      rw [hone] at hL'
      exact hL'
    by_cases h1 : s[i] = x
    · simp only [decide_eq_true h1, GdP_tf, q34z15, iPick_t, OP_some, IfP_true]
      exact yes (.inl h1)
    · simp only [decide_eq_false h1, GdP_ff]
      rw [idxS_S s hlt']
      simp only [OP_some, bin_eql, cv_inj, q34z15, iPick_f, IfP_dec]
      refine ⟨fun h2 => yes (.inr h2), fun h2 => ?_⟩
      rw [if_neg (by rintro (h | h); exact h1 h; exact h2 h)] at hone
      simp only [q34z16, bin_add, OP_some, inc i (by omega), true_and]
      rw [hone, List.append_nil] at hL'
      exact hL'
  · have : i = s.length := by omega
    subst this
    rw [List.take_length, q34z17]
    exact hk

/-- The numbers of a slice of small numbers. -/
def U8 (ns : List Int) : Prop := ∀ x ∈ ns, 0 ≤ x ∧ x < 256

theorem abc (i : Nat) (h : i < 6) : (([97, 98, 99, 100, 101, 102] : List UInt8).take (i + 1)).drop i = [lt i] := by
  have : i = 0 ∨ i = 1 ∨ i = 2 ∨ i = 3 ∨ i = 4 ∨ i = 5 := by omega
  rcases this with rfl | rfl | rfl | rfl | rfl | rfl <;> rfl

theorem C31 {n most : Nat} {lv : Value} {ns : List Int} {h : Heap} {K : Value → Heap → Prop} (hn : 1 ≤ n) (hn6 : n ≤ 6) (hm : most ≤ 100) (hl : NS h lv .u8 ns) (hu : U8 ns) (hk : ∀ s, letters n s → s.length ≤ most → K (S s) h) :
    CallP Try.prog 31 [I n, lv, I most] h K := by
  refine f31 ?_
  refine loopL (σ := List UInt8) (fun s => [S s, I s.length]) (fun _ => h) (fun s => letters n s ∧ s.length ≤ most) (fun s => most - s.length) [] rfl rfl ⟨fun c hc => by simp at hc, by simp⟩ ?_
  rintro s ⟨hs, hsm⟩ L hL
  rw [q31z6]
  simp only [hl.len, OP_some, bin_lss, q31z10]
  have done : p31z15 Try.prog K (S s) h := by rw [q31z15]; exact hk s hs hsm
  by_cases h1 : (s.length : Int) < ns.length
  · simp only [decide_eq_true h1, GdP_tt, OP_some, q31z12, iPick_t, IfP_dec]
    refine ⟨fun h2 => ?_, fun _ => done⟩
    obtain ⟨b, o, g1, g2⟩ := hl.get s.length (by omega)
    obtain ⟨u1, u2⟩ := hu _ (List.getElem_mem (show s.length < ns.length by omega))
    generalize ns[s.length] = m at g2 u1 u2
    obtain ⟨m, rfl⟩ : ∃ j : Nat, m = j := ⟨m.toNat, by omega⟩
    simp only [g1, OP_some, g2, conv_int, true_and]
    rw [wrap64 (by omega) (by omega), rem_nat _ _ _ (by omega)]
    have hr : m % n < n := Nat.mod_lt _ (by omega)
    simp only [OP_some, bin_add, inc (m % n) (by omega)]
    have e : (.string ⟨#[97, 98, 99, 100, 101, 102]⟩ : Value) = S [97, 98, 99, 100, 101, 102] := rfl
    rw [e, slS_lh _ (by omega) (by simp; omega), abc _ (by omega)]
    simp only [OP_some]
    rw [bin_addS _ _ (by simp only [List.length_cons, List.length_nil, maxLen]; omega)]
    simp only [OP_some, inc s.length (by omega), true_and]
    have := hL (s ++ [lt (m % n)]) ⟨fun c hc => by
      rcases List.mem_append.1 hc with hc | hc
      · exact hs c hc
      · rw [List.mem_singleton] at hc; exact ⟨_, hr, hc⟩, by simp; omega⟩ (by simp; omega)
    simpa using this
  · simp only [decide_eq_false h1, GdP_ft, q31z12, iPick_f, OP_some, IfP_false]
    exact done

/-- Two letters side by side, exchanged. -/
def swapAt (s : List UInt8) (i : Nat) : List UInt8 := s.take i ++ (s.take (i + 2)).drop (i + 1) ++ (s.take (i + 1)).drop i ++ s.drop (i + 2)

theorem swapAt_length {s : List UInt8} {i : Nat} (h : i + 1 < s.length) : (swapAt s i).length = s.length := by
  simp [swapAt]; omega

theorem swapAt_letters {n : Nat} {s : List UInt8} (h : letters n s) (i : Nat) : letters n (swapAt s i) := by
  intro c hc
  simp only [swapAt, List.mem_append] at hc
  rcases hc with ((hc | hc) | hc) | hc
  · exact h c (List.mem_of_mem_take hc)
  · exact h c (List.mem_of_mem_take (List.mem_of_mem_drop hc))
  · exact h c (List.mem_of_mem_take (List.mem_of_mem_drop hc))
  · exact h c (List.mem_of_mem_drop hc)

theorem swapT {t : List UInt8} {i : Nat} {K : Value → Prop} (hi : i + 1 < t.length) (ht : t.length ≤ 1000) (hk : K (S (swapAt t i))) :
    OP (iSlS (S t) none (some (I i))) fun x40 => OP (iBin .add (I i) (.int .i64 1)) fun x43 => OP (iBin .add (I i) (.int .i64 2)) fun x45 => OP (iSlS (S t) (some x43) (some x45)) fun x46 => OP (iBin .add x40 x46) fun x47 =>
      OP (iBin .add (I i) (.int .i64 1)) fun x51 => OP (iSlS (S t) (some (I i)) (some x51)) fun x52 => OP (iBin .add x47 x52) fun x53 => OP (iBin .add (I i) (.int .i64 2)) fun x56 => OP (iSlS (S t) (some x56) none) fun x57 => OP (iBin .add x53 x57) K := by
  have e2 : IntKind.wrap .i64 ((i : Int) + 2) = ((i + 2 : Nat) : Int) := by rw [wrap64 (by omega) (by omega)]; omega
  rw [slS_hi t (by omega)]
  simp only [OP_some, bin_add, inc i (by omega), e2]
  rw [slS_lh t (by omega) (by omega)]
  simp only [OP_some]
  rw [bin_addS _ _ (by simp only [List.length_take, List.length_drop, maxLen]; omega)]
  simp only [OP_some]
  rw [slS_lh t (by omega) (by omega)]
  simp only [OP_some]
  rw [bin_addS _ _ (by simp only [List.length_append, List.length_take, List.length_drop, maxLen]; omega)]
  simp only [OP_some]
  rw [slS_lo t (by omega)]
  simp only [OP_some]
  rw [bin_addS _ _ (by simp only [List.length_append, List.length_take, List.length_drop, maxLen]; omega)]
  exact OP_some.2 hk

theorem C32 {ps : List (Int × Int)} {pv bv : Value} {n : Nat} {s : List UInt8} {ns : List Int} {h : Heap} {K : Value → Heap → Prop} (hp : PS h pv ps) (hg : good ps) (hl : ps.length ≤ 100) (hb : NS h bv .u8 ns) (hu : U8 ns) (hs : letters n s) (hls : s.length ≤ 1000)
    (hk : ∀ t, letters n t → t.length = s.length → K (S t) h) : CallP Try.prog 32 [pv, S s, bv] h K := by
  refine f32 ?_
  refine loopL (σ := List UInt8 × Nat) (fun p => [S p.1, I p.2]) (fun _ => h) (fun p => letters n p.1 ∧ p.1.length = s.length ∧ p.2 ≤ ns.length) (fun p => ns.length - p.2) (s, 0) rfl rfl ⟨hs, rfl, by omega⟩ ?_
  rintro ⟨t, i⟩ ⟨ht, htl, hi⟩ L hL
  simp only at ht htl hi hL ⊢
  rw [q32z5]
  simp only [hb.len, OP_some, bin_lss, q32z9]
  have done : p32z17 Try.prog K (S t) h := by rw [q32z17]; exact hk t ht htl
  have hmax := hb.le
  by_cases h1 : (i : Int) < ns.length
  · have next : ∀ t', letters n t' → t'.length = s.length → p32z16 Try.prog K pv (S t') bv (I i) L h := by
      intro t' h2 h3
      simp only [q32z16, bin_add, OP_some, incM i (by omega), true_and]
      exact hL (t', i + 1) ⟨h2, h3, by show i + 1 ≤ ns.length; omega⟩ (by simp; omega)
    simp only [decide_eq_true h1, GdP_tt, lenS_S, OP_some, bin_gtr, q32z11, iPick_t, IfP_dec]
    refine ⟨fun h2 => ?_, fun _ => done⟩
    obtain ⟨b, o, g1, g2⟩ := hb.get i (by omega)
    obtain ⟨u1, u2⟩ := hu _ (List.getElem_mem (show i < ns.length by omega))
    generalize ns[i] = m at g2 u1 u2
    obtain ⟨m, rfl⟩ : ∃ j : Nat, m = j := ⟨m.toNat, by omega⟩
    simp only [g1, OP_some, g2, conv_int, bin_sub]
    have e1 : IntKind.wrap .i64 ((t.length : Int) - 1) = ((t.length - 1 : Nat) : Int) := by rw [wrap64 (by omega) (by omega)]; omega
    rw [wrap64 (by omega) (by omega), e1, rem_nat _ _ _ (by omega)]
    have hr : m % (t.length - 1) < t.length - 1 := Nat.mod_lt _ (by omega)
    generalize m % (t.length - 1) = j at hr
    simp only [OP_some]
    rw [idxS_S t (by omega)]
    simp only [OP_some, bin_add, inc j (by omega)]
    rw [idxS_S t (by omega)]
    simp only [OP_some]
    refine C33 hp hg hl ?_
    refine ⟨trivial, IfP_of (fun _ => ?_) fun _ => next t ht htl⟩
    have := swapT (t := t) (i := j) (K := fun x58 => p32z16 Try.prog K pv x58 bv (I i) L h) (by omega) (by omega) (next _ (swapAt_letters ht j) (by rw [swapAt_length (by omega)]; exact htl))
    simpa only [bin_add, OP_some, inc j (by omega)] using this
  · simp only [decide_eq_false h1, GdP_ft, q32z11, iPick_f, OP_some, IfP_false]
    exact done

theorem plain_pcells (ps : List (Int × Int)) : plainObj (.arr 98 (pcells ps)) = true := by
  induction ps with
  | nil => rfl
  | cons p ps ih => simp only [plainObj, pcells] at ih ⊢; simp [ih, scal]

theorem app_pair {h0 hx : Heap} {id : Nat} {ps : List (Int × Int)} {a b : Int} {K : Value → Heap → Prop} (hex : EX h0 hx) (hid : h0.length ≤ id) (hg : hx[id]? = some (.arr 98 (pcells ps))) (hl : ps.length ≤ 1000)
    (hk : ∀ id' hx', EX h0 hx' → h0.length ≤ id' → hx'[id']? = some (.arr 98 (pcells (ps ++ [(a, b)]))) → K (sl 98 id' 0 (ps ++ [(a, b)]).length) hx') :
    OP (iBuild [.int .i64 0, .int .i64 0] [(0, 1, I a), (1, 1, I b)]) fun x36 => OH (iMkSl 98 1 [.int .i64 0, .int .i64 0] hx [(0, 2, x36)]) fun x37 h_1 => OH (iApp 98 2 16 h_1 (sl 98 id 0 ps.length) x37) K := by
  have e0 : iBuild [.int .i64 0, .int .i64 0] [(0, 1, I a), (1, 1, I b)] = some (.agg #[I a, I b]) := rfl
  have e1 : iMkSl 98 1 [.int .i64 0, .int .i64 0] hx [(0, 2, .agg #[I a, I b])] = some (sl 98 hx.length 0 1, hx ++ [.arr 98 [I a, I b]]) := rfl
  simp only [e0, OP_some, e1, OH_some]
  have e2 : sliceCells (hx ++ [.arr 98 [I a, I b]]) 2 (sl 98 hx.length 0 1) = some [I a, I b] := by simp [sliceCells, sl, objCells]
  have e3 : lenOfSl (sl 98 hx.length 0 1) = some 1 := rfl
  have hlt := (List.getElem?_eq_some_iff.1 hg).1
  have hg' : (hx ++ [.arr 98 [I a, I b]])[id]? = some (.arr 98 (pcells ps)) := by rw [List.getElem?_append_left hlt]; exact hg
  have hpl := pcells_length ps
  have hpp : pcells (ps ++ [(a, b)]) = pcells ps ++ [I a, I b] := by simp [pcells]
  refine OH_of (v := sl 98 (hx.length + 1) 0 (ps ++ [(a, b)]).length) (h := (hx ++ [IObj.arr 98 [I a, I b]]).set id IObj.dead ++ [IObj.arr 98 (pcells (ps ++ [(a, b)]))]) ?_
    (hk _ _ (((hex.push _).set hid _).push _) (by have := hex.1; omega) (by rw [List.getElem?_append_right (by simp)]; simp))
  simp only [iApp, e2, e3]
  simp only [sl, hg']
  rw [if_pos ⟨trivial, trivial, by omega, by omega, by unfold maxLen; omega⟩, if_neg (by omega), hpp]
  simp

theorem C30k {kk f : Int} {h : Heap} {K : Value → Heap → Prop} (h0 : 0 ≤ kk) (h1 : kk < 256)
    (hk : ∀ (n : Nat) ps id hx, 1 ≤ n → n ≤ 6 → threadsOk n ps = true → EX h hx → h.length ≤ id → hx[id]? = some (.arr 98 (pcells ps)) → K (.tuple #[I n, sl 98 id 0 ps.length]) hx) :
    CallP Try.prog 30 [.agg #[.int .u8 kk, .int .u16 f]] h K := by
  refine f30 ?_
  obtain ⟨kk, rfl⟩ : ∃ j : Nat, kk = j := ⟨kk.toNat, by omega⟩
  have e1 : iBox 54 h (.agg #[.int .u8 kk, .int .u16 f]) = some (pt h.length 0, h ++ [.arr 54 [.int .u8 kk, .int .u16 f]]) := rfl
  simp only [T30, e1, OH_some, fadr_pt, Nat.add_zero, OP_some]
  have l0 : iLoad false 1 (h ++ [.arr 54 [.int .u8 kk, .int .u16 f]]) (pt h.length 0) = some (.int .u8 kk) := load_last rfl
  have l1 : iLoad false 1 (h ++ [.arr 54 [.int .u8 kk, .int .u16 f]]) (pt h.length 1) = some (.int .u16 f) := load_last rfl
  have x1 : EX h (h ++ [.arr 54 [.int .u8 kk, .int .u16 f]]) := EX.append _ _
  generalize hh1 : h ++ [IObj.arr 54 [.int .u8 kk, .int .u16 f]] = h1 at *
  simp only [l0, OP_some, conv_int]
  rw [wrap64 (by omega) (by omega), show (.int .i64 6 : Value) = .int .i64 ((6 : Nat) : Int) from rfl, rem_nat _ _ _ (by omega)]
  have hr : kk % 6 < 6 := Nat.mod_lt _ (by omega)
  simp only [OP_some, bin_add, inc (kk % 6) (by omega)]
  obtain ⟨n, hn⟩ : ∃ n, n = kk % 6 + 1 := ⟨_, rfl⟩
  rw [← hn]
  have hn1 : 1 ≤ n := by omega
  have hn6 : n ≤ 6 := by omega
  have e2 : iMkSl 98 0 [.int .i64 0, .int .i64 0] h1 [] = some (sl 98 h1.length 0 0, h1 ++ [.arr 98 []]) := rfl
  simp only [e2, OH_some]
  let V : List (Int × Int) → Prop := fun ps => ∀ p ∈ ps, 0 ≤ p.2 ∧ p.2 < p.1 ∧ p.1 < n
  refine loopL (σ := List (Int × Int) × Nat × Nat × Nat × Heap) (fun s => [sl 98 s.2.1 0 s.1.length, I s.2.2.1, I s.2.2.2.1]) (fun s => s.2.2.2.2)
    (fun s => V s.1 ∧ EX h1 s.2.2.2.2 ∧ h1.length ≤ s.2.1 ∧ s.2.2.2.2[s.2.1]? = some (.arr 98 (pcells s.1)) ∧ s.1.length ≤ s.2.2.1 ∧ s.2.2.1 ≤ 5 * s.2.2.2.1 ∧ s.2.2.2.1 ≤ n) (fun s => n - s.2.2.2.1)
    ([], h1.length, 0, 0, h1 ++ [.arr 98 []]) rfl rfl ⟨fun p hp => by simp at hp, EX.append _ _, Nat.le_refl _, by simp [pcells], by simp, by simp, by simp⟩ ?_
  rintro ⟨ps, id, at_, i, hx⟩ ⟨hv, hex, hid, hg, hlen, hat, hi⟩ L hL
  simp only at hv hex hid hg hlen hat hi hL ⊢
  rw [q30z6]
  simp only [bin_lss, OP_some, IfP_dec]
  refine ⟨fun hlt => ?_, fun hge => ?_⟩
  · simp only [bin_add, OP_some, inc i (by omega)]
    refine loopL (σ := List (Int × Int) × Nat × Nat × Nat × Heap) (fun s => [sl 98 s.2.1 0 s.1.length, I s.2.2.1, I s.2.2.2.1]) (fun s => s.2.2.2.2)
      (fun s => V s.1 ∧ EX h1 s.2.2.2.2 ∧ h1.length ≤ s.2.1 ∧ s.2.2.2.2[s.2.1]? = some (.arr 98 (pcells s.1)) ∧ s.1.length ≤ s.2.2.1 ∧ s.2.2.1 + (i + 1) ≤ 5 * i + s.2.2.2.1 ∧ i < s.2.2.2.1 ∧ s.2.2.2.1 ≤ n) (fun s => n - s.2.2.2.1)
      (ps, id, at_, i + 1, hx) rfl rfl ⟨hv, hex, hid, hg, hlen, by show at_ + (i + 1) ≤ 5 * i + (i + 1); omega, by show i < i + 1; omega, by show i + 1 ≤ n; omega⟩ ?_
    rintro ⟨qs, jd, bt, j, hy⟩ ⟨hv, hex, hid, hg, hlen, hat, hij, hj⟩ L2 hL2
    simp only at hv hex hid hg hlen hat hij hj hL2 ⊢
    rw [q30z13]
    simp only [bin_lss, OP_some, IfP_dec]
    refine ⟨fun hlt2 => ?_, fun hge2 => ?_⟩
    · have l1y := EX.load hex l1
      simp only [fadr_pt, Nat.zero_add, OP_some, l1y]
      have es : ∃ z, iBin .shr (.int .u16 f) (I bt) = some (.int .u16 z) := by
        refine ⟨f.fdiv (2 ^ (min ((bt : Int)).toNat IntKind.u16.bits)), ?_⟩
        simp only [iBin, iShift]
        rw [if_neg (by omega)]
      obtain ⟨z, es⟩ := es
      simp only [es, OP_some]
      have ea : ∃ w, iBin .and (.int .u16 z) (.int .u16 1) = some (.int .u16 w) := ⟨_, rfl⟩
      obtain ⟨w, ea⟩ := ea
      simp only [ea, OP_some, bin_eql]
      have next : ∀ (rs : List (Int × Int)) (id' : Nat) (hz : Heap), V rs → EX h1 hz → h1.length ≤ id' → hz[id']? = some (.arr 98 (pcells rs)) → rs.length ≤ bt + 1 → p30z20 Try.prog K (pt h.length 0) (I n) (sl 98 id' 0 rs.length) (I bt) (I i) (I j) L L2 hz := by
        intro rs id' hz q1 q2 q3 q4 q5
        simp only [q30z20, q30z21, bin_add, OP_some, inc bt (by omega), inc j (by omega), true_and]
        exact hL2 (rs, id', bt + 1, j + 1, hz) ⟨q1, q2, q3, q4, q5, by show bt + 1 + (i + 1) ≤ 5 * i + (j + 1); omega, by show i < j + 1; omega, by show j + 1 ≤ n; omega⟩ (by show n - (j + 1) < n - j; omega)
      simp only [IfP_dec]
      refine ⟨fun _ => ?_, fun _ => next qs jd hy hv hex hid hg (by omega)⟩
      refine app_pair (a := j) (b := i) hex hid hg (by omega) ?_
      intro id' hz q2 q3 q4
      refine next _ id' hz ?_ q2 q3 q4 (by simp; omega)
      intro p hp
      rcases List.mem_append.1 hp with hp | hp
      · exact hv p hp
      · rw [List.mem_singleton] at hp
        subst hp
        show 0 ≤ (i : Int) ∧ (i : Int) < (j : Int) ∧ (j : Int) < (n : Int)
        omega
    · have : j = n := by omega
      subst this
      simp only [q30z22, bin_add, OP_some, inc i (by omega), true_and]
      exact hL (qs, jd, bt, i + 1, hy) ⟨hv, hex, hid, hg, hlen, by show bt ≤ 5 * (i + 1); omega, by show i + 1 ≤ j; omega⟩ (by show j - (i + 1) < j - i; omega)
  · have : i = n := by omega
    subst this
    rw [q30z23]
    have ht : threadsOk i ps = true := by
      simp only [threadsOk, tlOk, Bool.and_eq_true, decide_eq_true_eq, List.all_eq_true]
      refine ⟨fun p hp => ?_, ⟨by omega, by omega⟩, by omega⟩
      have := hv p hp
      simp only [pok, Bool.and_eq_true, decide_eq_true_eq, Bool.not_eq_true', decide_eq_false_iff_not]
      omega
    exact hk i ps id hx hn1 hn6 ht (x1.trans hex) (by have := x1.1; omega) hg

/-- Threads derived from numbers: they are valid. -/
theorem C30 {kk f : Int} {h : Heap} {K : Value → Heap → Prop} (h0 : 0 ≤ kk) (h1 : kk < 256) (hk : ∀ (n : Nat) ps, 1 ≤ n → n ≤ 6 → threadsOk n ps = true → K (.tuple #[I n, sl 98 h.length 0 ps.length]) (h ++ [.arr 98 (pcells ps)])) :
    CallP Try.prog 30 [.agg #[.int .u8 kk, .int .u16 f]] h K :=
  callP_newE (C30k h0 h1 fun n ps id hx a1 a2 a3 a4 a5 a6 => ⟨a4, id, .arr 98 (pcells ps), fun j => .tuple #[I n, sl 98 j 0 ps.length], a5, a6, plain_pcells ps,
    Ren.tuple (l := [fun _ => I n, fun j => sl 98 j 0 ps.length]) (.cons (Ren.scal rfl) (.cons (Ren.sl _ _ _) .nil)), rfl, hk n ps a1 a2 a3⟩)

end Go.Proofs.Ytjdlcokhlphmhaa

/-
  The law S2: two seams are equal exactly if they are the same without all letters but two that do not commute.
-/
namespace Go.Proofs.Ytjdlcokhlphmhaa
open Go.Sim

theorem freeP_symm (ps : List (Int × Int)) (a b : UInt8) : freeP ps a b = freeP ps b a := by
  unfold freeP
  refine any_congr' fun p _ => ?_
  unfold hit
  rw [Bool.or_comm]

theorem letters_not_bad {n : Nat} {s : List UInt8} (hn : n ≤ 6) (h : letters n s) : s.any (badL n) = false := by
  rw [List.any_eq_false]
  intro c hc
  obtain ⟨a, ha, rfl⟩ := h c hc
  have := lt_toNat (a := a) (by omega)
  simp only [badL, this]
  simp
  omega

theorem whyE_zero {n : Nat} {ps : List (Int × Int)} {ls : List (List UInt8)} {most : Nat} (hn : n ≤ 6) (ht : threadsOk n ps = true) (h : ∀ s ∈ ls, letters n s ∧ s.length ≤ most) : whyE n ps ls most = 0 := by
  unfold whyE seamsE
  rw [ht, if_pos rfl]
  have h1 : ls.any (fun s => decide (most < s.length)) = false := by
    rw [List.any_eq_false]; intro s hs; have := (h s hs).2; simp; omega
  have h2 : ls.any (fun s => s.any (badL n)) = false := by
    rw [List.any_eq_false]; intro s hs; rw [letters_not_bad hn (h s hs).1]; simp
  rw [h1, h2]
  rfl

/-- Equal's answer at valid seams. -/
theorem equalV_ok {n : Nat} {ps : List (Int × Int)} {s u : List UInt8} (h : whyE n ps [s, u] 40 = 0) : equalV n ps s u = .tuple #[B (decide (Lst ps s = Lst ps u)), I 0] := by
  unfold equalV
  rw [h]
  simp

theorem Lst_only {ps : List (Int × Int)} {s t : List UInt8} {n : Nat} (hn : n ≤ 6) (hs : letters n s) (ht : letters n t) :
    Lst ps s = Lst ps t ↔ ∀ a d, a ≤ d → d < n → dep (freeP ps) (lt a) (lt d) → only (lt a) (lt d) s = only (lt a) (lt d) t := by
  have l1 : leastF (freeP ps) n s.length s = Lst ps s := leastF_eq hn hs fun _ _ _ _ => rfl
  have l2 : leastF (freeP ps) n t.length t = Lst ps t := leastF_eq hn ht fun _ _ _ _ => rfl
  constructor
  · intro h a d _ _ had
    rw [← l1, ← l2] at h
    rw [← only_leastF (freeP_symm ps) had s.length s hs rfl, ← only_leastF (freeP_symm ps) had t.length t ht rfl, h]
  · intro h
    rw [← l1, ← l2]
    obtain ⟨q1, q2⟩ := leastF_of_only (freeP_symm ps) s.length s t hs ht rfl fun a d ha hd had => by
      rcases Nat.le_total a d with h1 | h1
      · exact h a d h1 hd had
      · rw [only_comm (lt a), only_comm (lt a)]
        refine h d a h1 ha ?_
        rcases had with h2 | h2
        · exact .inl h2.symm
        · exact .inr (by rw [freeP_symm]; exact h2)
    rw [q2, q1]

/-- What the law's two loops find. -/
def wantF (ps : List (Int × Int)) (s t : List UInt8) (n a d : Nat) : Prop :=
  (∀ b e, b < a → b ≤ e → e < n → dep (freeP ps) (lt b) (lt e) → only (lt b) (lt e) s = only (lt b) (lt e) t) ∧ (∀ e, a ≤ e → e < d → e < n → dep (freeP ps) (lt a) (lt e) → only (lt a) (lt e) s = only (lt a) (lt e) t)

theorem sub97 {a : Nat} (h : a < 100) : IntKind.wrap .u8 (((lt a).toNat : Int) - 97) = (a : Int) := by
  rw [lt_toNat h, wrapU8 (by omega) (by omega)]
  omega

theorem C5loop {ps : List (Int × Int)} {qv e13 : Value} {n : Nat} {s t : List UInt8} {w0 : Bool} {h : Heap} {K : Value → Heap → Prop} (hp : PS h qv ps) (hg : good ps) (hl : ps.length ≤ 100) (hn6 : n ≤ 6) (hs : s.length ≤ 1000) (ht : t.length ≤ 1000)
    (hk : ∀ w : Bool, (w = true ↔ ∀ a d, a ≤ d → d < n → dep (freeP ps) (lt a) (lt d) → only (lt a) (lt d) s = only (lt a) (lt d) t) → p5z41 Try.prog K (B w0) e13 (B w) h) :
    LoopP [(.bool true), (.int .u8 (97))] h fun L1 xs hx => p5z18 Try.prog K (I n) qv (S s) (S t) (B w0) e13 L1 xs hx := by
  refine loopL (σ := Bool × Nat) (fun p => [B p.1, cv (lt p.2)]) (fun _ => h) (fun p => p.2 ≤ n ∧ (p.1 = true ↔ wantF ps s t n p.2 p.2)) (fun p => n - p.2) (true, 0) rfl rfl ⟨by simp, by simp [wantF]⟩ ?_
  rintro ⟨w, a⟩ ⟨ha, hw⟩ L hL
  simp only at ha hw hL ⊢
  rw [q5z18]
  simp only [bin_sub, OP_some, sub97 (show a < 100 by omega), conv_int]
  rw [wrap64 (by omega) (by omega)]
  simp only [bin_lss, OP_some, IfP_dec]
  refine ⟨fun hlt => ?_, fun hge => ?_⟩
  · refine loopL (σ := Bool × Nat) (fun p => [B p.1, cv (lt p.2)]) (fun _ => h) (fun p => a ≤ p.2 ∧ p.2 ≤ n ∧ (p.1 = true ↔ wantF ps s t n a p.2)) (fun p => n - p.2) (w, a) rfl rfl ⟨Nat.le_refl _, ha, hw⟩ ?_
    rintro ⟨w, d⟩ ⟨had, hd, hw⟩ L2 hL2
    simp only at had hd hw hL2 ⊢
    rw [q5z25]
    simp only [bin_sub, OP_some, sub97 (show d < 100 by omega), conv_int]
    rw [wrap64 (by omega) (by omega)]
    simp only [bin_lss, OP_some, IfP_dec]
    refine ⟨fun hlt2 => ?_, fun hge2 => ?_⟩
    · have next : ∀ w' : Bool, (w' = true ↔ wantF ps s t n a (d + 1)) → p5z39 Try.prog K (I n) qv (S s) (S t) (B w0) e13 (B w') (cv (lt a)) (cv (lt d)) L L2 h := by
        intro w' hw'
        simp only [q5z39, bin_add, OP_some, lt_succ (show d < 60 by omega), true_and]
        exact hL2 (w', d + 1) ⟨by show a ≤ d + 1; omega, by show d + 1 ≤ n; omega, hw'⟩ (by show n - (d + 1) < n - d; omega)
      have step : ∀ P : Prop, (dep (freeP ps) (lt a) (lt d) → (P ↔ only (lt a) (lt d) s = only (lt a) (lt d) t)) → dep (freeP ps) (lt a) (lt d) → ((w = true ∧ P) ↔ wantF ps s t n a (d + 1)) := by
        intro P hP hdep
        rw [hw, hP hdep]
        constructor
        · rintro ⟨⟨h1, h2⟩, h3⟩
          refine ⟨h1, fun e he1 he2 he3 he4 => ?_⟩
          by_cases hed : e = d
          · subst hed; exact h3
          · exact h2 e he1 (by omega) he3 he4
        · rintro ⟨h1, h2⟩
          exact ⟨⟨h1, fun e he1 he2 he3 he4 => h2 e he1 (by omega) he3 he4⟩, h2 d had (by omega) (by omega) hdep⟩
      have skip : ¬ dep (freeP ps) (lt a) (lt d) → (w = true ↔ wantF ps s t n a (d + 1)) := by
        intro hnd
        rw [hw]
        constructor
        · rintro ⟨h1, h2⟩
          refine ⟨h1, fun e he1 he2 he3 he4 => ?_⟩
          by_cases hed : e = d
          · subst hed; exact absurd he4 hnd
          · exact h2 e he1 (by omega) he3 he4
        · rintro ⟨h1, h2⟩
          exact ⟨h1, fun e he1 he2 he3 he4 => h2 e he1 (by omega) he3 he4⟩
      have test : dep (freeP ps) (lt a) (lt d) → p5z36 Try.prog K (I n) qv (S s) (S t) (B w0) e13 (cv (lt a)) (cv (lt d)) (B w) L L2 h := by
        intro hdep
        rw [q5z36]
        cases w with
        | false =>
          simp only [GdP_ft, q5z38, iPick_f, OP_some]
          refine next false ⟨fun h => (by cases h), fun h => ?_⟩
          exact ((step (only (lt a) (lt d) s = only (lt a) (lt d) t) (fun _ => Iff.rfl) hdep).2 h).1
        | true =>
          simp only [GdP_tt]
          refine C34 hs (C34 ht ?_)
          simp only [bin_eqlS, OP_some, q5z38, iPick_t]
          refine next _ ?_
          rw [decide_eq_true_eq]
          have := step (only (lt a) (lt d) s = only (lt a) (lt d) t) (fun _ => Iff.rfl) hdep
          rw [← this]
          simp
      simp only [bin_eql, OP_some, cv_inj]
      rw [q5z32]
      by_cases had2 : lt a = lt d
      · simp only [decide_eq_true had2, GdP_tf, q5z34, iPick_t, OP_some, IfP_true]
        exact test (.inl had2)
      · simp only [decide_eq_false had2, GdP_ff]
        refine C33 hp hg hl ?_
        simp only [un_not, OP_some, q5z34, iPick_f]
        cases hfr : freeP ps (lt a) (lt d) with
        | false =>
          simp only [Bool.not_false, IfP_true]
          exact test (.inr hfr)
        | true =>
          simp only [Bool.not_true, IfP_false]
          refine next w (skip ?_)
          rintro (h1 | h1)
          · exact had2 h1
          · rw [hfr] at h1; cases h1
    · have : d = n := by omega
      subst this
      simp only [q5z40, bin_add, OP_some, lt_succ (show a < 60 by omega), true_and]
      refine hL (w, a + 1) ⟨by show a + 1 ≤ d; omega, ?_⟩ (by show d - (a + 1) < d - a; omega)
      show w = true ↔ wantF ps s t d (a + 1) (a + 1)
      rw [hw]
      constructor
      · rintro ⟨h1, h2⟩
        refine ⟨fun b e hb hbe he hdep => ?_, fun e he1 he2 => by omega⟩
        by_cases hba : b = a
        · subst hba; exact h2 e hbe he he hdep
        · exact h1 b e (by omega) hbe he hdep
      · rintro ⟨h1, _⟩
        exact ⟨fun b e hb => h1 b e (by omega), fun e he1 _ he3 hdep => h1 a e (by omega) he1 he3 hdep⟩
  · have : a = n := by omega
    subst this
    refine hk w ?_
    rw [hw]
    constructor
    · rintro ⟨h1, _⟩ b d hbd hd hdep
      exact h1 b d (by omega) hbd hd hdep
    · intro h1
      exact ⟨fun b e hb hbe he hdep => h1 b e hbe he hdep, fun e he1 he2 he3 => by omega⟩

theorem C5 {kk f : Int} {xv bv : Value} {ns ms : List Int} {h : Heap} {K : Value → Heap → Prop} (h0 : 0 ≤ kk) (h1 : kk < 256) (hx : NS h xv .u8 ns) (hux : U8 ns) (hb : NS h bv .u8 ms) (hub : U8 ms) (hk : ∀ h', K (.bool true) h') :
    CallP Try.prog 5 [.agg #[.int .u8 kk, .int .u16 f], xv, bv] h K := by
  refine f5 ?_
  have e1 : iBox 54 h (.agg #[.int .u8 kk, .int .u16 f]) = some (pt h.length 0, h ++ [.arr 54 [.int .u8 kk, .int .u16 f]]) := rfl
  have e2 : iLoad true 2 (h ++ [.arr 54 [.int .u8 kk, .int .u16 f]]) (pt h.length 0) = some (.agg #[.int .u8 kk, .int .u16 f]) := by simp [iLoad, objCells, iPart]
  simp only [T5, e1, OH_some, e2, OP_some]
  have x1 : EX h (h ++ [.arr 54 [.int .u8 kk, .int .u16 f]]) := EX.append _ _
  have hx := hx.mono x1
  have hb := hb.mono x1
  generalize h ++ [IObj.arr 54 [.int .u8 kk, .int .u16 f]] = hA at hx hb ⊢
  refine C30 h0 h1 ?_
  intro n ps hn1 hn6 ht
  have x2 : EX hA (hA ++ [.arr 98 (pcells ps)]) := EX.append _ _
  have hx := hx.mono x2
  have hb := hb.mono x2
  obtain ⟨hg, _, _, hl30, _⟩ := threadsOk_good ht
  have hps : PS (hA ++ [.arr 98 (pcells ps)]) (sl 98 hA.length 0 ps.length) ps := PS.sl (by simp [objCells])
  simp only [ext_tuple, pair0, pair1, OP_some]
  generalize sl 98 hA.length 0 ps.length = qv at hps ⊢
  generalize hA ++ [IObj.arr 98 (pcells ps)] = hB at hx hb hps ⊢
  refine C31 (most := 40) hn1 hn6 (by omega) hx hux ?_
  intro s hs hs40
  refine C32 hps hg (by omega) hb hub hs (by omega) ?_
  intro t hlt htl
  -- from here on any seam of these letters serves
  have rest : ∀ t, letters n t → t.length = s.length → p5z12 Try.prog K (I n) qv (S s) (S t) hB := by
    intro t hlt htl
    rw [q5z12]
    refine C18 hps (by omega) (by omega) (by omega) ?_
    have hw0 : whyE n ps [s, t] 40 = 0 := whyE_zero hn6 ht (by intro u hu; simp at hu; rcases hu with rfl | rfl; exact ⟨hs, hs40⟩; exact ⟨hlt, by omega⟩)
    rw [equalV_ok hw0]
    simp only [ext_tuple, pair0, pair1, OP_some]
    refine C5loop hps hg (by omega) hn6 (by omega) (by omega) ?_
    intro w hw
    have : decide (Lst ps s = Lst ps t) = w := by
      rw [Bool.eq_iff_iff, decide_eq_true_eq, Lst_only hn6 hs hlt, hw]
    rw [this, q5z41]
    simp only [eqb_bool, Bool.false_eq_true, if_false, beq_self_eq_true, OP_some, q5z44, GdP_tt, bin_eql, decide_true, q5z46, iPick_t, q5z48]
    refine C20 ?_
    simp only [q5z50, iPick_t, OP_some]
    exact hk _
  have hmax := hb.le
  simp only [hb.len, OP_some]
  rw [show (.int .i64 3 : Value) = .int .i64 ((3 : Nat) : Int) from rfl, rem_nat _ _ _ (by omega)]
  simp only [OP_some, bin_eql, q5z8]
  by_cases hc : ((ms.length % 3 : Nat) : Int) = 0
  · simp only [decide_eq_true hc, GdP_tt, lenS_S, OP_some, bin_gtr, q5z10, iPick_t, IfP_dec]
    refine ⟨fun hgt => ?_, fun _ => rest t hlt htl⟩
    have e3 : IntKind.wrap .i64 ((s.length : Int) - 1) = ((s.length - 1 : Nat) : Int) := by rw [wrap64 (by omega) (by omega)]; omega
    simp only [hb.len, OP_some, bin_sub, e3]
    rw [rem_nat _ _ _ (by omega)]
    have hr : ms.length % (s.length - 1) < s.length - 1 := Nat.mod_lt _ (by omega)
    generalize ms.length % (s.length - 1) = j at hr
    simp only [OP_some]
    have := swapT (t := t) (i := j) (K := fun x64 => p5z12 Try.prog K (I n) qv (S s) x64 hB) (by omega) (by omega) (rest _ (swapAt_letters hlt j) (by rw [swapAt_length (by omega)]; exact htl))
    exact this
  · simp only [decide_eq_false hc, GdP_ft, q5z10, iPick_f, OP_some, IfP_false]
    exact rest t hlt htl

end Go.Proofs.Ytjdlcokhlphmhaa

/-
  Small facts of memory that many contracts use.
-/
namespace Go.Proofs.Ytjdlcokhlphmhaa
open Go.Sim

theorem get_last {h : Heap} {o : IObj} : (h ++ [o])[h.length]? = some o := by simp

theorem setAt_one (xs : List Value) (o : Nat) (v : Value) (ho : o < xs.length) : setAt xs o [v] = xs.set o v := by
  unfold setAt
  rw [List.set_eq_take_append_cons_drop, if_pos ho]
  simp

theorem store_at {h : Heap} {i o : Nat} {e : TypeId} {xs : List Value} {v : Value} (hg : h[i]? = some (.arr e xs)) (ho : o < xs.length) (h1 : noTuple v = true) (h2 : vcells v = [v]) : oStore 1 h (pt i o) v = some (undef, h.set i (.arr e (xs.set o v))) := by
  simp only [oStore, iStore, hg, h1, h2, setAt_one _ _ _ ho]
  rw [if_pos ⟨trivial, rfl, by omega⟩]
  rfl

theorem OwnS.one {b : Nat} {hx : Heap} {e : TypeId} {v : Value} {xs : List Value} (o : OwnS b hx e v xs) : noTuple v = true ∧ vcells v = [v] := by
  rcases o with ⟨rfl, _⟩ | ⟨i, _, rfl, _⟩ <;> exact ⟨rfl, rfl⟩

section
variable {h : Heap} {id : Nat}

abbrev hb (h : Heap) (id : Nat) (xs : List UInt8) : Heap := h.set id (.arr 5 (xs.map cv))

theorem hb_get (hid : id < h.length) (xs : List UInt8) : (hb h id xs)[id]? = some (.arr 5 (xs.map cv)) := by simp [hb, hid]

theorem hb_load (hid : id < h.length) {xs : List UInt8} {j : Nat} {c : UInt8} (hj : xs[j]? = some c) : iLoad false 1 (hb h id xs) (pt id j) = some (cv c) := by
  simp [iLoad, objCells, hb_get hid, iPart, hj]

theorem hb_store (hid : id < h.length) {xs : List UInt8} {j : Nat} (c : UInt8) (hj : j < xs.length) : oStore 1 (hb h id xs) (pt id j) (cv c) = some (undef, hb h id (xs.set j c)) := by
  rw [store_at (hb_get hid xs) (by simpa using hj) rfl rfl]
  simp [hb, List.map_set]

theorem adr_sl {e : TypeId} {n j : Nat} (hj : j < n) : iAdrSl 1 (sl e id 0 n) (I j) = some (pt id j) := by
  have : (0 : Int) ≤ (j : Int) ∧ (j : Int) < (n : Int) := by omega
  simp [Go.Sim.sl, iAdrSl, this]

end

/-- One element more: what stays, what comes. -/
theorem app1p {b : Nat} {hx : Heap} {e : TypeId} {bytes : Nat} {v x z : Value} {xs : List Value} {K : Value → Heap → Prop} (o : OwnS b hx e v xs) (hb : (xs.length + 1) * bytes ≤ 140737488355328) (hm : xs.length + 1 ≤ maxLen)
    (h1 : noTuple x = true) (h2 : vcells x = [x]) (hk : ∀ h1 hx', h1 = hx ++ [.arr e [x]] → hx'.length = hx.length + 2 → (∀ d, d < hx.length → (∀ n, v ≠ sl e d 0 n) → hx'[d]? = hx[d]?) → hx'[hx.length + 1]? = some (.arr e (xs ++ [x])) → OH (some (sl e (hx.length + 1) 0 (xs.length + 1), hx')) K) :
    OH (iMkSl e 1 [z] hx [(0, 1, x)]) fun a h2 => OH (iApp e 1 bytes h2 v a) K := by
  have e1 : iMkSl e 1 [z] hx [(0, 1, x)] = some (sl e hx.length 0 1, hx ++ [.arr e [x]]) := by
    simp [iMkSl, fillL, zrep, h1, h2, setAt]
  rw [e1]
  simp only [OH_some]
  have e2 : sliceCells (hx ++ [.arr e [x]]) 1 (sl e hx.length 0 1) = some [x] := by simp [sliceCells, sl, objCells]
  have e3 : lenOfSl (sl e hx.length 0 1) = some 1 := rfl
  rcases o with ⟨rfl, rfl⟩ | ⟨i, hi, rfl, hget⟩
  · have hb' : 1 * bytes ≤ 140737488355328 := by simpa using hb
    have hm' : 1 ≤ maxLen := by simpa using hm
    have e4 : iApp e 1 bytes (hx ++ [.arr e [x]]) (.slice none 0 0) (sl e hx.length 0 1) = some (sl e (hx.length + 1) 0 1, hx ++ [.arr e [x]] ++ [.arr e [x]]) := by
      simp only [iApp, e2, e3]
      rw [if_neg (by omega), if_pos ⟨hb', hm'⟩]
      simp
    rw [e4]
    refine hk _ _ rfl (by simp) (fun d hd _ => by rw [List.getElem?_append_left (by simp; omega), List.getElem?_append_left hd]) (by rw [List.getElem?_append_right (by simp)]; simp)
  · have hlt := (List.getElem?_eq_some_iff.1 hget).1
    have hg : (hx ++ [.arr e [x]])[i]? = some (.arr e xs) := by rw [List.getElem?_append_left hlt]; exact hget
    have e4 : iApp e 1 bytes (hx ++ [.arr e [x]]) (sl e i 0 xs.length) (sl e hx.length 0 1) = some (sl e (hx.length + 1) 0 (xs.length + 1), (hx ++ [IObj.arr e [x]]).set i IObj.dead ++ [IObj.arr e (xs ++ [x])]) := by
      simp only [iApp, e2, e3]
      simp only [sl, hg]
      rw [if_pos ⟨trivial, trivial, by simp, hb, hm⟩, if_neg (by omega)]
      simp
    rw [e4]
    refine hk _ _ rfl (by simp) (fun d hd hne => ?_) (by rw [List.getElem?_append_right (by simp)]; simp)
    have hdi : i ≠ d := by rintro rfl; exact hne _ rfl
    rw [List.getElem?_append_left (by simp; omega), List.getElem?_set_ne hdi, List.getElem?_append_left hd]

theorem sl_inj {e e' : TypeId} {i i' o o' n n' : Nat} (h : sl e i o n = sl e' i' o' n') : i = i' ∧ n = n' := by
  unfold sl at h
  injection h with h1 h2
  injection h1 with h1
  injection h1 with h1
  exact ⟨h1, h2⟩

theorem OwnS.keep {b : Nat} {g g' : Heap} {e : TypeId} {v : Value} {xs : List Value} (o : OwnS b g e v xs) (h : ∀ d n, v = sl e d 0 n → b ≤ d → g'[d]? = g[d]?) : OwnS b g' e v xs := by
  rcases o with ⟨h1, h2⟩ | ⟨i, h1, h2, h3⟩
  · exact .inl ⟨h1, h2⟩
  · exact .inr ⟨i, h1, h2, by rw [h i _ h2 h1]; exact h3⟩

theorem OwnS.lt {b : Nat} {g : Heap} {e : TypeId} {v : Value} {xs : List Value} {d n : Nat} (o : OwnS b g e v xs) (h : v = sl e d 0 n) : b ≤ d ∧ d < g.length ∧ g[d]? = some (.arr e xs) := by
  rcases o with ⟨h1, _⟩ | ⟨i, h1, h2, h3⟩
  · rw [h1] at h; cases h
  · rw [h2] at h
    obtain ⟨rfl, _⟩ := sl_inj h
    exact ⟨h1, (List.getElem?_eq_some_iff.1 h3).1, h3⟩

end Go.Proofs.Ytjdlcokhlphmhaa
