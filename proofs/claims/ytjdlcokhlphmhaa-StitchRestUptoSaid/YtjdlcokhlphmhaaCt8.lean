/-
  What follows a beginning: both sides; the law.
-/
import Derived.Test.YtjdlcokhlphmhaaCt6
import Derived.Test.YtjdlcokhlphmhaaLv1
import Derived.Test.YtjdlcokhlphmhaaSh2
namespace Go.Proofs.Ytjdlcokhlphmhaa
open Go.Sim

@[simp] theorem pair0 (a b : Value) : (#[a, b] : Array Value)[0]? = some a := rfl
@[simp] theorem pair1 (a b : Value) : (#[a, b] : Array Value)[1]? = some b := rfl

/-- A law's threads: at most 31 pairs of them, copied. -/
theorem pre_threads {ps : List (Int × Int)} {pv : Value} {k : Int} {h : Heap} {K : Value → Heap → Prop} (hp : PSl h pv ps) (hk : ∀ h2 qv qs, PS h2 qv qs → qs.length ≤ 31 → K (.tuple #[I k, qv]) h2) :
    OH (iBox 24 h (.agg #[I k, pv])) fun t3 h_1 => OP (iLoad true 2 h_1 t3) fun x15 => CallP Try.prog 16 [x15] h_1 K := by
  have e1 : iBox 24 h (.agg #[I k, pv]) = some (pt h.length 0, h ++ [.arr 24 [I k, pv]]) := rfl
  have e2 : iLoad true 2 (h ++ [.arr 24 [I k, pv]]) (pt h.length 0) = some (.agg #[I k, pv]) := by simp [iLoad, objCells, iPart]
  simp only [e1, OH_some, e2, OP_some]
  refine C16 (hp.mono (EX.append _ _)) ?_
  generalize h ++ [IObj.arr 24 [I k, pv]] = h1
  have hl : (ps.take 31).length ≤ 31 := by rw [List.length_take]; omega
  have hps : PS (h1 ++ [.arr 98 (pcells (ps.take 31))]) (sl 98 h1.length 0 (ps.take 31).length) (ps.take 31) := PS.sl (by simp [objCells])
  exact hk _ _ _ hps hl

/-- The list of two seams that 'why' gets. -/
theorem pre_two {s u : List UInt8} {qs : List (Int × Int)} {qv : Value} {k : Int} {h : Heap} {K : Value → Heap → Prop} (hp : PS h qv qs) (hl : qs.length ≤ 31) (hs : s.length ≤ 41) (hu : u.length ≤ 41)
    (hk : ∀ h2, PS h2 qv qs → K (I (whyE k qs [s, u] 40)) h2) : OH (iMkSl 9 2 [.string ⟨#[]⟩] h [(0, 1, S s), (1, 1, S u)]) fun x35 h_6 => CallP Try.prog 19 [I k, qv, I 40, x35] h_6 K := by
  simp only [mkS2, OH_some]
  have hx : EX h (h ++ [.arr 9 [S s, S u]]) := EX.append _ _
  have hss : SS (h ++ [.arr 9 [S s, S u]]) (sl 9 h.length 0 2) [s, u] := SS.sl (ls := [s, u]) (by simp [objCells])
  exact C19 (most := 40) (hp.mono hx) (by omega) hss (by simp) (by simp; omega) (hk _ (hp.mono hx))

def divF (fr : UInt8 → UInt8 → Bool) : List UInt8 → List UInt8 → Option (List UInt8)
  | [], u => some u
  | c :: cs, u => match firstAt fr c u 0 with
    | some i => divF fr cs (without u i)
    | none => none

theorem divF_congr {fr gr : UInt8 → UInt8 → Bool} {n : Nat} (hfr : ∀ a b, a < n → b < n → fr (lt a) (lt b) = gr (lt a) (lt b)) : ∀ {s u : List UInt8}, letters n s → letters n u → divF fr s u = divF gr s u
  | [], u, _, _ => rfl
  | c :: cs, u, hs, hu => by
    obtain ⟨b, hb, rfl⟩ := hs c (by simp)
    simp only [divF]
    rw [firstAt_congr (gr := gr) fun c hc => by obtain ⟨a, ha, rfl⟩ := hu c hc; exact hfr a b ha hb]
    split
    · exact divF_congr hfr (fun d hd => hs d (by simp [hd])) (letters_without hu _)
    · rfl

theorem divF_letters {fr : UInt8 → UInt8 → Bool} {n : Nat} : ∀ {s u r : List UInt8}, letters n u → divF fr s u = some r → letters n r ∧ r.length ≤ u.length
  | [], u, r, hu, h => by simp [divF] at h; subst h; exact ⟨hu, Nat.le_refl _⟩
  | c :: cs, u, r, hu, h => by
    simp only [divF] at h
    split at h
    · rename_i i hi
      obtain ⟨h1, h2⟩ := divF_letters (letters_without hu i) h
      have := without_length (firstAt_lt hi).1
      exact ⟨h1, by omega⟩
    · cases h

theorem letters_le {n m : Nat} (h : n ≤ m) {s : List UInt8} (hs : letters n s) : letters m s := fun c hc => let ⟨a, h1, h2⟩ := hs c hc; ⟨a, by omega, h2⟩

def divV (o : Option (List UInt8)) : Value := match o with | some r => .tuple #[S r, B true] | none => .tuple #[S [], B false]

theorem C82 {t : Value} {k : Int} {cm : Nat → Nat → Bool} {s u : List UInt8} {h : Heap} {K : Value → Heap → Prop} (ht : TH h t k cm) (hs : letters 6 s) (hu : letters 6 u) (hls : s.length ≤ 1000) (hlu : u.length ≤ 1000)
    (hk : K (divV (divF (frM cm) s u)) h) : CallP Try.prog 82 [t, S s, S u] h K := by
  refine f82 ?_
  simp only [T82, lenS_S, OP_some]
  refine loopL (σ := List UInt8 × Nat) (fun p => [S p.1, I p.2]) (fun _ => h) (fun p => p.2 ≤ s.length ∧ letters 6 p.1 ∧ p.1.length ≤ 1000 ∧ divF (frM cm) s u = divF (frM cm) (s.drop p.2) p.1) (fun p => s.length - p.2) (u, 0) rfl rfl ⟨by omega, hu, hlu, rfl⟩ ?_
  rintro ⟨w, i⟩ ⟨hi, hw, hlw, hf⟩ L hL
  simp only at hi hw hlw hf hL ⊢
  rw [q82z5]
  simp only [bin_lss, OP_some, IfP_dec]
  refine ⟨fun hlt => ?_, fun hge => ?_⟩
  · have hlt' : i < s.length := by omega
    rw [idxS_S s hlt']
    simp only [OP_some]
    rw [List.drop_eq_getElem_cons hlt'] at hf
    simp only [divF] at hf
    obtain ⟨a, ha, hsa⟩ := hs s[i] (List.getElem_mem hlt')
    rw [hsa] at hf ⊢
    refine C84 ht ha hw hlw ?_
    cases hfa : firstAt (frM cm) (lt a) w 0 with
    | none =>
      rw [hfa] at hf
      simp only at hf
      rw [hf] at hk
      simp [optI]
      exact hk
    | some j =>
      rw [hfa] at hf
      simp only at hf
      have hj := (firstAt_lt hfa).1
      have hwl := without_length hj
      simp only [optI, bin_lss, OP_some, IfP_dec]
      refine ⟨fun h => by omega, fun _ => ?_⟩
      refine C85 hj (by omega) ?_
      simp only [bin_add, OP_some, inc i (by omega), true_and]
      exact hL (without w j, i + 1) ⟨by omega, letters_without hw j, (by show (without w j).length ≤ 1000; omega), hf⟩ (by simp; omega)
  · have : i = s.length := by omega
    subst this
    simp [divF] at hf
    rw [hf] at hk
    rw [q82z15]
    exact hk

def restV (fr : UInt8 → UInt8 → Bool) (ps : List (Int × Int)) (s u : List UInt8) : Value := divV ((divF fr s u).map (Lst ps))

theorem C52 {ps : List (Int × Int)} {pv : Value} {s u : List UInt8} {h : Heap} {K : Value → Heap → Prop} (hp : PS h pv ps) (hg : good ps) (hl : ps.length ≤ 100) (hls : s.length ≤ 1000) (hlu : u.length ≤ 1000) (hu : letters 6 u)
    (hk : K (restV (freeP ps) ps s u) h) : CallP Try.prog 52 [pv, S s, S u] h K := by
  refine f52 ?_
  unfold restV at hk
  refine loopL (σ := List UInt8 × Nat) (fun p => [S p.1, I p.2]) (fun _ => h) (fun p => p.2 ≤ s.length ∧ letters 6 p.1 ∧ p.1.length ≤ 1000 ∧ divF (freeP ps) s u = divF (freeP ps) (s.drop p.2) p.1) (fun p => s.length - p.2) (u, 0) rfl rfl ⟨by omega, hu, hlu, rfl⟩ ?_
  rintro ⟨w, i⟩ ⟨hi, hw, hlw, hf⟩ L hL
  simp only at hi hw hlw hf hL ⊢
  rw [q52z5]
  simp only [lenS_S, bin_lss, OP_some, IfP_dec]
  refine ⟨fun hlt => ?_, fun hge => ?_⟩
  · have hlt' : i < s.length := by omega
    rw [idxS_S s hlt']
    simp only [OP_some]
    rw [List.drop_eq_getElem_cons hlt'] at hf
    simp only [divF] at hf
    refine C59 hp hg hl hlw ?_
    cases hfa : firstAt (freeP ps) s[i] w 0 with
    | none =>
      rw [hfa] at hf
      simp only at hf
      rw [hf] at hk
      simp [optI]
      exact hk
    | some j =>
      rw [hfa] at hf
      simp only at hf
      have hj := (firstAt_lt hfa).1
      have hwl := without_length hj
      simp only [optI, bin_lss, OP_some, IfP_dec]
      refine ⟨fun h => by omega, fun _ => ?_⟩
      refine C60 hj (by omega) ?_
      simp only [bin_add, OP_some, inc i (by omega), true_and]
      exact hL (without w j, i + 1) ⟨by omega, letters_without hw j, (by show (without w j).length ≤ 1000; omega), hf⟩ (by simp; omega)
  · have : i = s.length := by omega
    subst this
    simp [divF] at hf
    rw [hf] at hk
    rw [q52z14]
    exact C21 hp hg hl hlw hw hk

/-- Rest's answer. -/
def restE (k : Int) (ps : List (Int × Int)) (s u : List UInt8) : Value :=
  if whyE k ps [s, u] 40 = 0 then (match divF (freeP ps) s u with | some r => .tuple #[S (Lst ps r), I 0] | none => .tuple #[S [], I 5]) else .tuple #[S [], I (whyE k ps [s, u] 40)]

theorem Ren.si (s : List UInt8) (n : Int) : Ren fun _ => .tuple #[S s, I n] := Ren.tuple (l := [fun _ => S s, fun _ => I n]) (.cons (Ren.scal rfl) (.cons (Ren.scal rfl) .nil))

theorem restE_ren (k : Int) (ps : List (Int × Int)) (s u : List UInt8) : Ren fun _ => restE k ps s u := by
  unfold restE
  split
  · split <;> exact Ren.si _ _
  · exact Ren.si _ _

theorem C51 {ps : List (Int × Int)} {pv : Value} {s u : List UInt8} {k : Int} {h : Heap} {K : Value → Heap → Prop} (hp : PS h pv ps) (hl : ps.length ≤ 100) (hs : s.length ≤ 1000) (hu : u.length ≤ 1000)
    (hk : K (restE k ps s u) h) : CallP Try.prog 51 [I k, pv, S s, S u] h K := by
  refine callP_gc (v := restE k ps s u) (restE_ren k ps s u) ?_ hk
  refine f51 ?_
  simp only [T51, mkS2, OH_some]
  have hx : EX h (h ++ [.arr 9 [S s, S u]]) := EX.append _ _
  have hss : SS (h ++ [.arr 9 [S s, S u]]) (sl 9 h.length 0 2) [s, u] := SS.sl (ls := [s, u]) (by simp [objCells])
  refine C56 (most := 40) (hp.mono hx) hl hss (by simp) (by simp; exact ⟨hs, hu⟩) (fun hw => ?_) (fun hw => ?_)
  · simp only [ext_tuple, pair0, pair1, OP_some, bin_neq, decide_eq_false hw, Bool.not_false, IfP_true]
    exact ⟨by unfold restE; rw [if_neg hw]; rfl, hx⟩
  · obtain ⟨ht, hse⟩ := whyE_ok hw
    obtain ⟨n, rfl, hn1, hn6⟩ := threadsOk_k ht
    have hok := seamsE_ok hse
    have ls := letters_of (hok s (by simp)).2
    have lu := letters_of (hok u (by simp)).2
    generalize hh1 : h ++ [.arr 9 [S s, S u]] = h1 at *
    simp only [ext_tuple, pair0, pair1, OP_some, bin_neq, decide_true, Bool.not_true, IfP_false]
    have hth : TH (h1 ++ [.arr 138 (tcells n (cmOf ps))]) (pt h1.length 0) n (cmOf ps) := ⟨h1.length, rfl, by simp [objCells]⟩
    refine C82 hth (letters_le hn6 ls) (letters_le hn6 lu) hs hu ?_
    have hfr : ∀ a b, a < n → b < n → frM (cmOf ps) (lt a) (lt b) = freeP ps (lt a) (lt b) := fun a b ha hb => frM_cmOf ps (by omega) (by omega)
    rw [divF_congr hfr ls lu]
    unfold restE
    rw [hw]
    cases hd : divF (freeP ps) s u with
    | none => simp [divV]; exact ⟨rfl, hx.push _⟩
    | some r =>
      obtain ⟨lr, hlr⟩ := divF_letters lu hd
      simp only [divV, ext_tuple, pair0, pair1, OP_some, un_not, Bool.not_true, IfP_false]
      refine C57 (k := n) hth hn6 (by omega) lr ?_
      rw [Lst_eq hn6 lr]
      simp
      exact hx.push _

theorem C10 {ps : List (Int × Int)} {pv : Value} {k : Int} {x y : List UInt8} {h : Heap} {K : Value → Heap → Prop} (hp : PSl h pv ps) (hk : ∀ h', K (.bool true) h') : CallP Try.prog 10 [.agg #[I k, pv], S x, S y] h K := by
  refine f10 ?_
  refine pre_threads hp ?_
  intro h2 qv qs hps hl
  simp only [ext_tuple, pair0, pair1, OP_some]
  refine C17 (n := 41) (C17 (n := 41) ?_)
  have hs : (x.take 41).length ≤ 41 := by rw [List.length_take]; omega
  have hu : (y.take 41).length ≤ 41 := by rw [List.length_take]; omega
  generalize x.take 41 = s at hs ⊢
  generalize y.take 41 = u at hu ⊢
  refine C51 hps (by omega) (by omega) (by omega) ?_
  -- what is refused, and what does not begin
  have no : ∀ e h', p10z20 Try.prog K (S []) (I e) (I e) h' := by
    intro e h'
    simp only [q10z20, S_nil, bin_eqlS, OP_some, decide_true, q10z23, GdP_tt, bin_eql, q10z25, iPick_t, q10z27]
    refine C20 ?_
    simp only [q10z29, iPick_t, OP_some]
    exact hk _
  unfold restE
  by_cases hw : whyE k qs [s, u] 40 = 0
  · rw [if_pos hw]
    obtain ⟨ht, hse⟩ := whyE_ok hw
    obtain ⟨n, rfl, hn1, hn6⟩ := threadsOk_k ht
    have hok := seamsE_ok hse
    have lu := letters_le hn6 (letters_of (hok u (by simp)).2)
    have hg := (threadsOk_good ht).1
    cases hd : divF (freeP qs) s u with
    | none =>
      simp only [ext_tuple, pair0, pair1, OP_some]
      refine pre_two hps hl hs hu ?_
      intro h3 hps3
      simp only [hw, bin_eql, decide_true, OP_some, IfP_true]
      refine C52 hps3 hg (by omega) (by omega) (by omega) lu ?_
      simp only [restV, hd, Option.map_none, divV, ext_tuple, pair0, pair1, OP_some, IfP_false]
      exact no 5 _
    | some r =>
      simp only [ext_tuple, pair0, pair1, OP_some]
      refine pre_two hps hl hs hu ?_
      intro h3 hps3
      simp only [hw, bin_eql, decide_true, OP_some, IfP_true]
      refine C52 hps3 hg (by omega) (by omega) (by omega) lu ?_
      simp only [restV, hd, Option.map_some, divV, ext_tuple, pair0, pair1, OP_some, IfP_true, bin_eqlS, decide_true, q10z13, GdP_tt, bin_eql, q10z15, iPick_t, q10z17]
      refine C20 ?_
      simp only [q10z19, iPick_t, OP_some]
      exact hk _
  · rw [if_neg hw]
    simp only [ext_tuple, pair0, pair1, OP_some]
    refine pre_two hps hl hs hu ?_
    intro h3 hps3
    simp only [bin_eql, decide_eq_false hw, OP_some, IfP_false]
    exact no _ _

end Go.Proofs.Ytjdlcokhlphmhaa
