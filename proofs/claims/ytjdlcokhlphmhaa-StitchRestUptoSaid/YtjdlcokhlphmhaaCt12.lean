/-
  Meet and Join, both sides; the law.
-/
import Derived.Test.YtjdlcokhlphmhaaCt11
namespace Go.Proofs.Ytjdlcokhlphmhaa
open Go.Sim

theorem Lst_iff {ps : List (Int × Int)} {s t : List UInt8} (ls : letters 6 s) (lt' : letters 6 t) : eqv (freeP ps) 6 s t ↔ Lst ps s = Lst ps t := eqv_iff (freeP_symm ps) ls lt'
theorem Lst_eqv {ps : List (Int × Int)} {s : List UInt8} (ls : letters 6 s) : eqv (freeP ps) 6 (Lst ps s) s := eqv_least (freeP_symm ps) ls
theorem Lst_letters {ps : List (Int × Int)} {s : List UInt8} (ls : letters 6 s) : letters 6 (Lst ps s) ∧ (Lst ps s).length = s.length := leastF_letters ls rfl

/-- Each letter of one commutes with each letter of the other. -/
def freeAll (fr : UInt8 → UInt8 → Bool) (a b : List UInt8) : Bool := a.all fun c => b.all fun d => fr c d

theorem freeAll_iff {fr : UInt8 → UInt8 → Bool} {a b : List UInt8} : freeAll fr a b = true ↔ ∀ c ∈ a, ∀ d ∈ b, fr c d = true := by
  simp [freeAll, List.all_eq_true]

theorem mem_iff_of_eqv {fr : UInt8 → UInt8 → Bool} {n : Nat} {s t : List UInt8} (ls : letters n s) (h : eqv fr n s t) : ∀ c ∈ s, c ∈ t := by
  intro c hc
  obtain ⟨a, ha, rfl⟩ := ls c hc
  exact mem_only_of_eqv ha h hc

theorem freeAll_congr {fr : UInt8 → UInt8 → Bool} {n : Nat} {a b a' b' : List UInt8} (la : letters n a) (lb : letters n b) (la' : letters n a') (lb' : letters n b') (h1 : eqv fr n a a') (h2 : eqv fr n b b') : freeAll fr a b = freeAll fr a' b' := by
  rw [Bool.eq_iff_iff, freeAll_iff, freeAll_iff]
  exact ⟨fun h c hc d hd => h c (mem_iff_of_eqv la' h1.symm c hc) d (mem_iff_of_eqv lb' h2.symm d hd), fun h c hc d hd => h c (mem_iff_of_eqv la h1 c hc) d (mem_iff_of_eqv lb h2 d hd)⟩

theorem MeetR.unique {ps : List (Int × Int)} {s u m a b m' a' b' : List UInt8} (ls : letters 6 s) (lu : letters 6 u) (h : MeetR ps 6 s u m a b) (k : MeetR ps 6 s u m' a' b') :
    eqv (freeP ps) 6 m m' ∧ eqv (freeP ps) 6 a a' ∧ eqv (freeP ps) 6 b b' := by
  have hm := meet_unique (freeP_symm ps) h.lm k.lm h.la h.lb k.la k.lb ls lu h.ea h.eb h.ap k.ea k.eb k.ap
  refine ⟨hm, ?_, ?_⟩
  · exact eqv.cancel (u := m) (h.ea.trans (k.ea.symm.trans (hm.symm.append (eqv.refl _ _ a'))))
  · exact eqv.cancel (u := m) (h.eb.trans (k.eb.symm.trans (hm.symm.append (eqv.refl _ _ b'))))

def siV (s : List UInt8) (e : Int) : Value := .tuple #[S s, I e]
def sbV (s : List UInt8) (e : Bool) : Value := .tuple #[S s, B e]

theorem C47 {ps : List (Int × Int)} {pv : Value} {s u : List UInt8} {k : Int} {h : Heap} {K : Value → Heap → Prop} (hp : PS h pv ps) (hl : ps.length ≤ 100) (hs : s.length ≤ 1000) (hu : u.length ≤ 1000)
    (hno : whyE k ps [s, u] 40 ≠ 0 → K (siV [] (whyE k ps [s, u] 40)) h) (hyes : whyE k ps [s, u] 40 = 0 → ∀ m a b, MeetR ps 6 s u m a b → K (siV (Lst ps m) 0) h) : CallP Try.prog 47 [I k, pv, S s, S u] h K := by
  refine callP_gcE ?_
  refine f47 ?_
  simp only [T47, mkS2, OH_some]
  have hx : EX h (h ++ [.arr 9 [S s, S u]]) := EX.append _ _
  have hss : SS (h ++ [.arr 9 [S s, S u]]) (sl 9 h.length 0 2) [s, u] := SS.sl (ls := [s, u]) (by simp [objCells])
  refine C56 (most := 40) (hp.mono hx) hl hss (by simp) (by simp; exact ⟨hs, hu⟩) (fun hw => ?_) (fun hw => ?_)
  · simp only [ext_tuple, pair0, pair1, OP_some, bin_neq, decide_eq_false hw, Bool.not_false, IfP_true]
    exact ⟨hx, Ren.si _ _, hno hw⟩
  · obtain ⟨ht, hse⟩ := whyE_ok hw
    have hy2 := hyes hw
    obtain ⟨n, rfl, hn1, hn6⟩ := threadsOk_k ht
    have hok := seamsE_ok hse
    have ls := letters_of (hok s (by simp)).2
    have lu := letters_of (hok u (by simp)).2
    generalize hh1 : h ++ [.arr 9 [S s, S u]] = h1 at *
    simp only [ext_tuple, pair0, pair1, OP_some, bin_neq, decide_true, Bool.not_true, IfP_false]
    have hth : TH (h1 ++ [.arr 138 (tcells n (cmOf ps))]) (pt h1.length 0) n (cmOf ps) := ⟨h1.length, rfl, by simp [objCells]⟩
    refine C80 hth hn6 ls lu hs hu ?_
    intro m a b hm
    have hlen := hm.len hn6 ls lu
    have e0 : (#[S m, S a, S b] : Array Value)[0]? = some (S m) := rfl
    have e1 : (#[S m, S a, S b] : Array Value)[1]? = some (S a) := rfl
    have e2 : (#[S m, S a, S b] : Array Value)[2]? = some (S b) := rfl
    simp only [ext_tuple, e0, e1, e2, OP_some]
    refine C57 (k := n) hth hn6 (by omega) hm.lm ?_
    rw [Lst_eq hn6 hm.lm]
    exact ⟨hx.push _, Ren.si _ _, hy2 m a b (hm.six hn6)⟩

def joinV (ps : List (Int × Int)) (m a b : List UInt8) : Value := if freeAll (freeP ps) a b then siV (Lst ps (m ++ a ++ b)) 0 else siV [] 5

theorem C48 {ps : List (Int × Int)} {pv : Value} {s u : List UInt8} {k : Int} {h : Heap} {K : Value → Heap → Prop} (hp : PS h pv ps) (hl : ps.length ≤ 100) (hs : s.length ≤ 100) (hu : u.length ≤ 100)
    (hno : whyE k ps [s, u] 40 ≠ 0 → K (siV [] (whyE k ps [s, u] 40)) h) (hyes : whyE k ps [s, u] 40 = 0 → ∀ m a b, MeetR ps 6 s u m a b → K (joinV ps m a b) h) : CallP Try.prog 48 [I k, pv, S s, S u] h K := by
  refine callP_gcE ?_
  refine f48 ?_
  simp only [T48, mkS2, OH_some]
  have hx : EX h (h ++ [.arr 9 [S s, S u]]) := EX.append _ _
  have hss : SS (h ++ [.arr 9 [S s, S u]]) (sl 9 h.length 0 2) [s, u] := SS.sl (ls := [s, u]) (by simp [objCells])
  refine C56 (most := 40) (hp.mono hx) hl hss (by simp) (by simp; exact ⟨by omega, by omega⟩) (fun hw => ?_) (fun hw => ?_)
  · simp only [ext_tuple, pair0, pair1, OP_some, bin_neq, decide_eq_false hw, Bool.not_false, IfP_true]
    exact ⟨hx, Ren.si _ _, hno hw⟩
  · obtain ⟨ht, hse⟩ := whyE_ok hw
    have hy2 := hyes hw
    obtain ⟨n, rfl, hn1, hn6⟩ := threadsOk_k ht
    have hok := seamsE_ok hse
    have ls := letters_of (hok s (by simp)).2
    have lu := letters_of (hok u (by simp)).2
    generalize hh1 : h ++ [.arr 9 [S s, S u]] = h1 at *
    simp only [ext_tuple, pair0, pair1, OP_some, bin_neq, decide_true, Bool.not_true, IfP_false]
    have hth : TH (h1 ++ [.arr 138 (tcells n (cmOf ps))]) (pt h1.length 0) n (cmOf ps) := ⟨h1.length, rfl, by simp [objCells]⟩
    have x2 : EX h (h1 ++ [.arr 138 (tcells n (cmOf ps))]) := hx.push _
    generalize h1 ++ [IObj.arr 138 (tcells n (cmOf ps))] = h2 at hth x2 ⊢
    generalize pt h1.length 0 = tv at hth ⊢
    refine C80 hth hn6 ls lu (by omega) (by omega) ?_
    intro m a b hm
    have hlen := hm.len hn6 ls lu
    have hyes := hy2 m a b (hm.six hn6)
    have e0 : (#[S m, S a, S b] : Array Value)[0]? = some (S m) := rfl
    have e1 : (#[S m, S a, S b] : Array Value)[1]? = some (S a) := rfl
    have e2 : (#[S m, S a, S b] : Array Value)[2]? = some (S b) := rfl
    simp only [ext_tuple, e0, e1, e2, OP_some, lenS_S]
    unfold joinV at hyes
    refine loopL (σ := Nat) (fun i => [I i]) (fun _ => h2) (fun i => i ≤ a.length ∧ ∀ (j : Nat) (hj : j < a.length), j < i → ∀ d ∈ b, freeP ps a[j] d = true) (fun i => a.length - i) 0 rfl rfl ⟨by omega, fun j _ h => by omega⟩ ?_
    rintro i ⟨hi, hf⟩ L hL
    rw [q48z10]
    simp only [bin_lss, OP_some, IfP_dec, lenS_S]
    refine ⟨fun hlt => ?_, fun hge => ?_⟩
    · have hlt' : i < a.length := by omega
      refine loopL (σ := Nat) (fun i => [I i]) (fun _ => h2) (fun j => j ≤ b.length ∧ ∀ (l : Nat) (hj : l < b.length), l < j → freeP ps a[i] b[l] = true) (fun i => b.length - i) 0 rfl rfl ⟨by omega, fun j _ h => by omega⟩ ?_
      rintro j ⟨hj, hfj⟩ L2 hL2
      rw [q48z18]
      simp only [bin_lss, OP_some, IfP_dec]
      refine ⟨fun hlt => ?_, fun hge => ?_⟩
      · have hlt2 : j < b.length := by omega
        rw [idxS_S a hlt', idxS_S b hlt2]
        simp only [OP_some]
        obtain ⟨x, hx6, ex⟩ := hm.la _ (List.getElem_mem hlt')
        obtain ⟨y, hy6, ey⟩ := hm.lb _ (List.getElem_mem hlt2)
        have hfr : frM (cmOf ps) (lt x) (lt y) = freeP ps a[i] b[j] := by rw [ex, ey]; exact frM_cmOf ps (by omega) (by omega)
        have key : CallP Try.prog 81 [tv, cv a[i], cv b[j]] h2 fun v h => v = B (!freeP ps a[i] b[j]) ∧ h = h2 := by
          rw [ex, ey]
          refine C81 hth (by omega) (by omega) ?_
          rw [hfr, ex, ey]
          exact ⟨rfl, rfl⟩
        refine key.mono ?_
        rintro v h' ⟨rfl, rfl⟩
        refine ⟨trivial, ?_⟩
        cases hfa : freeP ps a[i] b[j] with
        | false =>
          simp only [Bool.not_false, IfP_true]
          have : freeAll (freeP ps) a b = false := by
            rw [Bool.eq_false_iff]
            intro h
            rw [freeAll_iff] at h
            have := h _ (List.getElem_mem hlt') _ (List.getElem_mem hlt2)
            rw [hfa] at this
            cases this
          rw [this] at hyes
          exact ⟨x2, Ren.si _ _, hyes⟩
        | true =>
          simp only [Bool.not_true, IfP_false, bin_add, OP_some, inc j (by omega), true_and]
          refine hL2 (j + 1) ⟨by omega, fun l hl hlj => ?_⟩ (by omega)
          by_cases hlj2 : l = j
          · subst hlj2; exact hfa
          · exact hfj l hl (by omega)
      · have : j = b.length := by omega
        subst this
        rw [q48z26]
        simp only [bin_add, OP_some, inc i (by omega), true_and]
        refine hL (i + 1) ⟨by omega, fun l hl hlj => ?_⟩ (by omega)
        by_cases hlj2 : l = i
        · subst hlj2
          intro d hd
          obtain ⟨e, he, rfl⟩ := List.mem_iff_getElem.1 hd
          exact hfj e he he
        · exact hf l hl (by omega)
    · have : i = a.length := by omega
      subst this
      rw [q48z27]
      have : freeAll (freeP ps) a b = true := by
        rw [freeAll_iff]
        intro c hc d hd
        obtain ⟨e, he, rfl⟩ := List.mem_iff_getElem.1 hc
        exact hf e he he d hd
      rw [this] at hyes
      rw [bin_addS _ _ (by simp only [maxLen]; omega)]
      simp only [OP_some]
      rw [bin_addS _ _ (by simp only [List.length_append, maxLen]; omega)]
      simp only [OP_some]
      have lall := letters_append (letters_append hm.lm hm.la) hm.lb
      refine C57 (k := n) hth hn6 (by simp; omega) lall ?_
      rw [Lst_eq hn6 lall]
      exact ⟨x2, Ren.si _ _, hyes⟩

def joinB (ps : List (Int × Int)) (m a b : List UInt8) : Value := if freeAll (freeP ps) a b then sbV (Lst ps (m ++ a ++ b)) true else sbV [] false

theorem C50 {ps : List (Int × Int)} {pv : Value} {s u : List UInt8} {h : Heap} {K : Value → Heap → Prop} (hp : PS h pv ps) (hg : good ps) (hl : ps.length ≤ 100) (hs : s.length ≤ 100) (hu : u.length ≤ 100) (ls : letters 6 s) (lu : letters 6 u)
    (hk : ∀ m a b, MeetR ps 6 s u m a b → K (joinB ps m a b) h) : CallP Try.prog 50 [pv, S s, S u] h K := by
  refine f50 ?_
  simp only [T50]
  refine C49 hp hg hl ls lu (by omega) (by omega) ?_
  intro m a b hm
  have hlen := hm.len (Nat.le_refl 6) ls lu
  obtain ⟨lm, hml⟩ := Lst_letters (ps := ps) hm.lm
  have em := Lst_eqv (ps := ps) hm.lm
  obtain ⟨y, y1, y2, y3⟩ := divG_complete (freeP_symm ps) lm ls hm.la ((em.append (eqv.refl _ _ a)).trans hm.ea)
  obtain ⟨z, z1, z2, z3⟩ := divG_complete (freeP_symm ps) lm lu hm.lb ((em.append (eqv.refl _ _ b)).trans hm.eb)
  rw [← divG_eq] at y1 z1
  refine C52 hp hg hl (by omega) (by omega) ls ?_
  simp only [restV, y1, Option.map_some, divV, ext_tuple, pair0, pair1, OP_some]
  refine C52 hp hg hl (by omega) (by omega) lu ?_
  simp only [restV, z1, Option.map_some, divV, ext_tuple, pair0, pair1, OP_some]
  obtain ⟨ly, hyl⟩ := Lst_letters (ps := ps) y3
  obtain ⟨lz, hzl⟩ := Lst_letters (ps := ps) z3
  have ey := (Lst_eqv (ps := ps) y3).trans y2
  have ez := (Lst_eqv (ps := ps) z3).trans z2
  have hya := eqv_length (freeP_symm ps) ly hm.la ey
  have hzb := eqv_length (freeP_symm ps) lz hm.lb ez
  have hk := hk m a b hm
  have e1 : freeAll (freeP ps) a b = freeAll (freeP ps) (Lst ps y) (Lst ps z) := freeAll_congr hm.la hm.lb ly lz ey.symm ez.symm
  have e2 : Lst ps (m ++ a ++ b) = Lst ps (Lst ps m ++ Lst ps y ++ Lst ps z) :=
    (Lst_iff (letters_append (letters_append hm.lm hm.la) hm.lb) (letters_append (letters_append lm ly) lz)).1 ((em.symm.append ey.symm).append ez.symm)
  unfold joinB at hk
  rw [e1, e2] at hk
  have hml : (Lst ps m).length ≤ 100 := by omega
  generalize Lst ps m = x at *
  generalize Lst ps y = y at *
  generalize Lst ps z = z at *
  refine loopL (σ := Nat) (fun i => [I i]) (fun _ => h) (fun i => i ≤ y.length ∧ ∀ (j : Nat) (hj : j < y.length), j < i → ∀ d ∈ z, freeP ps y[j] d = true) (fun i => y.length - i) 0 rfl rfl ⟨by omega, fun j _ h => by omega⟩ ?_
  rintro i ⟨hi, hf⟩ L hL
  rw [q50z8]
  simp only [bin_lss, OP_some, IfP_dec, lenS_S]
  refine ⟨fun hlt => ?_, fun hge => ?_⟩
  · have hlt' : i < y.length := by omega
    refine loopL (σ := Nat) (fun i => [I i]) (fun _ => h) (fun j => j ≤ z.length ∧ ∀ (l : Nat) (hj : l < z.length), l < j → freeP ps y[i] z[l] = true) (fun i => z.length - i) 0 rfl rfl ⟨by omega, fun j _ h => by omega⟩ ?_
    rintro j ⟨hj, hfj⟩ L2 hL2
    rw [q50z15]
    simp only [bin_lss, OP_some, IfP_dec, lenS_S]
    refine ⟨fun hlt => ?_, fun hge => ?_⟩
    · have hlt2 : j < z.length := by omega
      rw [idxS_S y hlt', idxS_S z hlt2]
      simp only [OP_some]
      refine C33 hp hg hl ?_
      refine ⟨trivial, ?_⟩
      cases hfa : freeP ps y[i] z[j] with
      | false =>
        simp only [un_not, OP_some, Bool.not_false, IfP_true]
        have : freeAll (freeP ps) y z = false := by
          rw [Bool.eq_false_iff]
          intro h
          rw [freeAll_iff] at h
          have := h _ (List.getElem_mem hlt') _ (List.getElem_mem hlt2)
          rw [hfa] at this
          cases this
        rw [this] at hk
        exact hk
      | true =>
        simp only [un_not, Bool.not_true, IfP_false, bin_add, OP_some, inc j (by omega), true_and]
        refine hL2 (j + 1) ⟨by omega, fun l hl hlj => ?_⟩ (by omega)
        by_cases hlj2 : l = j
        · subst hlj2; exact hfa
        · exact hfj l hl (by omega)
    · have : j = z.length := by omega
      subst this
      rw [q50z22]
      simp only [bin_add, OP_some, inc i (by omega), true_and]
      refine hL (i + 1) ⟨by omega, fun l hl hlj => ?_⟩ (by omega)
      by_cases hlj2 : l = i
      · subst hlj2
        intro d hd
        obtain ⟨e, he, rfl⟩ := List.mem_iff_getElem.1 hd
        exact hfj e he he
      · exact hf l hl (by omega)
  · have : i = y.length := by omega
    subst this
    rw [q50z23]
    have : freeAll (freeP ps) y z = true := by
      rw [freeAll_iff]
      intro c hc d hd
      obtain ⟨e, he, rfl⟩ := List.mem_iff_getElem.1 hc
      exact hf e he he d hd
    rw [this] at hk
    rw [bin_addS _ _ (by simp only [maxLen]; omega)]
    simp only [OP_some]
    rw [bin_addS _ _ (by simp only [List.length_append, maxLen]; omega)]
    simp only [OP_some]
    exact C21 hp hg hl (by simp; omega) (letters_append (letters_append lm ly) lz) hk

end Go.Proofs.Ytjdlcokhlphmhaa
