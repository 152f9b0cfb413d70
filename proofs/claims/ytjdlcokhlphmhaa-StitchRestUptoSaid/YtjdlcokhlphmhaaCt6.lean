/-
  Equal, and the law that it answers as the document says.
-/
import Derived.Test.YtjdlcokhlphmhaaCt5
namespace Go.Proofs.Ytjdlcokhlphmhaa
open Go.Sim

theorem threadsOk_k {k : Int} {ps : List (Int × Int)} (h : threadsOk k ps = true) : ∃ n : Nat, k = n ∧ 1 ≤ n ∧ n ≤ 6 := by
  obtain ⟨_, h1, h2, _⟩ := threadsOk_good h
  exact ⟨k.toNat, by omega, by omega, by omega⟩

theorem letters_of {n : Nat} {s : List UInt8} (h : s.any (badL n) = false) : letters n s := by
  intro c hc
  have := any_false_mem h hc
  simp only [badL, Bool.or_eq_false_iff, decide_eq_false_iff_not] at this
  refine ⟨c.toNat - 97, by omega, ?_⟩
  apply UInt8.toNat_inj.1
  rw [lt, UInt8.toNat_ofNat']
  have := UInt8.toNat_lt c
  omega

theorem seamsE_ok {k : Int} {ls : List (List UInt8)} {most : Nat} (h : seamsE k ls most = 0) : ∀ s ∈ ls, s.length ≤ most ∧ s.any (badL k) = false := by
  unfold seamsE at h
  cases h1 : ls.any (fun s => decide (most < s.length)) with
  | true => rw [h1] at h; simp at h
  | false =>
    cases h2 : ls.any (fun s => s.any (badL k)) with
    | true => rw [h1, h2] at h; simp at h
    | false =>
      intro s hs
      have a := any_false_mem h1 hs
      have b := any_false_mem h2 hs
      simp only [decide_eq_false_iff_not] at a
      exact ⟨by omega, b⟩

theorem C56 {ps : List (Int × Int)} {pv lv : Value} {ls : List (List UInt8)} {k : Int} {most : Nat} {h : Heap} {K : Value → Heap → Prop} (hp : PS h pv ps) (hl : ps.length ≤ 100) (hss : SS h lv ls) (hls : ls.length ≤ 1000)
    (hs : ∀ s ∈ ls, s.length ≤ 1000) (hno : whyE k ps ls most ≠ 0 → K (.tuple #[.pointer none, I (whyE k ps ls most)]) h)
    (hyes : whyE k ps ls most = 0 → K (.tuple #[pt h.length 0, I 0]) (h ++ [.arr 138 (tcells k (cmOf ps))])) : CallP Try.prog 56 [I k, pv, I most, lv] h K := by
  have key : ∀ {K' : Value → Heap → Prop}, (whyE k ps ls most ≠ 0 → ∀ hx, EX h hx → K' (.tuple #[.pointer none, I (whyE k ps ls most)]) hx) →
      (whyE k ps ls most = 0 → K' (.tuple #[pt h.length 0, I 0]) (h ++ [.arr 138 (tcells k (cmOf ps))])) → CallP Try.prog 56 [I k, pv, I most, lv] h K' := by
    intro K' hno hyes
    unfold whyE at hno hyes
    refine f56 (C61 hp hl (fun ht => ?_) (fun ht => ?_))
    · rw [ht] at hno
      have := hno (by simp) h (EX.refl h)
      simpa using this
    · rw [ht] at hno hyes
      simp only [if_true] at hno hyes
      obtain ⟨n, rfl, hn1, hn6⟩ := threadsOk_k ht
      have hex : EX h (h ++ [.arr 138 (tcells n (cmOf ps))]) := EX.append _ _
      have hss' := hss.mono hex
      generalize h ++ [.arr 138 (tcells n (cmOf ps))] = hx at hex hss' hyes ⊢
      have e0 : (#[pt h.length 0, B true] : Array Value)[0]? = some (pt h.length 0) := rfl
      have e1 : (#[pt h.length 0, B true] : Array Value)[1]? = some (B true) := rfl
      simp only [ext_tuple, e0, e1, OP_some, un_not, Bool.not_true, IfP_false, hss'.len]
      refine loopL (σ := Nat) (fun i => [I i]) (fun _ => hx) (fun i => i ≤ ls.length ∧ (ls.take i).any (fun s => decide (most < s.length)) = false) (fun i => ls.length - i) 0 rfl rfl ⟨by omega, rfl⟩ ?_
      rintro i ⟨hi, hf⟩ L hL
      rw [q56z9]
      simp only [bin_lss, OP_some, IfP_dec]
      refine ⟨fun hlt => ?_, fun hge => ?_⟩
      · have hilt : i < ls.length := by omega
        obtain ⟨b, o, s1, s2⟩ := hss'.get i hilt
        have htk : ls.take (i + 1) = ls.take i ++ [ls[i]] := by rw [List.take_succ_eq_append_getElem hilt]
        simp only [s1, OP_some, s2, lenS_S, bin_gtr, IfP_dec, bin_add, inc i (by omega), true_and]
        refine ⟨fun hgt => ?_, fun hle => ?_⟩
        · have hany : ls.any (fun s => decide (most < s.length)) = true := List.any_eq_true.2 ⟨ls[i], List.getElem_mem hilt, by simp; omega⟩
          have he : seamsE n ls most = 3 := by unfold seamsE; rw [hany]; simp
          rw [he] at hno
          exact hno (by omega) hx hex
        · refine hL (i + 1) ⟨by omega, ?_⟩ (by omega)
          rw [htk, List.any_append, hf]
          simp
          omega
      · have : i = ls.length := by omega
        subst this
        rw [List.take_length] at hf
        rw [q56z17]
        simp only [hss'.len, OP_some]
        refine loopL (σ := Nat) (fun i => [I i]) (fun _ => hx) (fun i => i ≤ ls.length ∧ (ls.take i).any (fun s => s.any (badL n)) = false) (fun i => ls.length - i) 0 rfl rfl ⟨by omega, rfl⟩ ?_
        rintro i ⟨hi, hg⟩ L1 hL1
        rw [q56z21]
        simp only [bin_lss, OP_some, IfP_dec]
        refine ⟨fun hlt => ?_, fun hge => ?_⟩
        · have hilt : i < ls.length := by omega
          obtain ⟨b, o, s1, s2⟩ := hss'.get i hilt
          have htk : ls.take (i + 1) = ls.take i ++ [ls[i]] := by rw [List.take_succ_eq_append_getElem hilt]
          have hmem : ls[i] ∈ ls := List.getElem_mem hilt
          have hlen := hs ls[i] hmem
          simp only [s1, OP_some, s2, lenS_S]
          refine loopL (σ := Nat) (fun j => [I j]) (fun _ => hx) (fun j => j ≤ ls[i].length ∧ (ls[i].take j).any (badL n) = false) (fun j => ls[i].length - j) 0 rfl rfl ⟨by omega, rfl⟩ ?_
          rintro j ⟨hj, hh⟩ L2 hL2
          rw [q56z29]
          simp only [bin_lss, OP_some, IfP_dec]
          refine ⟨fun hlt2 => ?_, fun hge2 => ?_⟩
          · have hjlt : j < ls[i].length := by omega
            have htk2 : ls[i].take (j + 1) = ls[i].take j ++ [ls[i][j]] := by rw [List.take_succ_eq_append_getElem hjlt]
            rw [idxS_S _ hjlt]
            simp only [OP_some, bin_lss, q56z37]
            have bad : badL n ls[i][j] = true → K' (.tuple #[.pointer none, .int .i64 2]) hx := by
              intro hb
              have hany : ls.any (fun s => s.any (badL n)) = true := List.any_eq_true.2 ⟨ls[i], hmem, List.any_eq_true.2 ⟨ls[i][j], List.getElem_mem hjlt, hb⟩⟩
              have he : seamsE n ls most = 2 := by unfold seamsE; rw [hf, hany]; simp
              rw [he] at hno
              exact hno (by omega) hx hex
            have fine : badL n ls[i][j] = false → L2 [I ((j + 1 : Nat) : Int)] hx := by
              intro hb
              refine hL2 (j + 1) ⟨by omega, ?_⟩ (by omega)
              rw [htk2, List.any_append, hh]
              simp [hb]
            simp only [badL] at bad fine
            have hb := UInt8.toNat_lt ls[i][j]
            by_cases hlo : (ls[i][j].toNat : Int) < 97
            · simp only [decide_eq_true hlo, GdP_tf, q56z39, iPick_t, OP_some, IfP_true]
              exact bad (by simp [hlo])
            · simp only [decide_eq_false hlo, GdP_ff, idxS_S _ hjlt, OP_some, conv_int, bin_add, bin_geq]
              rw [wrapU8 (n := (n : Int)) (by omega) (by omega), wrapU8 (by omega) (by omega)]
              simp only [q56z39, iPick_f, OP_some, IfP_dec, bin_add, inc j (by omega), true_and]
              refine ⟨fun hge => bad ?_, fun hge => fine ?_⟩
              · rw [decide_eq_true (p := (n : Int) ≤ (ls[i][j].toNat : Int) - 97) (by omega)]; simp
              · rw [decide_eq_false hlo, decide_eq_false (by omega)]; rfl
          · have : j = ls[i].length := by omega
            subst this
            rw [List.take_length] at hh
            rw [q56z41]
            simp only [bin_add, OP_some, inc i (by omega), true_and]
            refine hL1 (i + 1) ⟨by omega, ?_⟩ (by omega)
            rw [htk, List.any_append, hg]
            simp [hh]
        · have : i = ls.length := by omega
          subst this
          rw [List.take_length] at hg
          rw [q56z42]
          exact hyes (by unfold seamsE; rw [hf, hg]; simp)
  by_cases hw : whyE k ps ls most = 0
  · exact key (fun h1 => absurd hw h1) hyes
  · refine callP_gc (v := .tuple #[.pointer none, I (whyE k ps ls most)]) (Ren.tuple (l := [fun _ => .pointer none, fun _ => I (whyE k ps ls most)]) (.cons (Ren.scal rfl) (.cons (Ren.scal rfl) .nil))) ?_ (hno hw)
    exact key (fun _ hx hex => ⟨rfl, hex⟩) (fun h1 => absurd h1 hw)

/-- The least seam equal to one. -/
def Lst (ps : List (Int × Int)) (s : List UInt8) : List UInt8 := leastF (freeP ps) 6 s.length s

theorem Lst_eq {ps : List (Int × Int)} {n : Nat} (hn : n ≤ 6) {s : List UInt8} (hs : letters n s) : leastF (frM (cmOf ps)) n s.length s = Lst ps s :=
  leastF_eq hn hs fun a b ha hb => frM_cmOf ps (by omega) (by omega)

theorem whyE_ok {k : Int} {ps : List (Int × Int)} {ls : List (List UInt8)} {most : Nat} (h : whyE k ps ls most = 0) : threadsOk k ps = true ∧ seamsE k ls most = 0 := by
  unfold whyE at h
  cases ht : threadsOk k ps with
  | false => rw [ht] at h; simp at h
  | true => rw [ht] at h; exact ⟨rfl, by simpa using h⟩

theorem mkS2 (s u : List UInt8) (h : Heap) : iMkSl 9 2 [.string ⟨#[]⟩] h [(0, 1, S s), (1, 1, S u)] = some (sl 9 h.length 0 2, h ++ [.arr 9 [S s, S u]]) := by
  simp [iMkSl, fillL, zrep, noTuple, vcells, Value.cells, setAt, S]

def equalV (k : Int) (ps : List (Int × Int)) (s u : List UInt8) : Value :=
  .tuple #[B (decide (whyE k ps [s, u] 40 = 0) && decide (Lst ps s = Lst ps u)), I (whyE k ps [s, u] 40)]

theorem C18 {ps : List (Int × Int)} {pv : Value} {s u : List UInt8} {k : Int} {h : Heap} {K : Value → Heap → Prop} (hp : PS h pv ps) (hl : ps.length ≤ 100) (hs : s.length ≤ 1000) (hu : u.length ≤ 1000)
    (hk : K (equalV k ps s u) h) : CallP Try.prog 18 [I k, pv, S s, S u] h K := by
  refine callP_gc (v := equalV k ps s u) (Ren.tuple (l := [fun _ => B _, fun _ => I _]) (.cons (Ren.scal rfl) (.cons (Ren.scal rfl) .nil))) ?_ hk
  refine f18 ?_
  simp only [T18, mkS2, OH_some]
  have hx : EX h (h ++ [.arr 9 [S s, S u]]) := EX.append _ _
  have hss : SS (h ++ [.arr 9 [S s, S u]]) (sl 9 h.length 0 2) [s, u] := SS.sl (ls := [s, u]) (by simp [objCells])
  refine C56 (most := 40) (hp.mono hx) hl hss (by simp) (by simp; exact ⟨hs, hu⟩) (fun hw => ?_) (fun hw => ?_)
  · have e0 : (#[.pointer none, I (whyE k ps [s, u] 40)] : Array Value)[0]? = some (.pointer none) := rfl
    have e1 : (#[.pointer none, I (whyE k ps [s, u] 40)] : Array Value)[1]? = some (I (whyE k ps [s, u] 40)) := rfl
    simp only [ext_tuple, e0, e1, OP_some, bin_neq, decide_eq_false hw, Bool.not_false, IfP_true]
    exact ⟨by unfold equalV; rw [decide_eq_false hw]; rfl, hx⟩
  · obtain ⟨ht, hse⟩ := whyE_ok hw
    obtain ⟨n, rfl, hn1, hn6⟩ := threadsOk_k ht
    have hok := seamsE_ok hse
    have ls := letters_of (hok s (by simp)).2
    have lu := letters_of (hok u (by simp)).2
    generalize hh1 : h ++ [.arr 9 [S s, S u]] = h1 at *
    have e0 : (#[pt h1.length 0, I 0] : Array Value)[0]? = some (pt h1.length 0) := rfl
    have e1 : (#[pt h1.length 0, I 0] : Array Value)[1]? = some (I 0) := rfl
    simp only [ext_tuple, e0, e1, OP_some, bin_neq, decide_true, Bool.not_true, IfP_false]
    have hth : TH (h1 ++ [.arr 138 (tcells n (cmOf ps))]) (pt h1.length 0) n (cmOf ps) := ⟨h1.length, rfl, by simp [objCells]⟩
    refine C57 (k := n) hth hn6 hs ls ?_
    refine C57 (k := n) hth hn6 hu lu ?_
    rw [Lst_eq hn6 ls, Lst_eq hn6 lu]
    simp only [bin_eqlS, OP_some]
    refine ⟨?_, hx.push _⟩
    unfold equalV
    rw [hw]
    simp

theorem C17 {s : List UInt8} {n : Nat} {h : Heap} {K : Value → Heap → Prop} (hk : K (S (s.take n)) h) : CallP Try.prog 17 [S s, I n] h K := by
  refine f17 ?_
  simp only [T17, lenS_S, OP_some, min2]
  have e : min (s.length : Int) (n : Int) = ((min s.length n : Nat) : Int) := by omega
  rw [e]
  rw [slS_hi s (by omega)]
  simp only [OP_some]
  have e2 : s.take (min s.length n) = s.take n := by
    rcases Nat.le_total s.length n with h | h
    · rw [Nat.min_eq_left h, List.take_length, List.take_of_length_le h]
    · rw [Nat.min_eq_right h]
  rw [e2]
  exact hk

/-- Pairs as they come in: a slice, or nil. -/
def PSl (h : Heap) (v : Value) (ps : List (Int × Int)) : Prop := (v = .slice none 0 0 ∧ ps = []) ∨ ∃ i, v = sl 98 i 0 ps.length ∧ (ps = [] ∨ objCells h i = some (pcells ps))

theorem PSl.mono {h h' : Heap} {v : Value} {ps : List (Int × Int)} (k : EX h h') (p : PSl h v ps) : PSl h' v ps :=
  p.imp id fun ⟨i, a, b⟩ => ⟨i, a, b.imp id fun b => k.cells b⟩

theorem pcells_take (ps : List (Int × Int)) (n : Nat) : (pcells ps).take (2 * n) = pcells (ps.take n) := by
  induction ps generalizing n with
  | nil => simp [pcells]
  | cons p ps ih =>
    cases n with
    | zero => simp [pcells]
    | succ n =>
      rw [show 2 * (n + 1) = 2 * n + 1 + 1 by omega]
      have := ih n
      simp only [pcells] at this ⊢
      simp [this]

theorem C16 {ps : List (Int × Int)} {pv : Value} {k : Int} {h : Heap} {K : Value → Heap → Prop} (hp : PSl h pv ps)
    (hk : K (.tuple #[I k, sl 98 h.length 0 (ps.take 31).length]) (h ++ [.arr 98 (pcells (ps.take 31))])) : CallP Try.prog 16 [.agg #[I k, pv]] h K := by
  refine callP_new (V := fun i => .tuple #[I k, sl 98 i 0 (ps.take 31).length]) (o := .arr 98 (pcells (ps.take 31))) (Ren.tuple (l := [fun _ => I k, fun i => sl 98 i 0 (ps.take 31).length]) (.cons (Ren.scal rfl) (.cons (Ren.sl _ _ _) .nil))) ?_ ?_ hk
  · have : ∀ l : List (Int × Int), (pcells l).all scal = true := by
      intro l
      induction l with
      | nil => rfl
      | cons p l ih => simp only [pcells] at ih ⊢; simp [ih, scal]
    exact this _
  · refine f16 ?_
    have e1 : iBox 24 h (.agg #[I k, pv]) = some (pt h.length 0, h ++ [.arr 24 [I k, pv]]) := rfl
    simp only [T16, e1, OH_some, fadr_pt, Nat.add_zero, OP_some, Nat.zero_add]
    have l0 : iLoad false 1 (h ++ [.arr 24 [I k, pv]]) (pt h.length 0) = some (I k) := load_last rfl
    have l1 : iLoad false 1 (h ++ [.arr 24 [I k, pv]]) (pt h.length 1) = some pv := load_last rfl
    have x1 : EX h (h ++ [.arr 24 [I k, pv]]) := EX.append _ _
    generalize hh1 : h ++ [IObj.arr 24 [I k, pv]] = h1 at *
    have hl1 : h1.length = h.length + 1 := by rw [← hh1]; simp
    have e2 : iMkSl 98 0 [.int .i64 0, .int .i64 0] h1 [] = some (sl 98 h1.length 0 0, h1 ++ [.arr 98 []]) := rfl
    simp only [l0, OP_some, e2, OH_some, true_and]
    have x2 : EX h1 (h1 ++ [.arr 98 []]) := EX.append _ _
    have hp2 := hp.mono (x1.trans x2)
    have l0' := EX.load x2 l0
    have l1' := EX.load x2 l1
    have hg2 : (h1 ++ [IObj.arr 98 []])[h1.length]? = some (.arr 98 []) := by simp
    generalize hh2 : h1 ++ [IObj.arr 98 []] = h2 at *
    have hl2 : h2.length = h1.length + 1 := by rw [← hh2]; simp
    refine ⟨⟨l0', trivial⟩, ?_⟩
    simp only [l1', OP_some, l1, true_and]
    have hlen : iLenSl pv = some (I ps.length) := by rcases hp with ⟨rfl, rfl⟩ | ⟨i, rfl, _⟩ <;> rfl
    have em : min (ps.length : Int) 31 = (((ps.take 31).length : Nat) : Int) := by rw [List.length_take]; omega
    have mm := min2 ps.length 31
    rw [em] at mm
    simp only [I] at mm hlen
    simp only [hlen, OP_some, mm, I]
    have done : ∀ hx, EX h2 hx → iLoad false 1 hx (pt h.length 0) = some (I k) := fun hx hex => EX.load hex l0'
    simp only [I] at done
    rcases hp2 with ⟨rfl, rfl⟩ | ⟨i, rfl, hc⟩
    · have es : iSlSl 98 2 (.slice none 0 0) none (some (.int .i64 (((([] : List (Int × Int)).take 31).length : Nat) : Int))) = some (.slice none 0 0) := rfl
      simp only [es, OP_some]
      have ea : iApp 98 2 16 h2 (sl 98 h1.length 0 0) (.slice none 0 0) = some (sl 98 h1.length 0 0, h2) := by
        simp [iApp, sliceCells, lenOfSl, sl, hg2]
      simp only [ea, OH_some]
      exact ⟨⟨l0', trivial⟩, x1.trans x2, h1.length, by omega, hg2, rfl⟩
    · have hm : (ps.take 31).length ≤ ps.length := by rw [List.length_take]; omega
      have es : iSlSl 98 2 (sl 98 i 0 ps.length) none (some (.int .i64 (((ps.take 31).length : Nat) : Int))) = some (sl 98 i 0 (ps.take 31).length) := by
        have : (ps.take 31).length ≤ ps.length := hm
        simp only [iSlSl, sl, if_true, iBounds, natOf]
        rw [if_pos (by omega), Int.toNat_natCast]
        simp
        omega
      simp only [es, OP_some]
      have hsc : sliceCells h2 2 (sl 98 i 0 (ps.take 31).length) = some (pcells (ps.take 31)) := by
        unfold sliceCells sl
        simp only
        by_cases hz : (ps.take 31).length = 0
        · rw [if_pos hz]
          have : ps.take 31 = [] := List.length_eq_zero_iff.1 hz
          rw [this]
          rfl
        · have hc := hc.resolve_left (by rintro rfl; simp at hz)
          rw [if_neg hz, hc]
          have hln := pcells_length ps
          simp only [Option.bind_some, Nat.zero_add, List.drop_zero]
          rw [if_pos (by omega)]
          have := pcells_take ps (ps.take 31).length
          rw [Nat.mul_comm] at this
          rw [this]
          congr 2
          rw [List.length_take]
          rcases Nat.le_total 31 ps.length with h | h
          · rw [Nat.min_eq_left h]
          · rw [Nat.min_eq_right h, List.take_length, List.take_of_length_le h]
      have hlo : lenOfSl (sl 98 i 0 (ps.take 31).length) = some (ps.take 31).length := rfl
      have h31 : (ps.take 31).length ≤ 31 := by rw [List.length_take]; omega
      by_cases hz : (ps.take 31).length = 0
      · have hnil : ps.take 31 = [] := List.length_eq_zero_iff.1 hz
        have ea : iApp 98 2 16 h2 (sl 98 h1.length 0 0) (sl 98 i 0 (ps.take 31).length) = some (sl 98 h1.length 0 0, h2) := by
          simp only [iApp, hsc, hlo]
          simp only [sl, hg2, hz]
          simp
        simp only [ea, OH_some]
        refine ⟨⟨l0', trivial⟩, x1.trans x2, h1.length, by omega, ?_, ?_⟩
        · rw [hg2, hnil]; rfl
        · rw [hz]
      · have ea : iApp 98 2 16 h2 (sl 98 h1.length 0 0) (sl 98 i 0 (ps.take 31).length) = some (sl 98 h2.length 0 (ps.take 31).length, h2.set h1.length .dead ++ [.arr 98 (pcells (ps.take 31))]) := by
          simp only [iApp, hsc, hlo]
          simp only [sl, hg2]
          rw [if_pos ⟨trivial, trivial, by simp, by simp only [Nat.zero_add]; omega, by simp only [Nat.zero_add, maxLen]; omega⟩, if_neg hz]
          simp
        simp only [ea, OH_some]
        have x3 : EX h (h2.set h1.length .dead ++ [.arr 98 (pcells (ps.take 31))]) := ((x1.trans x2).set (by omega) _).push _
        refine ⟨⟨?_, trivial⟩, x3, h2.length, by omega, ?_, rfl⟩
        · have : EX h1 (h2.set h1.length .dead ++ [.arr 98 (pcells (ps.take 31))]) := (x2.set (Nat.le_refl _) _).push _
          exact EX.load this l0
        · rw [List.getElem?_append_right (by simp)]
          simp

end Go.Proofs.Ytjdlcokhlphmhaa
