/-
  The law of the rest: a seam appended to another seam, and shuffled.
-/
import Derived.Test.YtjdlcokhlphmhaaCt16
namespace Go.Proofs.Ytjdlcokhlphmhaa
open Go.Sim

/-- Numbers as they come in: a slice, or nil. -/
def ISl (h : Heap) (v : Value) (ns : List Int) : Prop := (v = .slice none 0 0 ∧ ns = []) ∨ ∃ e i, v = sl e i 0 ns.length ∧ (ns = [] ∨ objCells h i = some (ns.map (Value.int .u8)))

theorem ISl.mono {h h' : Heap} {v : Value} {ns : List Int} (k : EX h h') (p : ISl h v ns) : ISl h' v ns :=
  p.imp id fun ⟨e, i, a, b⟩ => ⟨e, i, a, b.imp id fun b => k.cells b⟩

theorem ISl.ns {h : Heap} {v : Value} {ns : List Int} (p : ISl h v ns) (hl : ns.length ≤ maxLen) : NS h v .u8 ns := by
  rcases p with ⟨rfl, rfl⟩ | ⟨e, i, rfl, hc⟩
  · exact NS.nil _ _
  · exact NS.sl hc hl

theorem ISl.cells {h : Heap} {v : Value} {ns : List Int} (p : ISl h v ns) : sliceCells h 1 v = some (ns.map (Value.int .u8)) ∧ lenOfSl v = some ns.length := by
  rcases p with ⟨rfl, rfl⟩ | ⟨e, i, rfl, hc⟩
  · exact ⟨rfl, rfl⟩
  · refine ⟨?_, rfl⟩
    unfold sliceCells sl
    simp only
    by_cases hz : ns.length = 0
    · rw [if_pos hz]
      have : ns = [] := List.length_eq_zero_iff.1 hz
      subst this
      rfl
    · have hc := hc.resolve_left (by rintro rfl; simp at hz)
      rw [if_neg hz, hc]
      have ht : ((ns.map (Value.int .u8)).drop 0).take (ns.length * 1) = ns.map (Value.int .u8) := by
        rw [List.drop_zero, Nat.mul_one]; exact List.take_of_length_le (by simp)
      simp only [Option.bind_some]
      rw [if_pos (by simp), ht]

theorem appI {h0 hx : Heap} {v x : Value} {xs ns : List Int} {K : Value → Heap → Prop} (o : OwnS h0.length hx 5 v (xs.map (Value.int .u8))) (hv : v ≠ .slice none 0 0) (hex : EX h0 hx) (hIs : ISl hx x ns) (hb : xs.length + ns.length ≤ 4194304)
    (hk : ∀ v' hx', v' ≠ .slice none 0 0 → EX h0 hx' → OwnS h0.length hx' 5 v' ((xs ++ ns).map (Value.int .u8)) → K v' hx') : OH (iApp 5 1 1 hx v x) K := by
  obtain ⟨e1, e2⟩ := hIs.cells
  rcases o with ⟨rfl, _⟩ | ⟨i, hi, rfl, hg⟩
  · exact absurd rfl hv
  · have hlt := (List.getElem?_eq_some_iff.1 hg).1
    by_cases hz : ns.length = 0
    · have : ns = [] := List.length_eq_zero_iff.1 hz
      subst this
      refine OH_of (v := sl 5 i 0 (xs.map (Value.int .u8)).length) (h := hx) ?_ (hk _ _ hv hex (.inr ⟨i, hi, by simp, by simpa using hg⟩))
      simp only [iApp, e1, e2]
      simp only [sl, hg]
      rw [if_pos ⟨trivial, trivial, by simp, by simp at hb ⊢; omega, by simp [maxLen] at hb ⊢; omega⟩]
      simp
    · refine OH_of (v := sl 5 hx.length 0 ((xs ++ ns).map (Value.int .u8)).length) (h := hx.set i .dead ++ [.arr 5 ((xs ++ ns).map (Value.int .u8))]) ?_
        (hk _ _ (by unfold sl; intro h; cases h) ((hex.set hi _).push _) (.inr ⟨hx.length, hex.1, rfl, by rw [List.getElem?_append_right (by simp)]; simp⟩))
      simp only [iApp, e1, e2]
      simp only [sl, hg]
      rw [if_pos ⟨trivial, trivial, by simp, by simp at hb ⊢; omega, by simp [maxLen] at hb ⊢; omega⟩, if_neg hz]
      simp

theorem OwnS.ns {b : Nat} {hx : Heap} {e : TypeId} {v : Value} {xs : List Int} (o : OwnS b hx e v (xs.map (Value.int .u8))) (hl : xs.length ≤ maxLen) : NS hx v .u8 xs := by
  rcases o with ⟨rfl, h⟩ | ⟨i, _, rfl, hg⟩
  · have : xs = [] := by simpa using h
    subst this
    exact NS.nil _ _
  · have := NS.sl (h := hx) (e := e) (i := i) (k := .u8) (ns := xs) (.inr (by simp [objCells, hg])) hl
    simpa using this

theorem C13 {kk f : Int} {xv yv : Value} {ns ms : List Int} {h : Heap} {K : Value → Heap → Prop} (hk0 : 0 ≤ kk) (hk1 : kk < 256) (hx : ISl h xv ns) (hux : U8 ns) (hy : ISl h yv ms) (huy : U8 ms) (hlen : ns.length + ms.length ≤ 2097152)
    (hk : ∀ h', K (.bool true) h') : CallP Try.prog 13 [.agg #[.int .u8 kk, .int .u16 f], xv, yv] h K := by
  refine f13 ?_
  have e1 : iBox 54 h (.agg #[.int .u8 kk, .int .u16 f]) = some (pt h.length 0, h ++ [.arr 54 [.int .u8 kk, .int .u16 f]]) := rfl
  have e2 : iLoad true 2 (h ++ [.arr 54 [.int .u8 kk, .int .u16 f]]) (pt h.length 0) = some (.agg #[.int .u8 kk, .int .u16 f]) := by simp [iLoad, objCells, iPart]
  simp only [T13, e1, OH_some, e2, OP_some]
  have x1 : EX h (h ++ [.arr 54 [.int .u8 kk, .int .u16 f]]) := EX.append _ _
  have hx := hx.mono x1
  have hy := hy.mono x1
  generalize h ++ [IObj.arr 54 [.int .u8 kk, .int .u16 f]] = hA at hx hy ⊢
  refine C30 hk0 hk1 ?_
  intro n ps hn1 hn6 ht
  have x2 : EX hA (hA ++ [.arr 98 (pcells ps)]) := EX.append _ _
  have hx := hx.mono x2
  have hy := hy.mono x2
  obtain ⟨hg, _, _, hl30, _⟩ := threadsOk_good ht
  have hps : PS (hA ++ [.arr 98 (pcells ps)]) (sl 98 hA.length 0 ps.length) ps := PS.sl (by simp [objCells])
  simp only [ext_tuple, pair0, pair1, OP_some]
  generalize sl 98 hA.length 0 ps.length = qv at hps ⊢
  generalize hA ++ [IObj.arr 98 (pcells ps)] = hB at hx hy hps ⊢
  refine C31 (most := 20) hn1 hn6 (by omega) (hx.ns (by unfold maxLen; omega)) hux ?_
  intro s ls hs
  refine C31 (most := 20) hn1 hn6 (by omega) (hy.ns (by unfold maxLen; omega)) huy ?_
  intro r lr hr
  rw [bin_addS _ _ (by simp only [maxLen]; omega)]
  have mk : iMkSl 5 0 [.int .u8 0] hB [] = some (sl 5 hB.length 0 0, hB ++ [.arr 5 []]) := rfl
  simp only [OP_some, mk, OH_some]
  refine appI (h0 := hB) (xs := []) (.inr ⟨hB.length, Nat.le_refl _, rfl, by simp⟩) (by unfold sl; intro h; cases h) (EX.append _ _) (hx.mono (EX.append _ _)) (by simp; omega) ?_
  intro v1 h1 hv1 hex1 ho1
  refine appI (h0 := hB) (xs := [] ++ ns) ho1 hv1 hex1 (hy.mono hex1) (by simp; omega) ?_
  intro v2 h2 hv2 hex2 ho2
  have hps2 := hps.mono hex2
  refine C32e hps2 hg (by omega) (ho2.ns (by simp only [List.nil_append, List.length_append]; unfold maxLen; omega)) (by
    intro z hz
    rcases List.mem_append.1 hz with hz | hz
    · exact hux z (by simpa using hz)
    · exact huy z hz) (letters_append ls lr) (by simp; omega) ?_
  intro t lt' htl hte
  have htl : t.length = s.length + r.length := by simpa using htl
  have r6 := letters_le hn6 lr
  have s6 := letters_le hn6 ls
  have t6 := letters_le hn6 lt'
  have eR := Lst_eqv (ps := ps) r6
  have lR := Lst_letters (ps := ps) r6
  have b1 : eqv (freeP ps) 6 (s ++ r) t := hte.symm
  refine C51b hps2 hn6 ht ls lt' (by omega) (by omega) r6 b1 ?_
  simp only [siV, ext_tuple, pair0, pair1, OP_some]
  refine C41b hps2 hn6 ht lr (by omega) ?_
  simp only [siV, ext_tuple, pair0, pair1, OP_some, bin_neq, decide_true, Bool.not_true, q13z10, GdP_ff, q13z12, iPick_f, q13z14, bin_neqS, q13z16, q13z18]
  refine C20 ?_
  simp only [un_not, OP_some, Bool.not_true, q13z20, iPick_f, IfP_false]
  rw [bin_addS _ _ (by simp only [maxLen]; omega)]
  simp only [OP_some]
  have lsR : letters n (s ++ Lst ps r) := letters_append ls (Lst_lettersN hn6 lr)
  have hw : whyE n ps [s ++ Lst ps r, t] 40 = 0 := why2 hn6 ht lsR lt' (by simp; omega) (by omega)
  refine C18 hps2 (by omega) (by simp; omega) (by omega) ?_
  rw [equalV_ok hw]
  have is1 : decide (Lst ps (s ++ Lst ps r) = Lst ps t) = true := by
    rw [decide_eq_true_eq]
    exact (Lst_iff (letters_le hn6 lsR) t6).1 (((eqv.refl _ _ s).append eR).trans b1)
  rw [is1]
  simp only [ext_tuple, pair0, pair1, OP_some]
  refine C51 hps2 (by omega) (by omega) (by omega) ?_
  have key : restE n ps t s = if r = [] then siV [] 0 else siV [] 5 := by
    by_cases hr0 : r = []
    · subst hr0
      rw [if_pos rfl]
      rw [restE_begins hn6 ht lt' ls (by omega) (by omega) (r := []) (fun c hc => by simp at hc) (by rw [List.append_nil]; rw [List.append_nil] at b1; exact b1.symm)]
      rfl
    · rw [if_neg hr0]
      refine restE_not hn6 ht lt' ls (by omega) (by omega) ?_
      intro q lq hq
      have := eqv_length (freeP_symm ps) (letters_append t6 lq) s6 hq
      simp only [List.length_append] at this
      exact hr0 (List.length_eq_zero_iff.1 (by omega))
  rw [key]
  by_cases hr0 : r = []
  · rw [if_pos hr0]
    simp only [siV, ext_tuple, pair0, pair1, OP_some, q13z26, GdP_tt, bin_eql, decide_true, q13z28, iPick_t, q13z30, S_nil, bin_eqlS, decide_eq_true hr0, eqb_bool, Bool.false_eq_true, if_false, beq_self_eq_true, q13z32, q13z34, q13z36, GdP_tf, q13z38, q13z40]
    exact hk _
  · rw [if_neg hr0]
    simp only [siV, ext_tuple, pair0, pair1, OP_some, q13z26, GdP_tt, bin_eql, decide_true, show decide ((5 : Int) = 0) = false from rfl, q13z28, iPick_t, q13z30, S_nil, bin_eqlS, decide_eq_false hr0, eqb_bool, Bool.false_eq_true, if_false, beq_self_eq_true, q13z32, q13z34, q13z36, GdP_ff, q13z38, iPick_f, q13z40]
    exact hk _

end Go.Proofs.Ytjdlcokhlphmhaa
