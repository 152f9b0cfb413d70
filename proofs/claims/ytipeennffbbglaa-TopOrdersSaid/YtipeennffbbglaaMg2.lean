/-
  What follows a beginning: both sides; the law.
-/
import Derived.Test.YtipeennffbbglaaCtU
import Derived.Test.YtipeennffbbglaaSp2
namespace Go.Proofs.Ytipeennffbbglaa
open Go.Sim

def divF (fr : UInt8 → UInt8 → Bool) : List UInt8 → List UInt8 → Option (List UInt8)
  | [], u => some u
  | c :: cs, u => match firstAt fr c u 0 with
    | some i => divF fr cs (without u i)
    | none => none

theorem divF_congr {fr gr : UInt8 → UInt8 → Bool} {n : Nat} (hfr : ∀ a b, a < n → b < n → fr (lt a) (lt b) = gr (lt a) (lt b)) : ∀ {s u : List UInt8}, letters n s → letters n u → divF fr s u = divF gr s u
  | [], u, _, _ => rfl
  | c :: cs, u, hs, hu => by
    obtain ⟨b, hb, rfl⟩ := hs c (by simp)
    simp only [divF]
    rw [firstAt_congr (gr := gr) fun c hc => by obtain ⟨a, ha, rfl⟩ := hu c hc; exact hfr a b ha hb]
    split
    · exact divF_congr hfr (fun d hd => hs d (by simp [hd])) (letters_without hu _)
    · rfl

theorem divF_letters {fr : UInt8 → UInt8 → Bool} {n : Nat} : ∀ {s u r : List UInt8}, letters n u → divF fr s u = some r → letters n r ∧ r.length ≤ u.length
  | [], u, r, hu, h => by simp [divF] at h; subst h; exact ⟨hu, Nat.le_refl _⟩
  | c :: cs, u, r, hu, h => by
    simp only [divF] at h
    split at h
    · rename_i i hi
      obtain ⟨h1, h2⟩ := divF_letters (letters_without hu i) h
      have := without_length (firstAt_lt hi).1
      exact ⟨h1, by omega⟩
    · cases h

theorem letters_le {n m : Nat} (h : n ≤ m) {s : List UInt8} (hs : letters n s) : letters m s := fun c hc => let ⟨a, h1, h2⟩ := hs c hc; ⟨a, by omega, h2⟩

def divV (o : Option (List UInt8)) : Value := match o with | some r => .tuple #[S r, B true] | none => .tuple #[S [], B false]

def restV (fr : UInt8 → UInt8 → Bool) (ps : List (Int × Int)) (s u : List UInt8) : Value := divV ((divF fr s u).map (Lst ps))

/-- Rest's answer. -/
def restE (k : Int) (ps : List (Int × Int)) (s u : List UInt8) : Value :=
  if whyE k ps [s, u] 40 = 0 then (match divF (freeP ps) s u with | some r => .tuple #[S (Lst ps r), I 0] | none => .tuple #[S [], I 5]) else .tuple #[S [], I (whyE k ps [s, u] 40)]

theorem Ren.si (s : List UInt8) (n : Int) : Ren fun _ => .tuple #[S s, I n] := Ren.tuple (l := [fun _ => S s, fun _ => I n]) (.cons (Ren.scal rfl) (.cons (Ren.scal rfl) .nil))

theorem restE_ren (k : Int) (ps : List (Int × Int)) (s u : List UInt8) : Ren fun _ => restE k ps s u := by
  unfold restE
  split
  · split <;> exact Ren.si _ _
  · exact Ren.si _ _

end Go.Proofs.Ytipeennffbbglaa

/-
  Threads and seams derived from arbitrary numbers; a seam without all letters but two.
-/
namespace Go.Proofs.Ytipeennffbbglaa
open Go.Sim

/-- The numbers of a slice of small numbers. -/
def U8 (ns : List Int) : Prop := ∀ x ∈ ns, 0 ≤ x ∧ x < 256

theorem abc (i : Nat) (h : i < 6) : (([97, 98, 99, 100, 101, 102] : List UInt8).take (i + 1)).drop i = [lt i] := by
  have : i = 0 ∨ i = 1 ∨ i = 2 ∨ i = 3 ∨ i = 4 ∨ i = 5 := by omega
  rcases this with rfl | rfl | rfl | rfl | rfl | rfl <;> rfl

/-- Two letters side by side, exchanged. -/
def swapAt (s : List UInt8) (i : Nat) : List UInt8 := s.take i ++ (s.take (i + 2)).drop (i + 1) ++ (s.take (i + 1)).drop i ++ s.drop (i + 2)

theorem swapAt_length {s : List UInt8} {i : Nat} (h : i + 1 < s.length) : (swapAt s i).length = s.length := by
  simp [swapAt]; omega

theorem swapAt_letters {n : Nat} {s : List UInt8} (h : letters n s) (i : Nat) : letters n (swapAt s i) := by
  intro c hc
  simp only [swapAt, List.mem_append] at hc
  rcases hc with ((hc | hc) | hc) | hc
  · exact h c (List.mem_of_mem_take hc)
  · exact h c (List.mem_of_mem_take (List.mem_of_mem_drop hc))
  · exact h c (List.mem_of_mem_take (List.mem_of_mem_drop hc))
  · exact h c (List.mem_of_mem_drop hc)

theorem swapT {t : List UInt8} {i : Nat} {K : Value → Prop} (hi : i + 1 < t.length) (ht : t.length ≤ 1000) (hk : K (S (swapAt t i))) :
    OP (iSlS (S t) none (some (I i))) fun x40 => OP (iBin .add (I i) (.int .i64 1)) fun x43 => OP (iBin .add (I i) (.int .i64 2)) fun x45 => OP (iSlS (S t) (some x43) (some x45)) fun x46 => OP (iBin .add x40 x46) fun x47 =>
      OP (iBin .add (I i) (.int .i64 1)) fun x51 => OP (iSlS (S t) (some (I i)) (some x51)) fun x52 => OP (iBin .add x47 x52) fun x53 => OP (iBin .add (I i) (.int .i64 2)) fun x56 => OP (iSlS (S t) (some x56) none) fun x57 => OP (iBin .add x53 x57) K := by
  have e2 : IntKind.wrap .i64 ((i : Int) + 2) = ((i + 2 : Nat) : Int) := by rw [wrap64 (by omega) (by omega)]; omega
  rw [slS_hi t (by omega)]
  simp only [OP_some, bin_add, inc i (by omega), e2]
  rw [slS_lh t (by omega) (by omega)]
  simp only [OP_some]
  rw [bin_addS _ _ (by simp only [List.length_take, List.length_drop, maxLen]; omega)]
  simp only [OP_some]
  rw [slS_lh t (by omega) (by omega)]
  simp only [OP_some]
  rw [bin_addS _ _ (by simp only [List.length_append, List.length_take, List.length_drop, maxLen]; omega)]
  simp only [OP_some]
  rw [slS_lo t (by omega)]
  simp only [OP_some]
  rw [bin_addS _ _ (by simp only [List.length_append, List.length_take, List.length_drop, maxLen]; omega)]
  exact OP_some.2 hk

theorem plain_pcells (ps : List (Int × Int)) : plainObj (.arr 26 (pcells ps)) = true := by
  induction ps with
  | nil => rfl
  | cons p ps ih => simp only [plainObj, pcells] at ih ⊢; simp [ih, scal]

theorem app_pair {h0 hx : Heap} {id : Nat} {ps : List (Int × Int)} {a b : Int} {K : Value → Heap → Prop} (hex : EX h0 hx) (hid : h0.length ≤ id) (hg : hx[id]? = some (.arr 26 (pcells ps))) (hl : ps.length ≤ 1000)
    (hk : ∀ id' hx', EX h0 hx' → h0.length ≤ id' → hx'[id']? = some (.arr 26 (pcells (ps ++ [(a, b)]))) → K (sl 26 id' 0 (ps ++ [(a, b)]).length) hx') :
    OP (iBuild [.int .i64 0, .int .i64 0] [(0, 1, I a), (1, 1, I b)]) fun x36 => OH (iMkSl 26 1 [.int .i64 0, .int .i64 0] hx [(0, 2, x36)]) fun x37 h_1 => OH (iApp 26 2 16 h_1 (sl 26 id 0 ps.length) x37) K := by
  have e0 : iBuild [.int .i64 0, .int .i64 0] [(0, 1, I a), (1, 1, I b)] = some (.agg #[I a, I b]) := rfl
  have e1 : iMkSl 26 1 [.int .i64 0, .int .i64 0] hx [(0, 2, .agg #[I a, I b])] = some (sl 26 hx.length 0 1, hx ++ [.arr 26 [I a, I b]]) := rfl
  simp only [e0, OP_some, e1, OH_some]
  have e2 : sliceCells (hx ++ [.arr 26 [I a, I b]]) 2 (sl 26 hx.length 0 1) = some [I a, I b] := by simp [sliceCells, sl, objCells]
  have e3 : lenOfSl (sl 26 hx.length 0 1) = some 1 := rfl
  have hlt := (List.getElem?_eq_some_iff.1 hg).1
  have hg' : (hx ++ [.arr 26 [I a, I b]])[id]? = some (.arr 26 (pcells ps)) := by rw [List.getElem?_append_left hlt]; exact hg
  have hpl := pcells_length ps
  have hpp : pcells (ps ++ [(a, b)]) = pcells ps ++ [I a, I b] := by simp [pcells]
  refine OH_of (v := sl 26 (hx.length + 1) 0 (ps ++ [(a, b)]).length) (h := (hx ++ [IObj.arr 26 [I a, I b]]).set id IObj.dead ++ [IObj.arr 26 (pcells (ps ++ [(a, b)]))]) ?_
    (hk _ _ (((hex.push _).set hid _).push _) (by have := hex.1; omega) (by rw [List.getElem?_append_right (by simp)]; simp))
  simp only [iApp, e2, e3]
  simp only [sl, hg']
  rw [if_pos ⟨trivial, trivial, by omega, by omega, by unfold maxLen; omega⟩, if_neg (by omega), hpp]
  simp

end Go.Proofs.Ytipeennffbbglaa

/-
  The law S2: two seams are equal exactly if they are the same without all letters but two that do not commute.
-/
namespace Go.Proofs.Ytipeennffbbglaa
open Go.Sim

theorem freeP_symm (ps : List (Int × Int)) (a b : UInt8) : freeP ps a b = freeP ps b a := by
  unfold freeP
  refine any_congr' fun p _ => ?_
  unfold hit
  rw [Bool.or_comm]

theorem letters_not_bad {n : Nat} {s : List UInt8} (hn : n ≤ 6) (h : letters n s) : s.any (badL n) = false := by
  rw [List.any_eq_false]
  intro c hc
  obtain ⟨a, ha, rfl⟩ := h c hc
  have := lt_toNat (a := a) (by omega)
  simp only [badL, this]
  simp
  omega

theorem whyE_zero {n : Nat} {ps : List (Int × Int)} {ls : List (List UInt8)} {most : Nat} (hn : n ≤ 6) (ht : threadsOk n ps = true) (h : ∀ s ∈ ls, letters n s ∧ s.length ≤ most) : whyE n ps ls most = 0 := by
  unfold whyE seamsE
  rw [ht, if_pos rfl]
  have h1 : ls.any (fun s => decide (most < s.length)) = false := by
    rw [List.any_eq_false]; intro s hs; have := (h s hs).2; simp; omega
  have h2 : ls.any (fun s => s.any (badL n)) = false := by
    rw [List.any_eq_false]; intro s hs; rw [letters_not_bad hn (h s hs).1]; simp
  rw [h1, h2]
  rfl

/-- Equal's answer at valid seams. -/
theorem equalV_ok {n : Nat} {ps : List (Int × Int)} {s u : List UInt8} (h : whyE n ps [s, u] 40 = 0) : equalV n ps s u = .tuple #[B (decide (Lst ps s = Lst ps u)), I 0] := by
  unfold equalV
  rw [h]
  simp

theorem Lst_only {ps : List (Int × Int)} {s t : List UInt8} {n : Nat} (hn : n ≤ 6) (hs : letters n s) (ht : letters n t) :
    Lst ps s = Lst ps t ↔ ∀ a d, a ≤ d → d < n → dep (freeP ps) (lt a) (lt d) → only (lt a) (lt d) s = only (lt a) (lt d) t := by
  have l1 : leastF (freeP ps) n s.length s = Lst ps s := leastF_eq hn hs fun _ _ _ _ => rfl
  have l2 : leastF (freeP ps) n t.length t = Lst ps t := leastF_eq hn ht fun _ _ _ _ => rfl
  constructor
  · intro h a d _ _ had
    rw [← l1, ← l2] at h
    rw [← only_leastF (freeP_symm ps) had s.length s hs rfl, ← only_leastF (freeP_symm ps) had t.length t ht rfl, h]
  · intro h
    rw [← l1, ← l2]
    obtain ⟨q1, q2⟩ := leastF_of_only (freeP_symm ps) s.length s t hs ht rfl fun a d ha hd had => by
      rcases Nat.le_total a d with h1 | h1
      · exact h a d h1 hd had
      · rw [only_comm (lt a), only_comm (lt a)]
        refine h d a h1 ha ?_
        rcases had with h2 | h2
        · exact .inl h2.symm
        · exact .inr (by rw [freeP_symm]; exact h2)
    rw [q2, q1]

/-- What the law's two loops find. -/
def wantF (ps : List (Int × Int)) (s t : List UInt8) (n a d : Nat) : Prop :=
  (∀ b e, b < a → b ≤ e → e < n → dep (freeP ps) (lt b) (lt e) → only (lt b) (lt e) s = only (lt b) (lt e) t) ∧ (∀ e, a ≤ e → e < d → e < n → dep (freeP ps) (lt a) (lt e) → only (lt a) (lt e) s = only (lt a) (lt e) t)

theorem sub97 {a : Nat} (h : a < 100) : IntKind.wrap .u8 (((lt a).toNat : Int) - 97) = (a : Int) := by
  rw [lt_toNat h, wrapU8 (by omega) (by omega)]
  omega

end Go.Proofs.Ytipeennffbbglaa
