/-
  Seams that are equal by construction; what Rest, Meet and Join answer at valid seams; Levi's law.
-/
import Derived.Test.YtjdlcokhlphmhaaCt12
namespace Go.Proofs.Ytjdlcokhlphmhaa
open Go.Sim

theorem swap_eqv {ps : List (Int × Int)} {t : List UInt8} {j : Nat} (hj : j + 1 < t.length) (hf : freeP ps (t[j]'(by omega)) t[j + 1] = true) : eqv (freeP ps) 6 (swapAt t j) t := by
  have e1 : (t.take (j + 1)).drop j = [t[j]'(by omega)] := take_drop_one (by omega)
  have e2 : (t.take (j + 2)).drop (j + 1) = [t[j + 1]] := take_drop_one hj
  have e3 : t = t.take j ++ ([t[j]'(by omega)] ++ [t[j + 1]]) ++ t.drop (j + 2) := by
    have h1 : t = t.take j ++ t.drop j := (List.take_append_drop j t).symm
    have h2 : t.drop j = t[j]'(by omega) :: t.drop (j + 1) := List.drop_eq_getElem_cons (by omega)
    have h3 : t.drop (j + 1) = t[j + 1] :: t.drop (j + 2) := List.drop_eq_getElem_cons hj
    rw [h3] at h2
    conv => lhs; rw [h1, h2]
    simp
  have e4 : swapAt t j = t.take j ++ ([t[j + 1]] ++ [t[j]'(by omega)]) ++ t.drop (j + 2) := by
    unfold swapAt
    rw [e1, e2]
    simp
  by_cases hx : t[j]'(by omega) = t[j + 1]
  · have : swapAt t j = t := by
      rw [e4]
      conv => rhs; rw [e3]
      rw [hx]
    rw [this]
    exact eqv.refl _ _ _
  · rw [e4]
    conv => arg 4; rw [e3]
    refine ((eqv.refl _ _ _).append (eqv.symm (eqv_comm (freeP_symm ps) ?_))).append (eqv.refl _ _ _)
    intro c hc e he
    rw [List.mem_singleton] at hc he
    subst hc
    subst he
    exact ⟨hx, hf⟩

/-- A seam shuffled is an equal seam. -/
theorem C32e {ps : List (Int × Int)} {pv bv : Value} {n : Nat} {s : List UInt8} {ns : List Int} {h : Heap} {K : Value → Heap → Prop} (hp : PS h pv ps) (hg : good ps) (hl : ps.length ≤ 100) (hb : NS h bv .u8 ns) (hu : U8 ns) (hs : letters n s) (hls : s.length ≤ 1000)
    (hk : ∀ t, letters n t → t.length = s.length → eqv (freeP ps) 6 t s → K (S t) h) : CallP Try.prog 32 [pv, S s, bv] h K := by
  refine f32 ?_
  refine loopL (σ := List UInt8 × Nat) (fun p => [S p.1, I p.2]) (fun _ => h) (fun p => letters n p.1 ∧ p.1.length = s.length ∧ eqv (freeP ps) 6 p.1 s ∧ p.2 ≤ ns.length) (fun p => ns.length - p.2) (s, 0) rfl rfl ⟨hs, rfl, eqv.refl _ _ _, by omega⟩ ?_
  rintro ⟨t, i⟩ ⟨ht, htl, hte, hi⟩ L hL
  simp only at ht htl hte hi hL ⊢
  rw [q32z5]
  simp only [hb.len, OP_some, bin_lss, q32z9]
  have done : p32z17 Try.prog K (S t) h := by rw [q32z17]; exact hk t ht htl hte
  have hmax := hb.le
  by_cases h1 : (i : Int) < ns.length
  · have next : ∀ t', letters n t' → t'.length = s.length → eqv (freeP ps) 6 t' s → p32z16 Try.prog K pv (S t') bv (I i) L h := by
      intro t' h2 h3 h4
      simp only [q32z16, bin_add, OP_some, incM i (by omega), true_and]
      exact hL (t', i + 1) ⟨h2, h3, h4, by show i + 1 ≤ ns.length; omega⟩ (by simp; omega)
    simp only [decide_eq_true h1, GdP_tt, lenS_S, OP_some, bin_gtr, q32z11, iPick_t, IfP_dec]
    refine ⟨fun h2 => ?_, fun _ => done⟩
    obtain ⟨b, o, g1, g2⟩ := hb.get i (by omega)
    obtain ⟨u1, u2⟩ := hu _ (List.getElem_mem (show i < ns.length by omega))
    generalize ns[i] = m at g2 u1 u2
    obtain ⟨m, rfl⟩ : ∃ j : Nat, m = j := ⟨m.toNat, by omega⟩
    simp only [g1, OP_some, g2, conv_int, bin_sub]
    have e1 : IntKind.wrap .i64 ((t.length : Int) - 1) = ((t.length - 1 : Nat) : Int) := by rw [wrap64 (by omega) (by omega)]; omega
    rw [wrap64 (by omega) (by omega), e1, rem_nat _ _ _ (by omega)]
    have hr : m % (t.length - 1) < t.length - 1 := Nat.mod_lt _ (by omega)
    generalize m % (t.length - 1) = j at hr
    simp only [OP_some]
    rw [idxS_S t (by omega)]
    simp only [OP_some, bin_add, inc j (by omega)]
    rw [idxS_S t (by omega)]
    simp only [OP_some]
    refine C33 hp hg hl ?_
    refine ⟨trivial, IfP_of (fun hfr => ?_) fun _ => next t ht htl hte⟩
    have := swapT (t := t) (i := j) (K := fun x58 => p32z16 Try.prog K pv x58 bv (I i) L h) (by omega) (by omega) (next _ (swapAt_letters ht j) (by rw [swapAt_length (by omega)]; exact htl) ((swap_eqv (by omega) hfr).trans hte))
    simpa only [bin_add, OP_some, inc j (by omega)] using this
  · simp only [decide_eq_false h1, GdP_ft, q32z11, iPick_f, OP_some, IfP_false]
    exact done

theorem letters_eqv {fr : UInt8 → UInt8 → Bool} {n : Nat} {s t : List UInt8} (ls : letters 6 s) (lt' : letters n t) (h : eqv fr 6 s t) : letters n s := fun c hc => lt' c (mem_iff_of_eqv ls h c hc)

theorem Lst_lettersN {ps : List (Int × Int)} {n : Nat} {s : List UInt8} (hn : n ≤ 6) (ls : letters n s) : letters n (Lst ps s) :=
  letters_eqv (Lst_letters (letters_le hn ls)).1 ls (Lst_eqv (letters_le hn ls))

theorem MeetR.lettersN {ps : List (Int × Int)} {n : Nat} {s u m a b : List UInt8} (h : MeetR ps 6 s u m a b) (ls : letters n s) (lu : letters n u) : letters n m ∧ letters n a ∧ letters n b := by
  have h1 := letters_eqv (letters_append h.lm h.la) ls h.ea
  have h2 := letters_eqv (letters_append h.lm h.lb) lu h.eb
  exact ⟨letters_left h1, letters_right h1, letters_right h2⟩

theorem restE_begins {n : Nat} {ps : List (Int × Int)} {s t r : List UInt8} (hn : n ≤ 6) (ht : threadsOk n ps = true) (ls : letters n s) (lt' : letters n t) (hs : s.length ≤ 40) (htl : t.length ≤ 40) (lr : letters 6 r) (h : eqv (freeP ps) 6 (s ++ r) t) :
    restE n ps s t = siV (Lst ps r) 0 := by
  obtain ⟨r', h1, h2, h3⟩ := divG_complete (freeP_symm ps) (letters_le hn ls) (letters_le hn lt') lr h
  have hw : whyE n ps [s, t] 40 = 0 := whyE_zero hn ht (by intro u hu; simp at hu; rcases hu with rfl | rfl; exact ⟨ls, hs⟩; exact ⟨lt', htl⟩)
  unfold restE
  rw [hw, if_pos rfl, divG_eq, h1]
  simp only [siV]
  rw [(Lst_iff h3 lr).1 h2]

theorem restE_not {n : Nat} {ps : List (Int × Int)} {s t : List UInt8} (hn : n ≤ 6) (ht : threadsOk n ps = true) (ls : letters n s) (lt' : letters n t) (hs : s.length ≤ 40) (htl : t.length ≤ 40) (h : ∀ r, letters 6 r → ¬ eqv (freeP ps) 6 (s ++ r) t) :
    restE n ps s t = siV [] 5 := by
  have hw : whyE n ps [s, t] 40 = 0 := whyE_zero hn ht (by intro u hu; simp at hu; rcases hu with rfl | rfl; exact ⟨ls, hs⟩; exact ⟨lt', htl⟩)
  unfold restE
  rw [hw, if_pos rfl, divG_eq]
  cases hd : divG (freeP ps) s t with
  | none => rfl
  | some r => exact absurd (divG_sound (freeP_symm ps) hd) (h r (divG_letters' (letters_le hn lt') hd))

/-- Rest, Meet and Join where all is valid. -/
theorem C51b {ps : List (Int × Int)} {pv : Value} {s t r : List UInt8} {n : Nat} {h : Heap} {K : Value → Heap → Prop} (hp : PS h pv ps) (hn : n ≤ 6) (ht : threadsOk n ps = true) (ls : letters n s) (lt' : letters n t) (hs : s.length ≤ 40) (htl : t.length ≤ 40)
    (lr : letters 6 r) (he : eqv (freeP ps) 6 (s ++ r) t) (hk : K (siV (Lst ps r) 0) h) : CallP Try.prog 51 [I n, pv, S s, S t] h K := by
  have hl := (threadsOk_good ht).2.2.2.1
  refine C51 hp (by omega) (by omega) (by omega) ?_
  rw [restE_begins hn ht ls lt' hs htl lr he]
  exact hk

theorem why2 {n : Nat} {ps : List (Int × Int)} {s t : List UInt8} (hn : n ≤ 6) (ht : threadsOk n ps = true) (ls : letters n s) (lt' : letters n t) (hs : s.length ≤ 40) (htl : t.length ≤ 40) : whyE n ps [s, t] 40 = 0 :=
  whyE_zero hn ht (by intro u hu; simp at hu; rcases hu with rfl | rfl; exact ⟨ls, hs⟩; exact ⟨lt', htl⟩)

theorem C47b {ps : List (Int × Int)} {pv : Value} {s t : List UInt8} {n : Nat} {h : Heap} {K : Value → Heap → Prop} (hp : PS h pv ps) (hn : n ≤ 6) (ht : threadsOk n ps = true) (ls : letters n s) (lt' : letters n t) (hs : s.length ≤ 40) (htl : t.length ≤ 40)
    (hk : ∀ m a b, MeetR ps 6 s t m a b → K (siV (Lst ps m) 0) h) : CallP Try.prog 47 [I n, pv, S s, S t] h K := by
  have hl := (threadsOk_good ht).2.2.2.1
  exact C47 hp (by omega) (by omega) (by omega) (fun hw => absurd (why2 hn ht ls lt' hs htl) hw) fun _ => hk

theorem C48b {ps : List (Int × Int)} {pv : Value} {s t : List UInt8} {n : Nat} {h : Heap} {K : Value → Heap → Prop} (hp : PS h pv ps) (hn : n ≤ 6) (ht : threadsOk n ps = true) (ls : letters n s) (lt' : letters n t) (hs : s.length ≤ 40) (htl : t.length ≤ 40)
    (hk : ∀ m a b, MeetR ps 6 s t m a b → K (joinV ps m a b) h) : CallP Try.prog 48 [I n, pv, S s, S t] h K := by
  have hl := (threadsOk_good ht).2.2.2.1
  exact C48 hp (by omega) (by omega) (by omega) (fun hw => absurd (why2 hn ht ls lt' hs htl) hw) fun _ => hk

end Go.Proofs.Ytjdlcokhlphmhaa
