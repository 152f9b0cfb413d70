/-
  What two seams have in common, and what both begin: both sides.
-/
import Derived.Test.YtipeennffbbglaaMg2
import Derived.Test.YtipeennffbbglaaSp3
import Derived.Test.YtipeennffbbglaaCtV
namespace Go.Proofs.Ytipeennffbbglaa
open Go.Sim

theorem divG_eq (fr : UInt8 → UInt8 → Bool) : ∀ s u : List UInt8, divF fr s u = divG fr s u
  | [], u => rfl
  | c :: cs, u => by
    simp only [divF, divG]
    cases firstAt fr c u 0 with
    | none => rfl
    | some i => exact divG_eq fr cs _

theorem firstAt_cm {ps : List (Int × Int)} {s : List UInt8} {b : Nat} (hs : letters 6 s) (hb : b < 6) : firstAt (frM (cmOf ps)) (lt b) s 0 = firstAt (freeP ps) (lt b) s 0 :=
  firstAt_congr fun c hc => by obtain ⟨a, ha, rfl⟩ := hs c hc; exact frM_cmOf ps (by omega) (by omega)

/-- A common beginning of two seams, and what follows it in each. -/
structure MeetI (ps : List (Int × Int)) (n : Nat) (s u m a b : List UInt8) : Prop where
  lm : letters n m
  la : letters n a
  lb : letters n b
  ea : eqv (freeP ps) 6 (m ++ a) s
  eb : eqv (freeP ps) 6 (m ++ b) u

theorem MeetI.start {ps : List (Int × Int)} {n : Nat} {s u : List UInt8} (hs : letters n s) (hu : letters n u) : MeetI ps n s u [] s u :=
  ⟨fun c hc => by simp at hc, hs, hu, eqv.refl _ _ _, eqv.refl _ _ _⟩

theorem MeetI.step {ps : List (Int × Int)} {n : Nat} {s u m a b : List UInt8} (h : MeetI ps n s u m a b) {c i j : Nat} (hc : c < n) (hi : firstAt (freeP ps) (lt c) a 0 = some i) (hj : firstAt (freeP ps) (lt c) b 0 = some j) :
    MeetI ps n s u (m ++ [lt c]) (without a i) (without b j) := by
  refine ⟨letters_append h.lm fun d hd => ⟨c, hc, by simpa using hd⟩, letters_without h.la i, letters_without h.lb j, ?_, ?_⟩
  · rw [List.append_assoc]
    exact ((eqv.refl _ _ m).append (eqv_front (freeP_symm ps) hi)).trans h.ea
  · rw [List.append_assoc]
    exact ((eqv.refl _ _ m).append (eqv_front (freeP_symm ps) hj)).trans h.eb

/-- The longest one. -/
structure MeetR (ps : List (Int × Int)) (n : Nat) (s u m a b : List UInt8) : Prop extends MeetI ps n s u m a b where
  ap : apartF (freeP ps) 6 a b

theorem MeetI.len {ps : List (Int × Int)} {n : Nat} {s u m a b : List UInt8} (h : MeetI ps n s u m a b) (hn : n ≤ 6) (hs : letters n s) (hu : letters n u) : m.length + a.length = s.length ∧ m.length + b.length = u.length := by
  have h1 := eqv_length (freeP_symm ps) (letters_append (letters_le hn h.lm) (letters_le hn h.la)) (letters_le hn hs) h.ea
  have h2 := eqv_length (freeP_symm ps) (letters_append (letters_le hn h.lm) (letters_le hn h.lb)) (letters_le hn hu) h.eb
  simp at h1 h2
  omega

theorem MeetR.six {ps : List (Int × Int)} {n : Nat} {s u m a b : List UInt8} (h : MeetR ps n s u m a b) (hn : n ≤ 6) : MeetR ps 6 s u m a b :=
  ⟨⟨letters_le hn h.lm, letters_le hn h.la, letters_le hn h.lb, h.ea, h.eb⟩, h.ap⟩

theorem first_mem {fr : UInt8 → UInt8 → Bool} {x : UInt8} {s : List UInt8} (h : first fr x s) : x ∈ s := by
  obtain ⟨i, hi⟩ := h
  obtain ⟨u, v, e, _, _⟩ := firstAt_split hi
  rw [e]; simp

end Go.Proofs.Ytipeennffbbglaa

/-
  Meet and Join, both sides; the law.
-/
namespace Go.Proofs.Ytipeennffbbglaa
open Go.Sim

theorem Lst_iff {ps : List (Int × Int)} {s t : List UInt8} (ls : letters 6 s) (lt' : letters 6 t) : eqv (freeP ps) 6 s t ↔ Lst ps s = Lst ps t := eqv_iff (freeP_symm ps) ls lt'
theorem Lst_eqv {ps : List (Int × Int)} {s : List UInt8} (ls : letters 6 s) : eqv (freeP ps) 6 (Lst ps s) s := eqv_least (freeP_symm ps) ls
theorem Lst_letters {ps : List (Int × Int)} {s : List UInt8} (ls : letters 6 s) : letters 6 (Lst ps s) ∧ (Lst ps s).length = s.length := leastF_letters ls rfl

/-- Each letter of one commutes with each letter of the other. -/
def freeAll (fr : UInt8 → UInt8 → Bool) (a b : List UInt8) : Bool := a.all fun c => b.all fun d => fr c d

theorem freeAll_iff {fr : UInt8 → UInt8 → Bool} {a b : List UInt8} : freeAll fr a b = true ↔ ∀ c ∈ a, ∀ d ∈ b, fr c d = true := by
  simp [freeAll, List.all_eq_true]

theorem mem_iff_of_eqv {fr : UInt8 → UInt8 → Bool} {n : Nat} {s t : List UInt8} (ls : letters n s) (h : eqv fr n s t) : ∀ c ∈ s, c ∈ t := by
  intro c hc
  obtain ⟨a, ha, rfl⟩ := ls c hc
  exact mem_only_of_eqv ha h hc

theorem freeAll_congr {fr : UInt8 → UInt8 → Bool} {n : Nat} {a b a' b' : List UInt8} (la : letters n a) (lb : letters n b) (la' : letters n a') (lb' : letters n b') (h1 : eqv fr n a a') (h2 : eqv fr n b b') : freeAll fr a b = freeAll fr a' b' := by
  rw [Bool.eq_iff_iff, freeAll_iff, freeAll_iff]
  exact ⟨fun h c hc d hd => h c (mem_iff_of_eqv la' h1.symm c hc) d (mem_iff_of_eqv lb' h2.symm d hd), fun h c hc d hd => h c (mem_iff_of_eqv la h1 c hc) d (mem_iff_of_eqv lb h2 d hd)⟩

theorem MeetR.unique {ps : List (Int × Int)} {s u m a b m' a' b' : List UInt8} (ls : letters 6 s) (lu : letters 6 u) (h : MeetR ps 6 s u m a b) (k : MeetR ps 6 s u m' a' b') :
    eqv (freeP ps) 6 m m' ∧ eqv (freeP ps) 6 a a' ∧ eqv (freeP ps) 6 b b' := by
  have hm := meet_unique (freeP_symm ps) h.lm k.lm h.la h.lb k.la k.lb ls lu h.ea h.eb h.ap k.ea k.eb k.ap
  refine ⟨hm, ?_, ?_⟩
  · exact eqv.cancel (u := m) (h.ea.trans (k.ea.symm.trans (hm.symm.append (eqv.refl _ _ a'))))
  · exact eqv.cancel (u := m) (h.eb.trans (k.eb.symm.trans (hm.symm.append (eqv.refl _ _ b'))))

def sbV (s : List UInt8) (e : Bool) : Value := .tuple #[S s, B e]

def joinV (ps : List (Int × Int)) (m a b : List UInt8) : Value := if freeAll (freeP ps) a b then siV (Lst ps (m ++ a ++ b)) 0 else siV [] 5

def joinB (ps : List (Int × Int)) (m a b : List UInt8) : Value := if freeAll (freeP ps) a b then sbV (Lst ps (m ++ a ++ b)) true else sbV [] false

end Go.Proofs.Ytipeennffbbglaa

/-
  Seams that are equal by construction; what Rest, Meet and Join answer at valid seams; Levi's law.
-/
namespace Go.Proofs.Ytipeennffbbglaa
open Go.Sim

theorem swap_eqv {ps : List (Int × Int)} {t : List UInt8} {j : Nat} (hj : j + 1 < t.length) (hf : freeP ps (t[j]'(by omega)) t[j + 1] = true) : eqv (freeP ps) 6 (swapAt t j) t := by
  have e1 : (t.take (j + 1)).drop j = [t[j]'(by omega)] := take_drop_one (by omega)
  have e2 : (t.take (j + 2)).drop (j + 1) = [t[j + 1]] := take_drop_one hj
  have e3 : t = t.take j ++ ([t[j]'(by omega)] ++ [t[j + 1]]) ++ t.drop (j + 2) := by
    have h1 : t = t.take j ++ t.drop j := (List.take_append_drop j t).symm
    have h2 : t.drop j = t[j]'(by omega) :: t.drop (j + 1) := List.drop_eq_getElem_cons (by omega)
    have h3 : t.drop (j + 1) = t[j + 1] :: t.drop (j + 2) := List.drop_eq_getElem_cons hj
    rw [h3] at h2
    conv => lhs; rw [h1, h2]
    simp
  have e4 : swapAt t j = t.take j ++ ([t[j + 1]] ++ [t[j]'(by omega)]) ++ t.drop (j + 2) := by
    unfold swapAt
    rw [e1, e2]
    simp
  by_cases hx : t[j]'(by omega) = t[j + 1]
  · have : swapAt t j = t := by
      rw [e4]
      conv => rhs; rw [e3]
      rw [hx]
    rw [this]
    exact eqv.refl _ _ _
  · rw [e4]
    conv => arg 4; rw [e3]
    refine ((eqv.refl _ _ _).append (eqv.symm (eqv_comm (freeP_symm ps) ?_))).append (eqv.refl _ _ _)
    intro c hc e he
    rw [List.mem_singleton] at hc he
    subst hc
    subst he
    exact ⟨hx, hf⟩

theorem letters_eqv {fr : UInt8 → UInt8 → Bool} {n : Nat} {s t : List UInt8} (ls : letters 6 s) (lt' : letters n t) (h : eqv fr 6 s t) : letters n s := fun c hc => lt' c (mem_iff_of_eqv ls h c hc)

theorem Lst_lettersN {ps : List (Int × Int)} {n : Nat} {s : List UInt8} (hn : n ≤ 6) (ls : letters n s) : letters n (Lst ps s) :=
  letters_eqv (Lst_letters (letters_le hn ls)).1 ls (Lst_eqv (letters_le hn ls))

theorem MeetR.lettersN {ps : List (Int × Int)} {n : Nat} {s u m a b : List UInt8} (h : MeetR ps 6 s u m a b) (ls : letters n s) (lu : letters n u) : letters n m ∧ letters n a ∧ letters n b := by
  have h1 := letters_eqv (letters_append h.lm h.la) ls h.ea
  have h2 := letters_eqv (letters_append h.lm h.lb) lu h.eb
  exact ⟨letters_left h1, letters_right h1, letters_right h2⟩

theorem restE_begins {n : Nat} {ps : List (Int × Int)} {s t r : List UInt8} (hn : n ≤ 6) (ht : threadsOk n ps = true) (ls : letters n s) (lt' : letters n t) (hs : s.length ≤ 40) (htl : t.length ≤ 40) (lr : letters 6 r) (h : eqv (freeP ps) 6 (s ++ r) t) :
    restE n ps s t = siV (Lst ps r) 0 := by
  obtain ⟨r', h1, h2, h3⟩ := divG_complete (freeP_symm ps) (letters_le hn ls) (letters_le hn lt') lr h
  have hw : whyE n ps [s, t] 40 = 0 := whyE_zero hn ht (by intro u hu; simp at hu; rcases hu with rfl | rfl; exact ⟨ls, hs⟩; exact ⟨lt', htl⟩)
  unfold restE
  rw [hw, if_pos rfl, divG_eq, h1]
  simp only [siV]
  rw [(Lst_iff h3 lr).1 h2]

theorem restE_not {n : Nat} {ps : List (Int × Int)} {s t : List UInt8} (hn : n ≤ 6) (ht : threadsOk n ps = true) (ls : letters n s) (lt' : letters n t) (hs : s.length ≤ 40) (htl : t.length ≤ 40) (h : ∀ r, letters 6 r → ¬ eqv (freeP ps) 6 (s ++ r) t) :
    restE n ps s t = siV [] 5 := by
  have hw : whyE n ps [s, t] 40 = 0 := whyE_zero hn ht (by intro u hu; simp at hu; rcases hu with rfl | rfl; exact ⟨ls, hs⟩; exact ⟨lt', htl⟩)
  unfold restE
  rw [hw, if_pos rfl, divG_eq]
  cases hd : divG (freeP ps) s t with
  | none => rfl
  | some r => exact absurd (divG_sound (freeP_symm ps) hd) (h r (divG_letters' (letters_le hn lt') hd))

theorem why2 {n : Nat} {ps : List (Int × Int)} {s t : List UInt8} (hn : n ≤ 6) (ht : threadsOk n ps = true) (ls : letters n s) (lt' : letters n t) (hs : s.length ≤ 40) (htl : t.length ≤ 40) : whyE n ps [s, t] 40 = 0 :=
  whyE_zero hn ht (by intro u hu; simp at hu; rcases hu with rfl | rfl; exact ⟨ls, hs⟩; exact ⟨lt', htl⟩)

end Go.Proofs.Ytipeennffbbglaa
