/-
  Part 7 of the texts behind a statement of this seat: Zs5, ZSd, Zs6.
-/
import Derived.Test.YtelmdbpaoifmoaaGreatProg
import Derived.KernelRfl
import Derived.Test.YtelmdbpaoifmoaaGreatSd6
namespace Go.Proofs.YtelmdbpaoifmoaaGreat
open Go.Sim

theorem C29 {va vb : Value} {a b c d : Int} {h : Heap} {K : Value → Heap → Prop} (ha : QZ h va a b) (hb : QZ h vb c d) (la : a.natAbs < bigW) (lb : b.natAbs < bigW) (lc : c.natAbs < bigW) (ld : d.natAbs < bigW) (lad : (a * d).natAbs < bigW) (lcb : (c * b).natAbs < bigW)
  (hk : ∀ h', EX h h' → K (I (isgn (a * d - c * b))) h') : CallP Tryz.prog 29 [va, vb] h K := by
 obtain ⟨u, w, rfl, hu, hw⟩ := ha
 obtain ⟨u', w', rfl, hu', hw'⟩ := hb
 refine f29 ?_
 unfold T29
 have e1 : ∀ (g : Heap) (s s' : Bool) (b d : Value), iBox 37 g (.agg #[B s, b, B s', d]) = some (pt g.length 0, g ++ [.arr 37 [B s, b, B s', d]]) := fun _ _ _ _ _ => rfl
 simp only [e1, OH_some]
 have x1 : EX h (h ++ [.arr 37 [B (decide (a < 0)), u, B (decide (b < 0)), w]]) := EX.append _ _
 have k1 : (h ++ [IObj.arr 37 [B (decide (a < 0)), u, B (decide (b < 0)), w]])[h.length]? = some (.arr 37 [B (decide (a < 0)), u, B (decide (b < 0)), w]) := get_last
 generalize h ++ [IObj.arr 37 [B (decide (a < 0)), u, B (decide (b < 0)), w]] = g at x1 k1 ⊢
 have x2 : EX g (g ++ [.arr 37 [B (decide (c < 0)), u', B (decide (d < 0)), w']]) := EX.append _ _
 have k2 : (g ++ [IObj.arr 37 [B (decide (c < 0)), u', B (decide (d < 0)), w']])[g.length]? = some (.arr 37 [B (decide (c < 0)), u', B (decide (d < 0)), w']) := get_last
 generalize g ++ [IObj.arr 37 [B (decide (c < 0)), u', B (decide (d < 0)), w']] = g2 at x2 k2 ⊢
 have k1 := x2.get k1
 have xx := x1.trans x2
 have za : ZV g2 (.agg #[B (decide (a < 0)), u]) a := ⟨u, rfl, hu.mono xx⟩
 have zb : ZV g2 (.agg #[B (decide (b < 0)), w]) b := ⟨w, rfl, hw.mono xx⟩
 have zc : ZV g2 (.agg #[B (decide (c < 0)), u']) c := ⟨u', rfl, hu'.mono xx⟩
 have zd : ZV g2 (.agg #[B (decide (d < 0)), w']) d := ⟨w', rfl, hw'.mono xx⟩
 have a0 := load4a k1
 have a2 := load4b k1
 have b0 := load4a k2
 have b2 := load4b k2
 simp only [fadr_pt, Nat.add_zero, Nat.zero_add, OP_some, a0, b2, true_and]
 refine C71 za zd la ld ?_
 intro r3 g3 x3 z3
 simp only [EX.load x3 b0, EX.load x3 a2, OP_some, b0, a2, true_and]
 refine C71 (zc.mono x3) (zb.mono x3) lc lb ?_
 intro r4 g4 x4 z4'
 refine C72 (z3.mono x4) z4' lad lcb ?_
 intro g5 x5
 exact hk g5 (xx.trans (x3.trans (x4.trans x5)))

theorem digOk_dec {n : Nat} (hn : n < bigW) : digOk (decS n) = true ∧ vOf (decS n) = n := by
 obtain ⟨d1, d2, d3, d4, d5⟩ := decS_facts hn
 have : digOk (decS n) = true := digOk_iff.2 ⟨⟨d2, by omega⟩, d4, d1⟩
 exact ⟨this, by unfold vOf; rw [if_pos this, d5]⟩

theorem parse_ratS {a b : Nat} (ha : a < bigW) (hb : b < bigW) (b1 : 1 ≤ b) (hg : Nat.gcd a b = 1) : parseQ (ratS a b) = some ((a : Int), b) := by
 obtain ⟨d1, d2, d3, d4, d5⟩ := decS_facts ha
 obtain ⟨o1, o2⟩ := digOk_dec ha
 obtain ⟨p1, p2⟩ := digOk_dec hb
 have no : (47 : UInt8) ∉ decS a := fun h => by have := d1 _ h; simp at this
 have en : numS (a : Int) = decS a := by unfold numS; rw [if_neg (by omega), Int.natAbs_natCast]
 have hd : ∀ t : List UInt8, (decS a ++ t).head? ≠ some 45 := by
  intro t h
  obtain ⟨c, r, e⟩ : ∃ c r, decS a = c :: r := by
   cases hd : decS a with
   | nil => rw [hd] at d2; simp at d2
   | cons c r => exact ⟨c, r, rfl⟩
  rw [e] at h
  have hc : c = 45 := by simpa using h
  have := d1 c (by rw [e]; simp)
  rw [hc] at this
  simp at this
 unfold ratS parseQ
 rw [en, Int.natAbs_natCast]
 by_cases e : (b : Int) = 1
 ·have e1 : b = 1 := by omega
  have h0 := hd []
  rw [List.append_nil] at h0
  have ix : (decS a).idxOf 47 = (decS a).length := List.idxOf_eq_length no
  have hs : hasSl (decS a) = false := by unfold hasSl; rw [ix]; simp
  have ho : overT (decS a) = decS a := by unfold overT; rw [ix, List.take_length]
  rw [if_pos e, if_neg h0]
  unfold parseT denOk denT
  rw [hs, ho, o1, o2]
  simp [e1]
 ·have ix : (decS a ++ 47 :: decS b).idxOf 47 = (decS a).length := by
   rw [List.idxOf_append, if_neg no]; simp
  have hs : hasSl (decS a ++ 47 :: decS b) = true := by unfold hasSl; rw [ix]; simp
  have ho : overT (decS a ++ 47 :: decS b) = decS a := by unfold overT; rw [ix]; simp
  have hu : underT (decS a ++ 47 :: decS b) = decS b := by unfold underT; rw [ix]; simp
  rw [if_neg e, if_neg (hd _)]
  unfold parseT denOk denT
  rw [hs, ho, hu, o1, o2, p1, p2]
  have : 2 ≤ b := by omega
  simp [hg, this]

theorem sid_fall {bs : List Nat} {js : List (Int × Int)} {n d b c : Nat} (P : PosJ js n) (hn : n ≤ 10) (h1 : IsSid bs js n d b) (h2 : IsSid bs js n (d ||| b) c) : wS js c * lS js b < wS js b * lS js c := by
 have rb := h1.1.1
 have rc := h2.1.1
 have hap : ∀ j, c.testBit j = true → d.testBit j = false ∧ b.testBit j = false := by
  intro j hj
  have := or_testBit_zero rc.apart hj
  rwa [Nat.testBit_or, Bool.or_eq_false_iff] at this
 have hbc : b &&& c = 0 := by
  rw [and_zero_iff]
  intro j hj
  cases hc : c.testBit j with
  | false => rfl
  | true => rw [(hap j hc).2] at hj; cases hj
 have hr : Rel1 bs n d (b ||| c) := by
  refine ⟨Nat.or_lt_two_pow rb.lt rc.lt, ?_, ?_, ?_⟩
  ·intro e
   obtain ⟨i, hi⟩ := bit_of_ne rb.ne
   have := congrArg (Nat.testBit · i) e
   simp only [Nat.testBit_or, hi, Bool.true_or, Nat.zero_testBit] at this
   cases this
  ·apply Nat.eq_of_testBit_eq
   intro j
   rw [Nat.testBit_and, Nat.testBit_or, Nat.zero_testBit]
   cases hb : b.testBit j with
   | true => rw [or_testBit_zero rb.apart hb]; rfl
   | false =>
    cases hc : c.testBit j with
    | true => rw [(hap j hc).1]; rfl
    | false => simp
  ·rw [← Nat.or_assoc]; exact rc.cl
 have o1 := sumB_or (weiJ js) b c 10
 have o2 := sumB_or (lenJ js) b c 10
 rw [hbc, sumB_zero, Int.add_zero] at o1 o2
 have hm := h1.1.2 _ hr
 have e1 : wS js (b ||| c) = wS js b + wS js c := o1
 have e2 : lS js (b ||| c) = lS js b + lS js c := o2
 have le : wS js c * lS js b ≤ wS js b * lS js c := by
  rw [e1, e2, Int.add_mul, Int.mul_add] at hm; omega
 apply Classical.byContradiction
 intro hlt
 have e : wS js c * lS js b = wS js b * lS js c := by omega
 have hx := h1.1.same P hn hr (by rw [e1, e2, Int.add_mul, Int.mul_add]; omega)
 have sub := h1.2 _ hx
 rw [subB_iff] at sub
 obtain ⟨i, hi⟩ := bit_of_ne rc.ne
 have := sub i (by rw [Nat.testBit_or, hi, Bool.or_true])
 rw [(hap i hi).2] at this
 cases this


def accP {α : Type} (f : Nat → List α) : Nat → List α
 | 0 => []
 | k + 1 => accP f k ++ f k

theorem mem_accP {α : Type} {f : Nat → List α} {x : α} : ∀ {k : Nat}, x ∈ accP f k ↔ ∃ i, i < k ∧ x ∈ f i
 | 0 => by simp [accP]
 | k + 1 => by
  rw [accP, List.mem_append, mem_accP]
  constructor
  ·rintro (⟨i, hi, hx⟩ | hx)
   ·exact ⟨i, by omega, hx⟩
   ·exact ⟨k, by omega, hx⟩
  ·rintro ⟨i, hi, hx⟩
   by_cases h : i = k
   ·subst h; exact .inr hx
   ·exact .inl ⟨i, by omega, hx⟩

def sumN (f : Nat → Nat) : Nat → Nat
 | 0 => 0
 | k + 1 => sumN f k + f k

theorem len_accP {α : Type} (f : Nat → List α) : ∀ k, (accP f k).length = sumN (fun i => (f i).length) k
 | 0 => rfl
 | k + 1 => by simp [accP, sumN, len_accP f k]

theorem sumN_mono (f : Nat → Nat) {k n : Nat} (h : k < n) : sumN f k + f k ≤ sumN f n := by
 induction n with
 | zero => omega
 | succ n ih =>
  simp only [sumN]
  by_cases e : k = n
  ·subst e; omega
  ·have := ih (by omega); omega

theorem sumN_congr {f g : Nat → Nat} : ∀ {k : Nat}, (∀ i, i < k → f i = g i) → sumN f k = sumN g k
 | 0, _ => rfl
 | k + 1, h => by simp only [sumN]; rw [sumN_congr (k := k) fun i hi => h i (by omega), h k (by omega)]

theorem sumN_add (f g : Nat → Nat) : ∀ k, sumN (fun i => f i + g i) k = sumN f k + sumN g k
 | 0 => rfl
 | k + 1 => by simp only [sumN, sumN_add f g k]; omega

theorem sumN_zero {f : Nat → Nat} : ∀ {k : Nat}, (∀ i, i < k → f i = 0) → sumN f k = 0
 | 0, _ => rfl
 | k + 1, h => by simp only [sumN]; rw [sumN_zero (k := k) fun i hi => h i (by omega), h k (by omega)]

theorem sumN_one {p : Nat → Bool} : ∀ {k : Nat}, (∀ a b, a < k → b < k → p a = true → p b = true → a = b) → sumN (fun i => if p i = true then 1 else 0) k ≤ 1
 | 0, _ => by simp [sumN]
 | k + 1, h => by
  simp only [sumN]
  cases hk : p k with
  | false => simpa using sumN_one (k := k) fun a b ha hb => h a b (by omega) (by omega)
  | true =>
   rw [sumN_zero (k := k) (fun i hi => ?_)]
   ·simp
   ·cases hi2 : p i with
    | false => simp
    | true => have := h i k (by omega) (by omega) hi2 hk; omega

def rowP (E : List Nat) (ps : List (Int × Int)) (k m : Nat) : List (Int × Int) := ps.filterMap fun x => if x.1 = ((E.getD k 0 : Nat) : Int) ∧ x.2 = ((E.getD m 0 : Nat) : Int) then some ((k : Int), (m : Int)) else none
def colP (E : List Nat) (ps : List (Int × Int)) (k m : Nat) : List (Int × Int) := accP (fun m => rowP E ps k m) m
def allP (E : List Nat) (ps : List (Int × Int)) (k : Nat) : List (Int × Int) := accP (fun k => colP E ps k E.length) k

theorem allP_len {E : List Nat} (nd : E.Nodup) : ∀ ps : List (Int × Int), (allP E ps E.length).length ≤ ps.length
 | [] => by
  unfold allP
  rw [len_accP, sumN_zero]
  ·simp
  ·intro k _
   unfold colP
   rw [len_accP, sumN_zero]
   intro m _
   rfl
 | x :: ps => by
  have ih := allP_len nd ps
  unfold allP colP at ih ⊢
  rw [len_accP] at ih ⊢
  have e : ∀ k, (accP (fun m => rowP E (x :: ps) k m) E.length).length = (accP (fun m => rowP E ps k m) E.length).length + sumN (fun m => if decide (x.1 = ((E.getD k 0 : Nat) : Int) ∧ x.2 = ((E.getD m 0 : Nat) : Int)) = true then 1 else 0) E.length := by
   intro k
   rw [len_accP, len_accP, ← sumN_add]
   refine sumN_congr fun m _ => ?_
   unfold rowP
   rw [List.filterMap_cons]
   by_cases h : x.1 = ((E.getD k 0 : Nat) : Int) ∧ x.2 = ((E.getD m 0 : Nat) : Int)
   ·simp [h]
   ·simp only [if_neg h]
    rw [decide_eq_false h]
    simp
  rw [sumN_congr (g := fun k => (accP (fun m => rowP E ps k m) E.length).length + sumN (fun m => if decide (x.1 = ((E.getD k 0 : Nat) : Int) ∧ x.2 = ((E.getD m 0 : Nat) : Int)) = true then 1 else 0) E.length) (fun k _ => e k), sumN_add]
  have inj : ∀ a b, a < E.length → b < E.length → E.getD a 0 = E.getD b 0 → a = b := by
   intro a b ha hb h
   rw [getD_get ha, getD_get hb] at h
   exact (List.getElem_inj nd).1 h
  have one : sumN (fun k => sumN (fun m => if decide (x.1 = ((E.getD k 0 : Nat) : Int) ∧ x.2 = ((E.getD m 0 : Nat) : Int)) = true then 1 else 0) E.length) E.length ≤ 1 := by
   have h1 : ∀ k, sumN (fun m => if decide (x.1 = ((E.getD k 0 : Nat) : Int) ∧ x.2 = ((E.getD m 0 : Nat) : Int)) = true then 1 else 0) E.length ≤ if decide (x.1 = ((E.getD k 0 : Nat) : Int)) = true then 1 else 0 := by
    intro k
    by_cases hk : x.1 = ((E.getD k 0 : Nat) : Int)
    ·rw [decide_eq_true hk, if_pos rfl]
     refine sumN_one fun a b ha hb pa pb => inj a b ha hb ?_
     have := (of_decide_eq_true pa).2
     have := (of_decide_eq_true pb).2
     omega
    ·rw [sumN_zero]
     ·omega
     ·intro m _
      rw [decide_eq_false (fun h => hk h.1)]; simp
   have le : ∀ (f g : Nat → Nat), (∀ k, f k ≤ g k) → ∀ n, sumN f n ≤ sumN g n := by
    intro f g h n
    induction n with
    | zero => exact Nat.le_refl _
    | succ n ih => simp only [sumN]; have := h n; omega
   refine Nat.le_trans (le _ _ h1 _) (sumN_one fun a b ha hb pa pb => inj a b ha hb ?_)
   have := of_decide_eq_true pa
   have := of_decide_eq_true pb
   omega
  rw [List.length_cons]
  omega

theorem part_len {E : List Nat} (nd : E.Nodup) (ps : List (Int × Int)) {k m n : Nat} (hk : k < E.length) (hm : m < E.length) : (allP E ps k ++ (colP E ps k m ++ rowP E (ps.take n) k m)).length ≤ ps.length := by
 have h1 := allP_len nd ps
 have h2 := sumN_mono (fun k => (colP E ps k E.length).length) hk
 have h3 := sumN_mono (fun m => (rowP E ps k m).length) hm
 unfold allP at h1 ⊢
 rw [len_accP] at h1
 have e : (colP E ps k E.length).length = sumN (fun m => (rowP E ps k m).length) E.length := len_accP _ _
 have e2 : (colP E ps k m).length = sumN (fun m => (rowP E ps k m).length) m := len_accP _ _
 have h4 : (rowP E (ps.take n) k m).length ≤ (rowP E ps k m).length := by
  unfold rowP
  exact ((List.take_sublist n ps).filterMap _).length_le
 simp only [List.length_append]
 rw [len_accP, e2]
 omega

theorem mem_allP {E : List Nat} {ps : List (Int × Int)} {j k : Nat} (hj : j < E.length) (hk : k < E.length) : ((j : Int), (k : Int)) ∈ allP E ps E.length ↔ (((E.getD j 0 : Nat) : Int), ((E.getD k 0 : Nat) : Int)) ∈ ps := by
 unfold allP colP
 simp only [mem_accP]
 unfold rowP
 simp only [List.mem_filterMap]
 constructor
 ·rintro ⟨a, _, b, _, x, hx, h⟩
  split at h
  ·rename_i hc
   injection h with h
   injection h with h1 h2
   have : a = j := by omega
   have : b = k := by omega
   subst a; subst b
   have : x = (((E.getD j 0 : Nat) : Int), ((E.getD k 0 : Nat) : Int)) := Prod.ext hc.1 hc.2
   rw [← this]; exact hx
  ·cases h
 ·intro h
  exact ⟨j, hj, k, hk, _, h, by simp⟩

theorem allP_range {E : List Nat} {ps : List (Int × Int)} : ∀ x ∈ allP E ps E.length, ∃ j k : Nat, j < E.length ∧ k < E.length ∧ x = ((j : Int), (k : Int)) ∧ (((E.getD j 0 : Nat) : Int), ((E.getD k 0 : Nat) : Int)) ∈ ps := by
 intro x hx
 have hx0 := hx
 unfold allP colP at hx
 simp only [mem_accP] at hx
 obtain ⟨a, ha, b, hb, hm⟩ := hx
 unfold rowP at hm
 obtain ⟨y, hy, h⟩ := List.mem_filterMap.1 hm
 split at h
 ·injection h with h
  subst h
  exact ⟨a, b, ha, hb, rfl, (mem_allP ha hb).1 hx0⟩
 ·cases h

def ownJ (js : List (Int × Int)) (E : List Nat) : List (Int × Int) := E.map fun i => js.getD i (0, 0)

theorem ownJ_valid {js ps : List (Int × Int)} {E : List Nat} (hj : smallJ js) (h1 : 1 ≤ E.length) (h10 : E.length ≤ 10) (hE : ∀ i ∈ E, i < js.length) (nd : E.Nodup) (hp : ps.length ≤ 40) {rk : Int → Int} (rk0 : ∀ a, 0 ≤ rk a) (hr : ∀ p ∈ ps, rk p.1 < rk p.2) :
  validB (ownJ js E) (allP E ps E.length) = true := by
 have hl : (ownJ js E).length = E.length := by simp [ownJ]
 refine valid_of (by rw [hl]; exact ⟨h1, h10⟩) (Nat.le_trans (allP_len nd ps) hp) (fun j hm => ?_) (rk := fun a => rk ((E.getD a.toNat 0 : Nat) : Int)) (fun a => rk0 _) (fun p hm => ?_)
 ·obtain ⟨i, hi, rfl⟩ := List.mem_map.1 hm
  exact hj.getD (hE i hi)
 ·obtain ⟨a, b, ha, hb, rfl, hq⟩ := allP_range p hm
  rw [hl]
  refine ⟨⟨⟨by omega, by omega⟩, by omega, by omega⟩, ?_⟩
  have := hr _ hq
  simpa using this

theorem ownJ_own {js ps : List (Int × Int)} {n s : Nat} {bs : List Nat} (hb : BS ps n bs) {E : List Nat} (hE : ∀ i, i ∈ E ↔ s.testBit i = true) (hs : s < 2 ^ n) (nd : E.Nodup) (hv : BS (allP E ps E.length) E.length (bsOf (allP E ps E.length) E.length)) :
  Own bs js s E (bsOf (allP E ps E.length) E.length) (ownJ js E) := by
 refine ⟨nd, hE, fun k hk => ?_, fun k hk j => ?_⟩
 ·have : (ownJ js E).getD k (0, 0) = js.getD (E.getD k 0) (0, 0) := by
   unfold ownJ
   rw [List.getD_eq_getElem?_getD, List.getElem?_map, List.getElem?_eq_getElem hk, getD_get hk]
   rfl
  unfold lenJ weiJ
  rw [this]
  exact ⟨rfl, rfl⟩
 ·rw [hv.bit k hk j]
  have hkn : E.getD k 0 < n := by
   rw [getD_get hk]
   exact bit_lt hs ((hE _).1 (List.getElem_mem hk))
  rw [hb.bit _ hkn, decide_eq_true_eq, decide_eq_true_eq]
  constructor
  ·intro h
   have hj : j < E.length := by
    obtain ⟨a, b, ha, hb, e, _⟩ := allP_range _ h
    injection e with e1 e2
    omega
   exact ⟨hj, (mem_allP hj hk).1 h⟩
  ·rintro ⟨hj, h⟩
   exact (mem_allP hj hk).2 h

theorem listS_nodup (s : Nat) : ∀ n, (listS s n).Nodup
 | 0 => by simp [listS]
 | n + 1 => by
  simp only [listS]
  split
  ·refine List.nodup_append.2 ⟨listS_nodup s n, by simp, ?_⟩
   intro a ha b hb e
   have := (listS_lt s n a ha).1
   simp at hb
   omega
  ·exact listS_nodup s n

theorem listS_mem {s n : Nat} (hs : s < 2 ^ n) (hn : n ≤ 10) : ∀ i, i ∈ listS s 10 ↔ s.testBit i = true := by
 have key : ∀ m i, i < m → s.testBit i = true → i ∈ listS s m := by
  intro m
  induction m with
  | zero => intro i h; omega
  | succ m ih =>
   intro i h hb
   simp only [listS]
   by_cases e : i = m
   ·subst e; rw [if_pos hb]; simp
   ·have := ih i (by omega) hb
    split <;> simp [this]
 intro i
 exact ⟨fun h => (listS_lt s 10 i h).2, fun h => key 10 i (by have := bit_lt hs h; omega) h⟩

end Go.Proofs.YtelmdbpaoifmoaaGreat


namespace Go.Proofs.YtelmdbpaoifmoaaGreat
open Go.Sim
variable (P : Program) (K : VK)
/-! F8: pommel/pommellaw06.MendSidney -/
noncomputable def oc8 := compFn Tryz.prog 8 [[], [], [], [], [], [5, 6, 7, 9, 10, 12, 13, 52], [5, 6, 7, 9, 12, 13, 52, 54], [5, 6, 7, 9, 12, 13, 56], [5, 6, 7, 9, 12, 56, 58], [5, 6, 7, 9, 12, 60], [5, 6, 7, 9, 12, 60, 65], [5, 6, 7, 9, 12, 67], [5, 6, 7, 9, 12, 67, 70], [5, 6, 7, 9, 12, 72], [5, 6, 7, 9, 12, 72, 74], [], [], [], [], [], [5, 6, 7, 9, 12], [14, 15], [], [], [], [], [], [], [], [5, 6, 7, 9, 12, 14, 15], [16, 17, 18], [], [], [5, 6, 7, 9, 12, 14, 15, 16, 17, 18, 119], [5, 6, 7, 9, 12, 14, 15, 16, 17, 18, 119, 129], [], [], [], [], [], [5, 6, 7, 9, 12, 14, 15, 16, 18], [17, 19], [], [], [], [5, 6, 7, 9, 12, 14, 15, 16, 18, 19], [17, 20], [], [], [], [5, 6, 7, 9, 12, 14, 15, 16, 17, 18, 19, 20], [5, 6, 7, 9, 12, 14, 15, 16, 17, 18, 19], [5, 6, 7, 9, 12, 14, 15, 16, 17, 18], [5, 6, 7, 9, 12, 14, 15, 16, 17], [], [5, 6, 7, 9, 12, 14, 15, 16, 17, 21, 207], [5, 6, 7, 9, 12, 14, 15, 21, 207, 212], [], [], [], [], [5, 6, 7, 9, 12, 15, 21], [14, 24], [], [], [], [5, 6, 7, 9, 12, 14, 15], [5, 6, 12, 14], [5, 12, 14, 237], [237, 242], []]
@[irreducible] noncomputable def c8 : ICode := icOf oc8
@[irreducible] noncomputable def c8z9 : ICode := c8.r.r.r.r.r.l.l.r.l
@[irreducible] noncomputable def c8z7 : ICode := c8.r.r.r.r.r.l.r
@[irreducible] noncomputable def c8z6 : ICode := c8.r.r.r.r.r.r
@[irreducible] noncomputable def c8z11 : ICode := c8z9.r.l
@[irreducible] noncomputable def c8z33 : ICode := c8z6.r.l.r.l.l
@[irreducible] noncomputable def c8z30 : ICode := c8z6.r.r
@[irreducible] noncomputable def c8z13 : ICode := c8z11.r.l
@[irreducible] noncomputable def c8z45 : ICode := c8z33.r.l.l.r.r.l.r.l.l
@[irreducible] noncomputable def c8z42 : ICode := c8z33.r.l.l.r.r.r
@[irreducible] noncomputable def c8z36 : ICode := c8z33.r.r
@[irreducible] noncomputable def c8z93 : ICode := c8z30.l
@[irreducible] noncomputable def c8z15 : ICode := c8z13.r.l
@[irreducible] noncomputable def c8z53 : ICode := c8z45.r.l.l.l.l.r.l
@[irreducible] noncomputable def c8z51 : ICode := c8z45.r.l.l.l.r
@[irreducible] noncomputable def c8z50 : ICode := c8z45.r.l.l.r
@[irreducible] noncomputable def c8z48 : ICode := c8z45.r.r
@[irreducible] noncomputable def c8z76 : ICode := c8z42.l
@[irreducible] noncomputable def c8z92 : ICode := c8z36.l
@[irreducible] noncomputable def c8z96 : ICode := c8z93.l.r.l
@[irreducible] noncomputable def c8z94 : ICode := c8z93.r
@[irreducible] noncomputable def c8z17 : ICode := c8z15.r.l
@[irreducible] noncomputable def c8z55 : ICode := c8z53.r.l
@[irreducible] noncomputable def c8z60 : ICode := c8z50.r.r.l.l
@[irreducible] noncomputable def c8z75 : ICode := c8z48.l
@[irreducible] noncomputable def c8z81 : ICode := c8z76.r.l.l.r.l
@[irreducible] noncomputable def c8z79 : ICode := c8z76.r.l.r
@[irreducible] noncomputable def c8z78 : ICode := c8z76.r.r
@[irreducible] noncomputable def c8z98 : ICode := c8z96.r.l
@[irreducible] noncomputable def c8z19 : ICode := c8z17.r.l
@[irreducible] noncomputable def c8z67 : ICode := c8z60.r.l.l.r.l.l
@[irreducible] noncomputable def c8z63 : ICode := c8z60.r.r
@[irreducible] noncomputable def c8z83 : ICode := c8z81.r.l
@[irreducible] noncomputable def c8z87 : ICode := c8z78.r.l.l
@[irreducible] noncomputable def c8z21 : ICode := c8z19.r.l
@[irreducible] noncomputable def c8z73 : ICode := c8z67.r.r.l
@[irreducible] noncomputable def c8z74 : ICode := c8z63.l
@[irreducible] noncomputable def c8z23 : ICode := c8z21.r.l
@[irreducible] noncomputable def c8z25 : ICode := c8z23.r.l
@[irreducible] noncomputable def c8z27 : ICode := c8z25.r.l
theorem k8 : oc8 = some (244, c8, [.tmp 4]) := by kernel_rfl
def K8z0 (_P : Program) (K : VK) : Kont := bodyP [.tmp 4] K
def K8z6 : Kont := thenK (iwpP P c8z6 (K8z0 P K)) (K8z0 P K)
def K8z7 : Kont := thenK (iwpP P c8z7 (K8z6 P K)) (K8z6 P K)
def K8z30 : Kont := thenK (iwpP P c8z30 (K8z0 P K)) (K8z0 P K)
def K8z32 : Kont := inBlockK 0 (K8z30 P K)
def K8z33 (j5 p6 l7 r9 c12 : Value) (L1 : LK) : Kont := thenK (fun f' h'' => (([5, 6, 7, 9, 12] : List Nat).map f' : List Value) = [j5, p6, l7, r9, c12] ∧ L1 (([14, 15] : List Nat).map f') h'') (K8z32 P K)
def K8z36 (j5 p6 l7 r9 c12 : Value) (L1 : LK) : Kont := thenK (iwpP P c8z36 (K8z33 P K j5 p6 l7 r9 c12 L1)) (K8z33 P K j5 p6 l7 r9 c12 L1)
def K8z37 (j5 p6 l7 r9 c12 : Value) (L1 : LK) : Kont := inBlockK 1 (K8z36 P K j5 p6 l7 r9 c12 L1)
def K8z42 (j5 p6 l7 r9 c12 : Value) (L1 : LK) : Kont := thenK (iwpP P c8z42 (K8z37 P K j5 p6 l7 r9 c12 L1)) (K8z37 P K j5 p6 l7 r9 c12 L1)
def K8z44 (j5 p6 l7 r9 c12 : Value) (L1 : LK) : Kont := inBlockK 2 (K8z42 P K j5 p6 l7 r9 c12 L1)
def K8z45 (j5 p6 l7 r9 c12 x14 i15 : Value) (L1 L2 : LK) : Kont := thenK (fun f' h'' => (([5, 6, 7, 9, 12, 14, 15] : List Nat).map f' : List Value) = [j5, p6, l7, r9, c12, x14, i15] ∧ L2 (([16, 17, 18] : List Nat).map f') h'') (K8z44 P K j5 p6 l7 r9 c12 L1)
def K8z48 (j5 p6 l7 r9 c12 x14 i15 : Value) (L1 L2 : LK) : Kont := thenK (iwpP P c8z48 (K8z45 P K j5 p6 l7 r9 c12 x14 i15 L1 L2)) (K8z45 P K j5 p6 l7 r9 c12 x14 i15 L1 L2)
def K8z49 (j5 p6 l7 r9 c12 x14 i15 : Value) (L1 L2 : LK) : Kont := inBlockK 3 (K8z48 P K j5 p6 l7 r9 c12 x14 i15 L1 L2)
def K8z50 (j5 p6 l7 r9 c12 x14 i15 : Value) (L1 L2 : LK) : Kont := thenK (iwpP P c8z50 (K8z49 P K j5 p6 l7 r9 c12 x14 i15 L1 L2)) (K8z49 P K j5 p6 l7 r9 c12 x14 i15 L1 L2)
def K8z51 (j5 p6 l7 r9 c12 x14 i15 : Value) (L1 L2 : LK) : Kont := thenK (iwpP P c8z51 (K8z50 P K j5 p6 l7 r9 c12 x14 i15 L1 L2)) (K8z50 P K j5 p6 l7 r9 c12 x14 i15 L1 L2)
def K8z59 (j5 p6 l7 r9 c12 x14 i15 : Value) (L1 L2 : LK) : Kont := inBlockK 4 (K8z49 P K j5 p6 l7 r9 c12 x14 i15 L1 L2)
def K8z60 (j5 p6 l7 r9 c12 x14 i15 x16 k18 : Value) (L1 L2 L3 : LK) : Kont := thenK (fun f' h'' => (([5, 6, 7, 9, 12, 14, 15, 16, 18] : List Nat).map f' : List Value) = [j5, p6, l7, r9, c12, x14, i15, x16, k18] ∧ L3 (([17, 19] : List Nat).map f') h'') (K8z59 P K j5 p6 l7 r9 c12 x14 i15 L1 L2)
def K8z63 (j5 p6 l7 r9 c12 x14 i15 x16 k18 : Value) (L1 L2 L3 : LK) : Kont := thenK (iwpP P c8z63 (K8z60 P K j5 p6 l7 r9 c12 x14 i15 x16 k18 L1 L2 L3)) (K8z60 P K j5 p6 l7 r9 c12 x14 i15 x16 k18 L1 L2 L3)
def K8z64 (j5 p6 l7 r9 c12 x14 i15 x16 k18 : Value) (L1 L2 L3 : LK) : Kont := inBlockK 5 (K8z63 P K j5 p6 l7 r9 c12 x14 i15 x16 k18 L1 L2 L3)
def K8z66 (j5 p6 l7 r9 c12 x14 i15 x16 k18 : Value) (L1 L2 L3 : LK) : Kont := inBlockK 6 (K8z64 P K j5 p6 l7 r9 c12 x14 i15 x16 k18 L1 L2 L3)
def K8z67 (j5 p6 l7 r9 c12 x14 i15 x16 k18 m19 : Value) (L1 L2 L3 L4 : LK) : Kont := thenK (fun f' h'' => (([5, 6, 7, 9, 12, 14, 15, 16, 18, 19] : List Nat).map f' : List Value) = [j5, p6, l7, r9, c12, x14, i15, x16, k18, m19] ∧ L4 (([17, 20] : List Nat).map f') h'') (K8z66 P K j5 p6 l7 r9 c12 x14 i15 x16 k18 L1 L2 L3)
def K8z78 (j5 p6 l7 r9 c12 : Value) (L1 : LK) : Kont := thenK (iwpP P c8z78 (K8z37 P K j5 p6 l7 r9 c12 L1)) (K8z37 P K j5 p6 l7 r9 c12 L1)
def K8z79 (j5 p6 l7 r9 c12 : Value) (L1 : LK) : Kont := thenK (iwpP P c8z79 (K8z78 P K j5 p6 l7 r9 c12 L1)) (K8z78 P K j5 p6 l7 r9 c12 L1)
def K8z86 (j5 p6 l7 r9 c12 : Value) (L1 : LK) : Kont := inBlockK 8 (K8z37 P K j5 p6 l7 r9 c12 L1)
def K8z87 (j5 p6 l7 r9 c12 i15 o21 : Value) (L1 L2 : LK) : Kont := thenK (fun f' h'' => (([5, 6, 7, 9, 12, 15, 21] : List Nat).map f' : List Value) = [j5, p6, l7, r9, c12, i15, o21] ∧ L2 (([14, 24] : List Nat).map f') h'') (K8z86 P K j5 p6 l7 r9 c12 L1)
def K8z94 : Kont := thenK (iwpP P c8z94 (K8z0 P K)) (K8z0 P K)
def p8z9 (j5 p6 l7 r9 f10 c12 g13 x52 : Value) (h : Heap) : Prop := CutP (iwpP P c8z9 (K8z7 P K)) [5, 6, 7, 9, 10, 12, 13, 52] [j5, p6, l7, r9, f10, c12, g13, x52] h
def p8z11 (j5 p6 l7 r9 c12 g13 x52 x54 : Value) (h : Heap) : Prop := CutP (iwpP P c8z11 (K8z7 P K)) [5, 6, 7, 9, 12, 13, 52, 54] [j5, p6, l7, r9, c12, g13, x52, x54] h
def p8z13 (j5 p6 l7 r9 c12 g13 x56 : Value) (h : Heap) : Prop := CutP (iwpP P c8z13 (K8z7 P K)) [5, 6, 7, 9, 12, 13, 56] [j5, p6, l7, r9, c12, g13, x56] h
def p8z15 (j5 p6 l7 r9 c12 x56 x58 : Value) (h : Heap) : Prop := CutP (iwpP P c8z15 (K8z7 P K)) [5, 6, 7, 9, 12, 56, 58] [j5, p6, l7, r9, c12, x56, x58] h
def p8z17 (j5 p6 l7 r9 c12 x60 : Value) (h : Heap) : Prop := CutP (iwpP P c8z17 (K8z7 P K)) [5, 6, 7, 9, 12, 60] [j5, p6, l7, r9, c12, x60] h
def p8z19 (j5 p6 l7 r9 c12 x60 x65 : Value) (h : Heap) : Prop := CutP (iwpP P c8z19 (K8z7 P K)) [5, 6, 7, 9, 12, 60, 65] [j5, p6, l7, r9, c12, x60, x65] h
def p8z21 (j5 p6 l7 r9 c12 x67 : Value) (h : Heap) : Prop := CutP (iwpP P c8z21 (K8z7 P K)) [5, 6, 7, 9, 12, 67] [j5, p6, l7, r9, c12, x67] h
def p8z23 (j5 p6 l7 r9 c12 x67 x70 : Value) (h : Heap) : Prop := CutP (iwpP P c8z23 (K8z7 P K)) [5, 6, 7, 9, 12, 67, 70] [j5, p6, l7, r9, c12, x67, x70] h
def p8z25 (j5 p6 l7 r9 c12 x72 : Value) (h : Heap) : Prop := CutP (iwpP P c8z25 (K8z7 P K)) [5, 6, 7, 9, 12, 72] [j5, p6, l7, r9, c12, x72] h
def p8z27 (j5 p6 l7 r9 c12 x72 x74 : Value) (h : Heap) : Prop := CutP (iwpP P c8z27 (K8z7 P K)) [5, 6, 7, 9, 12, 72, 74] [j5, p6, l7, r9, c12, x72, x74] h
def p8z33 (j5 p6 l7 r9 c12 : Value) (L1 : LK) (xs : List Value) (h : Heap) : Prop := CutP (iwpP P c8z33 (K8z33 P K j5 p6 l7 r9 c12 L1)) ([5, 6, 7, 9, 12] ++ [14, 15]) ([j5, p6, l7, r9, c12] ++ xs) h
def p8z45 (j5 p6 l7 r9 c12 x14 i15 : Value) (L1 L2 : LK) (xs : List Value) (h : Heap) : Prop := CutP (iwpP P c8z45 (K8z45 P K j5 p6 l7 r9 c12 x14 i15 L1 L2)) ([5, 6, 7, 9, 12, 14, 15] ++ [16, 17, 18]) ([j5, p6, l7, r9, c12, x14, i15] ++ xs) h
def p8z53 (j5 p6 l7 r9 c12 x14 i15 x16 x17 k18 x119 : Value) (L1 L2 : LK) (h : Heap) : Prop := CutP (iwpP P c8z53 (K8z51 P K j5 p6 l7 r9 c12 x14 i15 L1 L2)) [5, 6, 7, 9, 12, 14, 15, 16, 17, 18, 119] [j5, p6, l7, r9, c12, x14, i15, x16, x17, k18, x119] h
def p8z55 (j5 p6 l7 r9 c12 x14 i15 x16 x17 k18 x119 x129 : Value) (L1 L2 : LK) (h : Heap) : Prop := CutP (iwpP P c8z55 (K8z51 P K j5 p6 l7 r9 c12 x14 i15 L1 L2)) [5, 6, 7, 9, 12, 14, 15, 16, 17, 18, 119, 129] [j5, p6, l7, r9, c12, x14, i15, x16, x17, k18, x119, x129] h
def p8z60 (j5 p6 l7 r9 c12 x14 i15 x16 k18 : Value) (L1 L2 L3 : LK) (xs : List Value) (h : Heap) : Prop := CutP (iwpP P c8z60 (K8z60 P K j5 p6 l7 r9 c12 x14 i15 x16 k18 L1 L2 L3)) ([5, 6, 7, 9, 12, 14, 15, 16, 18] ++ [17, 19]) ([j5, p6, l7, r9, c12, x14, i15, x16, k18] ++ xs) h
def p8z67 (j5 p6 l7 r9 c12 x14 i15 x16 k18 m19 : Value) (L1 L2 L3 L4 : LK) (xs : List Value) (h : Heap) : Prop := CutP (iwpP P c8z67 (K8z67 P K j5 p6 l7 r9 c12 x14 i15 x16 k18 m19 L1 L2 L3 L4)) ([5, 6, 7, 9, 12, 14, 15, 16, 18, 19] ++ [17, 20]) ([j5, p6, l7, r9, c12, x14, i15, x16, k18, m19] ++ xs) h
def p8z73 (j5 p6 l7 r9 c12 x14 i15 x16 x17 k18 m19 n20 : Value) (L1 L2 L3 L4 : LK) (h : Heap) : Prop := CutP (iwpP P c8z73 (K8z67 P K j5 p6 l7 r9 c12 x14 i15 x16 k18 m19 L1 L2 L3 L4)) [5, 6, 7, 9, 12, 14, 15, 16, 17, 18, 19, 20] [j5, p6, l7, r9, c12, x14, i15, x16, x17, k18, m19, n20] h
def p8z74 (j5 p6 l7 r9 c12 x14 i15 x16 x17 k18 m19 : Value) (L1 L2 L3 : LK) (h : Heap) : Prop := CutP (iwpP P c8z74 (K8z60 P K j5 p6 l7 r9 c12 x14 i15 x16 k18 L1 L2 L3)) [5, 6, 7, 9, 12, 14, 15, 16, 17, 18, 19] [j5, p6, l7, r9, c12, x14, i15, x16, x17, k18, m19] h
def p8z75 (j5 p6 l7 r9 c12 x14 i15 x16 x17 k18 : Value) (L1 L2 : LK) (h : Heap) : Prop := CutP (iwpP P c8z75 (K8z45 P K j5 p6 l7 r9 c12 x14 i15 L1 L2)) [5, 6, 7, 9, 12, 14, 15, 16, 17, 18] [j5, p6, l7, r9, c12, x14, i15, x16, x17, k18] h
def p8z76 (j5 p6 l7 r9 c12 x14 i15 x16 x17 : Value) (L1 : LK) (h : Heap) : Prop := CutP (iwpP P c8z76 (K8z37 P K j5 p6 l7 r9 c12 L1)) [5, 6, 7, 9, 12, 14, 15, 16, 17] [j5, p6, l7, r9, c12, x14, i15, x16, x17] h
def p8z81 (j5 p6 l7 r9 c12 x14 i15 x16 x17 o21 x207 : Value) (L1 : LK) (h : Heap) : Prop := CutP (iwpP P c8z81 (K8z79 P K j5 p6 l7 r9 c12 L1)) [5, 6, 7, 9, 12, 14, 15, 16, 17, 21, 207] [j5, p6, l7, r9, c12, x14, i15, x16, x17, o21, x207] h
def p8z83 (j5 p6 l7 r9 c12 x14 i15 o21 x207 x212 : Value) (L1 : LK) (h : Heap) : Prop := CutP (iwpP P c8z83 (K8z79 P K j5 p6 l7 r9 c12 L1)) [5, 6, 7, 9, 12, 14, 15, 21, 207, 212] [j5, p6, l7, r9, c12, x14, i15, o21, x207, x212] h
def p8z87 (j5 p6 l7 r9 c12 i15 o21 : Value) (L1 L2 : LK) (xs : List Value) (h : Heap) : Prop := CutP (iwpP P c8z87 (K8z87 P K j5 p6 l7 r9 c12 i15 o21 L1 L2)) ([5, 6, 7, 9, 12, 15, 21] ++ [14, 24]) ([j5, p6, l7, r9, c12, i15, o21] ++ xs) h
def p8z92 (j5 p6 l7 r9 c12 x14 i15 : Value) (L1 : LK) (h : Heap) : Prop := CutP (iwpP P c8z92 (K8z33 P K j5 p6 l7 r9 c12 L1)) [5, 6, 7, 9, 12, 14, 15] [j5, p6, l7, r9, c12, x14, i15] h
def p8z93 (j5 p6 c12 x14 : Value) (h : Heap) : Prop := CutP (iwpP P c8z93 (K8z0 P K)) [5, 6, 12, 14] [j5, p6, c12, x14] h
def p8z96 (j5 c12 x14 x237 : Value) (h : Heap) : Prop := CutP (iwpP P c8z96 (K8z94 P K)) [5, 12, 14, 237] [j5, c12, x14, x237] h
def p8z98 (x237 x242 : Value) (h : Heap) : Prop := CutP (iwpP P c8z98 (K8z94 P K)) [237, 242] [x237, x242] h
theorem q8z27 (j5 p6 l7 r9 c12 x72 x74 : Value) (h : Heap) : p8z27 P K j5 p6 l7 r9 c12 x72 x74 h =
 (OP (iPick x72 (.bool true) x74) fun x75 =>
 IfP x75
 (K (.bool false) h)
 (OH (iMkSl 3 0 [(.int .i64 (0))] h []) fun x76 h_1 =>
 LoopP [x76, (.int .i64 (0))] h_1 fun L1 xs hx =>
 p8z33 P K j5 p6 l7 r9 c12 L1 xs hx)) := (CutP_def _ _ _ _).trans (by kernel_rfl)
theorem q8z25 (j5 p6 l7 r9 c12 x72 : Value) (h : Heap) : p8z25 P K j5 p6 l7 r9 c12 x72 h =
 (GdP x72 false
 (CallP P 14 [] h fun x73 h_1 =>
 OP (iUn .not x73) fun x74 =>
 p8z27 P K j5 p6 l7 r9 c12 x72 x74 h_1)
 (p8z27 P K j5 p6 l7 r9 c12 x72 undef h)) := (CutP_def _ _ _ _).trans (by kernel_rfl)
theorem q8z23 (j5 p6 l7 r9 c12 x67 x70 : Value) (h : Heap) : p8z23 P K j5 p6 l7 r9 c12 x67 x70 h =
 (OP (iPick x67 (.bool true) x70) fun x71 =>
 p8z25 P K j5 p6 l7 r9 c12 x71 h) := (CutP_def _ _ _ _).trans (by kernel_rfl)
theorem q8z21 (j5 p6 l7 r9 c12 x67 : Value) (h : Heap) : p8z21 P K j5 p6 l7 r9 c12 x67 h =
 (GdP x67 false
 (CallP P 38 [r9] h fun x69 h_1 =>
 OP (iBin .neq x69 (.int .i64 (0))) fun x70 =>
 p8z23 P K j5 p6 l7 r9 c12 x67 x70 h_1)
 (p8z23 P K j5 p6 l7 r9 c12 x67 undef h)) := (CutP_def _ _ _ _).trans (by kernel_rfl)
theorem q8z19 (j5 p6 l7 r9 c12 x60 x65 : Value) (h : Heap) : p8z19 P K j5 p6 l7 r9 c12 x60 x65 h =
 (OP (iPick x60 (.bool true) x65) fun x66 =>
 p8z21 P K j5 p6 l7 r9 c12 x66 h) := (CutP_def _ _ _ _).trans (by kernel_rfl)
theorem q8z17 (j5 p6 l7 r9 c12 x60 : Value) (h : Heap) : p8z17 P K j5 p6 l7 r9 c12 x60 h =
 (GdP x60 false
 (OP (iLenSl r9) fun x62 =>
 OP (iLenSl l7) fun x64 =>
 OP (iBin .neq x62 x64) fun x65 =>
 p8z19 P K j5 p6 l7 r9 c12 x60 x65 h)
 (p8z19 P K j5 p6 l7 r9 c12 x60 undef h)) := (CutP_def _ _ _ _).trans (by kernel_rfl)
theorem q8z15 (j5 p6 l7 r9 c12 x56 x58 : Value) (h : Heap) : p8z15 P K j5 p6 l7 r9 c12 x56 x58 h =
 (OP (iPick x56 (.bool true) x58) fun x59 =>
 p8z17 P K j5 p6 l7 r9 c12 x59 h) := (CutP_def _ _ _ _).trans (by kernel_rfl)
theorem q8z13 (j5 p6 l7 r9 c12 g13 x56 : Value) (h : Heap) : p8z13 P K j5 p6 l7 r9 c12 g13 x56 h =
 (GdP x56 false
 (OP (iBin .neq g13 (.int .i64 (0))) fun x58 =>
 p8z15 P K j5 p6 l7 r9 c12 x56 x58 h)
 (p8z15 P K j5 p6 l7 r9 c12 x56 undef h)) := (CutP_def _ _ _ _).trans (by kernel_rfl)
theorem q8z11 (j5 p6 l7 r9 c12 g13 x52 x54 : Value) (h : Heap) : p8z11 P K j5 p6 l7 r9 c12 g13 x52 x54 h =
 (OP (iPick x52 (.bool true) x54) fun x55 =>
 p8z13 P K j5 p6 l7 r9 c12 g13 x55 h) := (CutP_def _ _ _ _).trans (by kernel_rfl)
theorem q8z9 (j5 p6 l7 r9 f10 c12 g13 x52 : Value) (h : Heap) : p8z9 P K j5 p6 l7 r9 f10 c12 g13 x52 h =
 (GdP x52 false
 (OP (iBin .neq f10 (.int .i64 (0))) fun x54 =>
 p8z11 P K j5 p6 l7 r9 c12 g13 x52 x54 h)
 (p8z11 P K j5 p6 l7 r9 c12 g13 x52 undef h)) := (CutP_def _ _ _ _).trans (by kernel_rfl)
theorem q8z55 (j5 p6 l7 r9 c12 x14 i15 x16 x17 k18 x119 x129 : Value) (L1 L2 : LK) (h : Heap) : p8z55 P K j5 p6 l7 r9 c12 x14 i15 x16 x17 k18 x119 x129 L1 L2 h =
 (OP (iPick x119 (.bool true) x129) fun x130 =>
 IfP x130
 (K (.bool false) h)
 (OP (iAdrSl 1 l7 i15) fun x135 =>
 OP (iLoad false 1 h x135) fun x136 =>
 OP (iAdrSl 1 x136 k18) fun x138 =>
 OP (iLoad false 1 h x138) fun x139 =>
 OP (iAdrSl 2 j5 x139) fun x140 =>
 OP (iLoad true 2 h x140) fun x141 =>
 OH (iMkSl 46 1 [(.int .i64 (0)), (.int .i64 (0))] h [(0, 2, x141)]) fun x142 h_1 =>
 OH (iApp 46 2 16 h_1 x16 x142) fun x143 h_2 =>
 LoopP [x17, (.int .i64 (0))] h_2 fun L3 xs hx =>
 p8z60 P K j5 p6 l7 r9 c12 x14 i15 x143 k18 L1 L2 L3 xs hx)) := (CutP_def _ _ _ _).trans (by kernel_rfl)
theorem q8z53 (j5 p6 l7 r9 c12 x14 i15 x16 x17 k18 x119 : Value) (L1 L2 : LK) (h : Heap) : p8z53 P K j5 p6 l7 r9 c12 x14 i15 x16 x17 k18 x119 L1 L2 h =
 (GdP x119 false
 (OP (iAdrSl 1 l7 i15) fun x122 =>
 OP (iLoad false 1 h x122) fun x123 =>
 OP (iAdrSl 1 x123 k18) fun x125 =>
 OP (iLoad false 1 h x125) fun x126 =>
 OP (iLenSl j5) fun x128 =>
 OP (iBin .geq x126 x128) fun x129 =>
 p8z55 P K j5 p6 l7 r9 c12 x14 i15 x16 x17 k18 x119 x129 L1 L2 h)
 (p8z55 P K j5 p6 l7 r9 c12 x14 i15 x16 x17 k18 x119 undef L1 L2 h)) := (CutP_def _ _ _ _).trans (by kernel_rfl)
theorem q8z73 (j5 p6 l7 r9 c12 x14 i15 x16 x17 k18 m19 n20 : Value) (L1 L2 L3 L4 : LK) (h : Heap) : p8z73 P K j5 p6 l7 r9 c12 x14 i15 x16 x17 k18 m19 n20 L1 L2 L3 L4 h =
 (OP (iBin .add n20 (.int .i64 (1))) fun x158 =>
 ([j5, p6, l7, r9, c12, x14, i15, x16, k18, m19] : List Value) = [j5, p6, l7, r9, c12, x14, i15, x16, k18, m19] ∧ L4 [x17, x158] h) := (CutP_def _ _ _ _).trans (by kernel_rfl)
theorem q8z67 (j5 p6 l7 r9 c12 x14 i15 x16 k18 m19 : Value) (L1 L2 L3 L4 : LK) (x17 n20 : Value) (h : Heap) : p8z67 P K j5 p6 l7 r9 c12 x14 i15 x16 k18 m19 L1 L2 L3 L4 [x17, n20] h =
 (OP (iLenSl p6) fun x155 =>
 OP (iBin .lss n20 x155) fun x156 =>
 IfP x156
 (OP (iAdrSl 2 p6 n20) fun x161 =>
 OP (iFadr 0 x161) fun x162 =>
 OP (iLoad false 1 h x162) fun x163 =>
 (True) ∧
 OP (iAdrSl 1 l7 i15) fun x166 =>
 OP (iLoad false 1 h x166) fun x167 =>
 (True) ∧
 OP (iAdrSl 1 x167 k18) fun x169 =>
 OP (iLoad false 1 h x169) fun x170 =>
 (True) ∧
 OP (iBin .eql x163 x170) fun x171 =>
 GdP x171 true
 (OP (iAdrSl 2 p6 n20) fun x175 =>
 OP (iFadr 1 x175) fun x176 =>
 OP (iLoad false 1 h x176) fun x177 =>
 (True) ∧
 OP (iAdrSl 1 l7 i15) fun x180 =>
 OP (iLoad false 1 h x180) fun x181 =>
 (True) ∧
 OP (iAdrSl 1 x181 m19) fun x183 =>
 OP (iLoad false 1 h x183) fun x184 =>
 (True) ∧
 OP (iBin .eql x177 x184) fun x185 =>
 OP (iPick x171 x185 (.bool false)) fun x186 =>
 GdP x186 true
 (OP (iLenSl x17) fun x189 =>
 OP (iBin .lss x189 (.int .i64 (40))) fun x190 =>
 OP (iPick x186 x190 (.bool false)) fun x191 =>
 IfP x191
 (OP (iBuild [(.int .i64 (0)), (.int .i64 (0))] [(0, 1, k18), (1, 1, m19)]) fun x195 =>
 OH (iMkSl 88 1 [(.int .i64 (0)), (.int .i64 (0))] h [(0, 2, x195)]) fun x196 h_1 =>
 OH (iApp 88 2 16 h_1 x17 x196) fun x197 h_2 =>
 p8z73 P K j5 p6 l7 r9 c12 x14 i15 x16 x197 k18 m19 n20 L1 L2 L3 L4 h_2)
 (p8z73 P K j5 p6 l7 r9 c12 x14 i15 x16 x17 k18 m19 n20 L1 L2 L3 L4 h))
 (OP (iPick x186 undef (.bool false)) fun x191 =>
 IfP x191
 (OP (iBuild [(.int .i64 (0)), (.int .i64 (0))] [(0, 1, k18), (1, 1, m19)]) fun x195 =>
 OH (iMkSl 88 1 [(.int .i64 (0)), (.int .i64 (0))] h [(0, 2, x195)]) fun x196 h_1 =>
 OH (iApp 88 2 16 h_1 x17 x196) fun x197 h_2 =>
 p8z73 P K j5 p6 l7 r9 c12 x14 i15 x16 x197 k18 m19 n20 L1 L2 L3 L4 h_2)
 (p8z73 P K j5 p6 l7 r9 c12 x14 i15 x16 x17 k18 m19 n20 L1 L2 L3 L4 h)))
 (OP (iPick x171 undef (.bool false)) fun x186 =>
 GdP x186 true
 (OP (iLenSl x17) fun x189 =>
 OP (iBin .lss x189 (.int .i64 (40))) fun x190 =>
 OP (iPick x186 x190 (.bool false)) fun x191 =>
 IfP x191
 (OP (iBuild [(.int .i64 (0)), (.int .i64 (0))] [(0, 1, k18), (1, 1, m19)]) fun x195 =>
 OH (iMkSl 88 1 [(.int .i64 (0)), (.int .i64 (0))] h [(0, 2, x195)]) fun x196 h_1 =>
 OH (iApp 88 2 16 h_1 x17 x196) fun x197 h_2 =>
 p8z73 P K j5 p6 l7 r9 c12 x14 i15 x16 x197 k18 m19 n20 L1 L2 L3 L4 h_2)
 (p8z73 P K j5 p6 l7 r9 c12 x14 i15 x16 x17 k18 m19 n20 L1 L2 L3 L4 h))
 (OP (iPick x186 undef (.bool false)) fun x191 =>
 IfP x191
 (OP (iBuild [(.int .i64 (0)), (.int .i64 (0))] [(0, 1, k18), (1, 1, m19)]) fun x195 =>
 OH (iMkSl 88 1 [(.int .i64 (0)), (.int .i64 (0))] h [(0, 2, x195)]) fun x196 h_1 =>
 OH (iApp 88 2 16 h_1 x17 x196) fun x197 h_2 =>
 p8z73 P K j5 p6 l7 r9 c12 x14 i15 x16 x197 k18 m19 n20 L1 L2 L3 L4 h_2)
 (p8z73 P K j5 p6 l7 r9 c12 x14 i15 x16 x17 k18 m19 n20 L1 L2 L3 L4 h))))
 (p8z74 P K j5 p6 l7 r9 c12 x14 i15 x16 x17 k18 m19 L1 L2 L3 h)) := (CutP_def _ _ _ _).trans (by kernel_rfl)
theorem q8z74 (j5 p6 l7 r9 c12 x14 i15 x16 x17 k18 m19 : Value) (L1 L2 L3 : LK) (h : Heap) : p8z74 P K j5 p6 l7 r9 c12 x14 i15 x16 x17 k18 m19 L1 L2 L3 h =
 (OP (iBin .add m19 (.int .i64 (1))) fun x152 =>
 ([j5, p6, l7, r9, c12, x14, i15, x16, k18] : List Value) = [j5, p6, l7, r9, c12, x14, i15, x16, k18] ∧ L3 [x17, x152] h) := (CutP_def _ _ _ _).trans (by kernel_rfl)
theorem q8z60 (j5 p6 l7 r9 c12 x14 i15 x16 k18 : Value) (L1 L2 L3 : LK) (x17 m19 : Value) (h : Heap) : p8z60 P K j5 p6 l7 r9 c12 x14 i15 x16 k18 L1 L2 L3 [x17, m19] h =
 (OP (iAdrSl 1 l7 i15) fun x147 =>
 OP (iLoad false 1 h x147) fun x148 =>
 OP (iLenSl x148) fun x149 =>
 OP (iBin .lss m19 x149) fun x150 =>
 IfP x150
 (LoopP [x17, (.int .i64 (0))] h fun L4 xs hx =>
 p8z67 P K j5 p6 l7 r9 c12 x14 i15 x16 k18 m19 L1 L2 L3 L4 xs hx)
 (p8z75 P K j5 p6 l7 r9 c12 x14 i15 x16 x17 k18 L1 L2 h)) := (CutP_def _ _ _ _).trans (by kernel_rfl)
theorem q8z75 (j5 p6 l7 r9 c12 x14 i15 x16 x17 k18 : Value) (L1 L2 : LK) (h : Heap) : p8z75 P K j5 p6 l7 r9 c12 x14 i15 x16 x17 k18 L1 L2 h =
 (OP (iBin .add k18 (.int .i64 (1))) fun x110 =>
 ([j5, p6, l7, r9, c12, x14, i15] : List Value) = [j5, p6, l7, r9, c12, x14, i15] ∧ L2 [x16, x17, x110] h) := (CutP_def _ _ _ _).trans (by kernel_rfl)
theorem q8z45 (j5 p6 l7 r9 c12 x14 i15 : Value) (L1 L2 : LK) (x16 x17 k18 : Value) (h : Heap) : p8z45 P K j5 p6 l7 r9 c12 x14 i15 L1 L2 [x16, x17, k18] h =
 (OP (iAdrSl 1 l7 i15) fun x105 =>
 OP (iLoad false 1 h x105) fun x106 =>
 OP (iLenSl x106) fun x107 =>
 OP (iBin .lss k18 x107) fun x108 =>
 IfP x108
 (OP (iAdrSl 1 l7 i15) fun x113 =>
 OP (iLoad false 1 h x113) fun x114 =>
 OP (iAdrSl 1 x114 k18) fun x116 =>
 OP (iLoad false 1 h x116) fun x117 =>
 OP (iBin .lss x117 (.int .i64 (0))) fun x118 =>
 p8z53 P K j5 p6 l7 r9 c12 x14 i15 x16 x17 k18 x118 L1 L2 h)
 (p8z76 P K j5 p6 l7 r9 c12 x14 i15 x16 x17 L1 h)) := (CutP_def _ _ _ _).trans (by kernel_rfl)
theorem q8z83 (j5 p6 l7 r9 c12 x14 i15 o21 x207 x212 : Value) (L1 : LK) (h : Heap) : p8z83 P K j5 p6 l7 r9 c12 x14 i15 o21 x207 x212 L1 h =
 (OP (iPick x207 (.bool true) x212) fun x213 =>
 IfP x213
 (K (.bool false) h)
 (LoopP [x14, (.int .i64 (0))] h fun L2 xs hx =>
 p8z87 P K j5 p6 l7 r9 c12 i15 o21 L1 L2 xs hx)) := (CutP_def _ _ _ _).trans (by kernel_rfl)
theorem q8z81 (j5 p6 l7 r9 c12 x14 i15 x16 x17 o21 x207 : Value) (L1 : LK) (h : Heap) : p8z81 P K j5 p6 l7 r9 c12 x14 i15 x16 x17 o21 x207 L1 h =
 (GdP x207 false
 (CallP P 39 [x16, x17, o21] h fun x211 h_1 =>
 OP (iUn .not x211) fun x212 =>
 p8z83 P K j5 p6 l7 r9 c12 x14 i15 o21 x207 x212 L1 h_1)
 (p8z83 P K j5 p6 l7 r9 c12 x14 i15 o21 x207 undef L1 h)) := (CutP_def _ _ _ _).trans (by kernel_rfl)
theorem q8z87 (j5 p6 l7 r9 c12 i15 o21 : Value) (L1 L2 : LK) (x14 k24 : Value) (h : Heap) : p8z87 P K j5 p6 l7 r9 c12 i15 o21 L1 L2 [x14, k24] h =
 (OP (iLenSl o21) fun x216 =>
 OP (iBin .lss k24 x216) fun x217 =>
 IfP x217
 (OP (iAdrSl 1 l7 i15) fun x223 =>
 OP (iLoad false 1 h x223) fun x224 =>
 (True) ∧
 OP (iAdrSl 1 o21 k24) fun x227 =>
 OP (iLoad false 1 h x227) fun x228 =>
 (True) ∧
 OP (iAdrSl 1 x224 x228) fun x229 =>
 OP (iLoad false 1 h x229) fun x230 =>
 (True) ∧
 OH (iMkSl 3 1 [(.int .i64 (0))] h [(0, 1, x230)]) fun x231 h_1 =>
 (True) ∧
 OH (iApp 3 1 8 h_1 x14 x231) fun x232 h_2 =>
 (True) ∧
 OP (iBin .add k24 (.int .i64 (1))) fun x219 =>
 ([j5, p6, l7, r9, c12, i15, o21] : List Value) = [j5, p6, l7, r9, c12, i15, o21] ∧ L2 [x232, x219] h_2)
 (p8z92 P K j5 p6 l7 r9 c12 x14 i15 L1 h)) := (CutP_def _ _ _ _).trans (by kernel_rfl)
theorem q8z76 (j5 p6 l7 r9 c12 x14 i15 x16 x17 : Value) (L1 : LK) (h : Heap) : p8z76 P K j5 p6 l7 r9 c12 x14 i15 x16 x17 L1 h =
 (CallP P 19 [x16, x17] h fun x201 h_1 =>
 OP (iExt 0 x201) fun x202 =>
 OP (iExt 1 x201) fun x203 =>
 OP (iExt 2 x201) fun x204 =>
 OP (iBin .neq x204 (.int .i64 (0))) fun x206 =>
 p8z81 P K j5 p6 l7 r9 c12 x14 i15 x16 x17 x202 x206 L1 h_1) := (CutP_def _ _ _ _).trans (by kernel_rfl)
theorem q8z92 (j5 p6 l7 r9 c12 x14 i15 : Value) (L1 : LK) (h : Heap) : p8z92 P K j5 p6 l7 r9 c12 x14 i15 L1 h =
 (OP (iBin .add i15 (.int .i64 (1))) fun x82 =>
 ([j5, p6, l7, r9, c12] : List Value) = [j5, p6, l7, r9, c12] ∧ L1 [x14, x82] h) := (CutP_def _ _ _ _).trans (by kernel_rfl)
theorem q8z33 (j5 p6 l7 r9 c12 : Value) (L1 : LK) (x14 i15 : Value) (h : Heap) : p8z33 P K j5 p6 l7 r9 c12 L1 [x14, i15] h =
 (OP (iLenSl l7) fun x79 =>
 OP (iBin .lss i15 x79) fun x80 =>
 IfP x80
 (OP (iBin .gtr i15 (.int .i64 (0))) fun x84 =>
 GdP x84 true
 (OP (iBin .sub i15 (.int .i64 (1))) fun x88 =>
 OP (iAdrSl 1 r9 x88) fun x89 =>
 OP (iLoad false 1 h x89) fun x90 =>
 (True) ∧
 CallP P 28 [x90] h fun x91 h_1 =>
 (True) ∧
 OP (iAdrSl 1 r9 i15) fun x94 =>
 OP (iLoad false 1 h_1 x94) fun x95 =>
 (iLoad false 1 h x94 = some x95 ∧ True) ∧
 CallP P 28 [x95] h_1 fun x96 h_2 =>
 (True) ∧
 CallP P 29 [x91, x96] h_2 fun x97 h_3 =>
 (True) ∧
 OP (iBin .leq x97 (.int .i64 (0))) fun x98 =>
 OP (iPick x84 x98 (.bool false)) fun x99 =>
 IfP x99
 (K (.bool false) h_3)
 (OH (iMkSl 46 0 [(.int .i64 (0)), (.int .i64 (0))] h_3 []) fun x100 h_4 =>
 OH (iMkSl 88 0 [(.int .i64 (0)), (.int .i64 (0))] h_4 []) fun x101 h_5 =>
 LoopP [x100, x101, (.int .i64 (0))] h_5 fun L2 xs hx =>
 p8z45 P K j5 p6 l7 r9 c12 x14 i15 L1 L2 xs hx))
 ((True) ∧
 (True) ∧
 (True) ∧
 OP (iPick x84 undef (.bool false)) fun x99 =>
 IfP x99
 (K (.bool false) h)
 (OH (iMkSl 46 0 [(.int .i64 (0)), (.int .i64 (0))] h []) fun x100 h_1 =>
 OH (iMkSl 88 0 [(.int .i64 (0)), (.int .i64 (0))] h_1 []) fun x101 h_2 =>
 LoopP [x100, x101, (.int .i64 (0))] h_2 fun L2 xs hx =>
 p8z45 P K j5 p6 l7 r9 c12 x14 i15 L1 L2 xs hx)))
 (p8z93 P K j5 p6 c12 x14 h)) := (CutP_def _ _ _ _).trans (by kernel_rfl)
theorem q8z98 (x237 x242 : Value) (h : Heap) : p8z98 P K x237 x242 h =
 (OP (iPick x237 x242 (.bool false)) fun x243 =>
 K x243 h) := (CutP_def _ _ _ _).trans (by kernel_rfl)
theorem q8z96 (j5 c12 x14 x237 : Value) (h : Heap) : p8z96 P K j5 c12 x14 x237 h =
 (GdP x237 true
 (CallP P 40 [j5, x14] h fun x240 h_1 =>
 OP (iBin .eql x240 c12) fun x242 =>
 p8z98 P K x237 x242 h_1)
 (p8z98 P K x237 undef h)) := (CutP_def _ _ _ _).trans (by kernel_rfl)
theorem q8z93 (j5 p6 c12 x14 : Value) (h : Heap) : p8z93 P K j5 p6 c12 x14 h =
 (CallP P 39 [j5, p6, x14] h fun x236 h_1 =>
 p8z96 P K j5 c12 x14 x236 h_1) := (CutP_def _ _ _ _).trans (by kernel_rfl)
def T8 (x0 y1 : Value) (h : Heap) : Prop :=
 CallP P 37 [x0, y1, (.int .i64 (9)), (.int .i64 (0))] h fun x28 h_1 =>
 OP (iExt 0 x28) fun x29 =>
 OP (iExt 1 x28) fun x30 =>
 CallP P 31 [x29, x30] h_1 fun x34 h_2 =>
 OP (iExt 0 x34) fun x35 =>
 OP (iExt 1 x34) fun x36 =>
 CallP P 32 [x29, x30] h_2 fun x40 h_3 =>
 OP (iExt 0 x40) fun x41 =>
 OP (iExt 1 x40) fun x42 =>
 CallP P 19 [x29, x30] h_3 fun x46 h_4 =>
 OP (iExt 0 x46) fun x47 =>
 OP (iExt 1 x46) fun x48 =>
 OP (iExt 2 x46) fun x49 =>
 OP (iBin .neq x36 (.int .i64 (0))) fun x51 =>
 p8z9 P K x29 x30 x35 x41 x42 x48 x49 x51 h_4
theorem e8 (x0 y1 : Value) (h : Heap) : iwpP P c8 (bodyP [.tmp 4] K) (frame0 [x0, y1]) h = T8 P K x0 y1 h := by kernel_rfl
theorem f8 {K : VK} {x0 y1 : Value} {h : Heap} (H : T8 Tryz.prog K x0 y1 h) : CallP Tryz.prog 8 [x0, y1] h K :=
 callP_intro k8 (Nat.le_of_ble_eq_true rfl) ((e8 Tryz.prog K x0 y1 h).mpr H)
end Go.Proofs.YtelmdbpaoifmoaaGreat

namespace Go.Proofs.YtelmdbpaoifmoaaGreat
open Go.Sim

theorem app_i1 {hx : Heap} {id : Nat} {l : List Nat} {a : Nat} {K : Value → Heap → Prop} (hg : hx[id]? = some (.arr 3 (l.map fun i : Nat => I i))) (hl : l.length ≤ 1000)
  (hk : ∀ id' hx', hx.length ≤ id' → XM id hx hx' → hx'[id']? = some (.arr 3 ((l ++ [a]).map fun i : Nat => I i)) → K (sl 3 id' 0 (l ++ [a]).length) hx') :
  OH (iMkSl 3 1 [.int .i64 0] hx [(0, 1, I a)]) fun x37 h_1 => OH (iApp 3 1 8 h_1 (sl 3 id 0 l.length) x37) K := by
 have e1 : iMkSl 3 1 [.int .i64 0] hx [(0, 1, I a)] = some (sl 3 hx.length 0 1, hx ++ [.arr 3 [I a]]) := rfl
 simp only [e1, OH_some]
 have e2 : sliceCells (hx ++ [.arr 3 [I a]]) 1 (sl 3 hx.length 0 1) = some [I a] := by simp [sliceCells, sl, objCells]
 have e3 : lenOfSl (sl 3 hx.length 0 1) = some 1 := rfl
 have hlt := (List.getElem?_eq_some_iff.1 hg).1
 have hg' : (hx ++ [.arr 3 [I a]])[id]? = some (.arr 3 (l.map fun i : Nat => I i)) := by rw [List.getElem?_append_left hlt]; exact hg
 refine OH_of (v := sl 3 (hx.length + 1) 0 (l ++ [a]).length) (h := (hx ++ [IObj.arr 3 [I a]]).set id IObj.dead ++ [IObj.arr 3 ((l ++ [a]).map fun i : Nat => I i)]) ?_
  (hk _ _ (by omega) (((XM.ex (EX.append _ _)).set _).trans (XM.ex (EX.append _ _))) (by rw [List.getElem?_append_right (by simp)]; simp))
 simp only [iApp, e2, e3]
 simp only [sl, hg']
 rw [if_pos ⟨trivial, trivial, by simp, by omega, by unfold maxLen; omega⟩, if_neg (by omega)]
 simp

theorem decS_short {a k : Nat} (ha : a < 10 ^ k) (hk : 1 ≤ k) (hb : a < bigW) : (decS a).length ≤ k := by
 obtain ⟨d1, d2, d3, d4, d5⟩ := decS_facts hb
 cases e : decS a with
 | nil => simp
 | cons c r =>
  rw [e] at d1 d4 d5
  by_cases hc : c = 48
  ·have := d4 (by rw [hc]; rfl)
   omega
  ·have h1 := d1 c (by simp)
   rw [valB_cons] at d5
   have h2 : c.toNat ≠ 48 := fun h => hc (UInt8.toNat_inj.1 h)
   have h3 := Nat.mul_le_mul_right (10 ^ r.length) (show 1 ≤ c.toNat - 48 by omega)
   have h4 : 10 ^ r.length < 10 ^ k := by omega
   have := (Nat.pow_lt_pow_iff_right (show 1 < 10 by decide)).1 h4
   simp; omega

theorem ratS_short {a b : Nat} (ha : a < 1000) (hb : b < 1000) : (ratS a b).length ≤ 7 := by
 have hW := bigW18
 have q1 := decS_short (a := a) (k := 3) (by omega) (by omega) (by omega)
 have q2 := decS_short (a := b) (k := 3) (by omega) (by omega) (by omega)
 unfold ratS numS
 rw [if_neg (show ¬ (a : Int) < 0 by omega), Int.natAbs_natCast, Int.natAbs_natCast]
 split
 ·omega
 ·rw [List.length_append, List.length_cons]; omega

theorem take_map' {α β : Type} (f : α → β) (l : List α) {k : Nat} (h : k < l.length) : (l.map f).take (k + 1) = (l.map f).take k ++ [f l[k]] := by
 rw [List.take_succ_eq_append_getElem (by simpa using h)]; simp

theorem sid_at {bs : List Nat} {js : List (Int × Int)} {n : Nat} : ∀ {os : List Nat} {d i : Nat} (h1 : i + 1 < os.length), SidP bs js n d os → ∃ d', IsSid bs js n d' (os[i]'(by omega)) ∧ IsSid bs js n (d' ||| os[i]'(by omega)) os[i + 1]
 | b :: c :: os, d, 0, _, h => ⟨d, h.1, h.2.1⟩
 | b :: os, d, i + 1, h1, h => by
  obtain ⟨d', h2⟩ := sid_at (os := os) (i := i) (by simpa using h1) h.2
  exact ⟨d', h2⟩

noncomputable def gSet (js ps : List (Int × Int)) (s : Nat) : List Nat :=
 open Classical in
 if h : ∃ o, GrP (bsOf (allP (listS s 10) ps (listS s 10).length) (listS s 10).length) (ownJ js (listS s 10)) (listS s 10).length 0 o then (Classical.choose h).map fun k => (listS s 10).getD k 0 else []

theorem gSet_eq {js ps : List (Int × Int)} {s : Nat} {o : List Nat} (h : GrP (bsOf (allP (listS s 10) ps (listS s 10).length) (listS s 10).length) (ownJ js (listS s 10)) (listS s 10).length 0 o) :
  gSet js ps s = o.map fun k => (listS s 10).getD k 0 := by
 have hx : ∃ o, GrP (bsOf (allP (listS s 10) ps (listS s 10).length) (listS s 10).length) (ownJ js (listS s 10)) (listS s 10).length 0 o := ⟨o, h⟩
 unfold gSet
 rw [dif_pos hx, GrP.uniq (Classical.choose_spec hx) h]

theorem full_len {bs : List Nat} {n : Nat} {l : List Nat} (ho : okO bs n 0 l = true) (hf : stO 0 l = fullS n) : l.length = n := by
 obtain ⟨⟨nd, _⟩, _⟩ := okO_facts ho
 have h1 := nodup_sub_len (A := l) (B := List.range n) nd fun x hx => List.mem_range.2 (okO_lt ho x hx)
 have h2 := nodup_sub_len (A := List.range n) (B := l) List.nodup_range fun x hx => by
  have := stO_mem l 0 x
  rw [hf, fullS_bit, decide_eq_true (List.mem_range.1 hx), Nat.zero_testBit, Bool.false_or] at this
  exact of_decide_eq_true this.symm
 rw [List.length_range] at h1 h2
 omega

theorem gSet_len (js ps : List (Int × Int)) (s : Nat) : (gSet js ps s).length ≤ 10 := by
 by_cases hx : ∃ o, GrP (bsOf (allP (listS s 10) ps (listS s 10).length) (listS s 10).length) (ownJ js (listS s 10)) (listS s 10).length 0 o
 ·obtain ⟨o, ho⟩ := hx
  rw [gSet_eq ho, List.length_map]
  obtain ⟨h1, h2, _⟩ := GrP.ok (listS_len s 10) ho
  rw [full_len h1 h2]
  exact listS_len s 10
 ·unfold gSet
  rw [dif_neg hx]; simp

theorem flat_len {g : Nat → List Nat} (hg : ∀ s, (g s).length ≤ 10) : ∀ os : List Nat, (os.flatMap g).length ≤ 10 * os.length
 | [] => by simp
 | s :: os => by
  have := flat_len hg os
  have := hg s
  rw [List.flatMap_cons, List.length_append, List.length_cons]
  omega

theorem set_best {J P : List (Int × Int)} {s : Nat} (vd : Vd J P J.length (bsOf P J.length)) (hs : s < 2 ^ J.length) (h0 : s ≠ 0) (hrank : ∀ p ∈ P, 7 * p.1 % 11 < 7 * p.2 % 11) :
  validB (ownJ J (listS s 10)) (allP (listS s 10) P (listS s 10).length) = true ∧
  ∀ o, GrP (bsOf (allP (listS s 10) P (listS s 10).length) (listS s 10).length) (ownJ J (listS s 10)) (listS s 10).length 0 o →
   IsPart (bsOf P J.length) s (gSet J P s) ∧ ∀ l, IsPart (bsOf P J.length) s l → costF J 0 (gSet J P s) ≤ costF J 0 l := by
 have nd := listS_nodup s 10
 have hE := listS_mem hs vd.n10
 have hEl : 1 ≤ (listS s 10).length ∧ (listS s 10).length ≤ 10 := by
  refine ⟨?_, listS_len _ _⟩
  obtain ⟨x, hx⟩ := bit_of_ne h0
  exact List.length_pos_of_mem ((hE x).2 hx)
 have hEn : ∀ x ∈ listS s 10, x < J.length := fun x hx => bit_lt hs ((hE x).1 hx)
 have hown := ownJ_valid (ps := P) vd.small hEl.1 hEl.2 hEn nd vd.p40 (rk := fun a => 7 * a % 11) (fun a => by omega) hrank
 have hEo : (ownJ J (listS s 10)).length = (listS s 10).length := by simp [ownJ]
 refine ⟨hown, fun o ho => ?_⟩
 have vo := validB_of hown
 rw [hEo] at vo
 have w := ownJ_own (js := J) vd.is hE hs nd vo.is
 rw [gSet_eq ho]
 refine w.best (fun i hi => ?_) vo.small.all hEl.2 vo.ac ho
 rw [vd.is.bit i (hEn i hi) i]
 exact decide_eq_false fun hm => by have := hrank _ hm; simp only at this; omega

set_option maxHeartbeats 2000000 in
theorem C8 {vx vy : Value} {xs ys : List (Int × Int)} {h : Heap} {K : Value → Heap → Prop} (hx : IS h 44 2 vx (bcells xs) xs.length) (bx : byte2 xs) (hy : IS h 44 2 vy (bcells ys) ys.length) (by2 : byte2 ys) (hk : ∀ h', K (B true) h') : CallP Tryz.prog 8 [vx, vy] h K := by
 refine f8 ?_
 unfold T8
 refine C37 (most := 9) (least := 0) hx bx hy by2 (by decide) (by decide) (by decide) ?_
 intro vj vp g1 x1 hj hp
 have hval := made_valid xs ys (most := 9) (least := 0) (by decide) (by decide) (by decide)
 have hlenJ := madeJ_len xs ((0 : Nat) : Int) (most := 9) (by decide) (by decide)
 have hrank := madeP_rank (ys := ys) hlenJ.1 hlenJ.2
 have hpl20 := madeP_len ys (madeJ xs 9 ((0 : Nat) : Int)).length
 have hj := hj.ps
 have hp := hp.ps
 simp only [ext_tuple, pair0, pair1, OP_some]
 generalize madeJ xs 9 ((0 : Nat) : Int) = J at *
 generalize madeP ys J.length = P at *
 have vd := validB_of hval
 have n10 := vd.n10
 have two := vd.two
 have h2n : (0 : Nat) < 2 ^ J.length := Nat.pow_pos (by decide)
 refine C31 hj hp (by omega) (by omega) (fun hc => by rw [hval] at hc; cases hc) (fun _ os va g2 x2 hos ha => ?_)
 simp only [ext_tuple, pair0, pair1, OP_some]
 refine C32 (hj.mono x2) (hp.mono x2) (by omega) (by omega) (fun hc => by rw [hval] at hc; cases hc) (fun _ os' vr g3 x3 hos' hr => ?_)
 obtain rfl := hos.uniq hos'
 simp only [ext_tuple, pair0, pair1, OP_some]
 have x23 := x2.trans x3
 refine C19 (hj.mono x23) (hp.mono x23) (by omega) (by omega) (fun hc => by rw [hval] at hc; cases hc) (fun _ _ vb g4 lb x4 hlb hgr hlbl => ?_)
 simp only [ext_tuple, (trip _ _ _).1, (trip _ _ _).2.1, (trip _ _ _).2.2, OP_some]
 have x24 := x23.trans x4
 have hj := hj.mono x24
 have hp := hp.mono x24
 have ha := ha.mono (x3.trans x4)
 have hr := hr.mono x4
 have hos0 : SidP (bsOf P J.length) J J.length 0 os := hos
 have hol := sid_len h2n hos
 have hlt := SidP.lt h2n hos
 have P1 := vd.small.pos rfl
 have hne : ∀ s ∈ os, s ≠ 0 := by
  have key : ∀ {l : List Nat} {d : Nat}, SidP (bsOf P J.length) J J.length d l → ∀ s ∈ l, s ≠ 0 := by
   intro l
   induction l with
   | nil => intro d _ s hs; simp at hs
   | cons b l ih =>
    intro d h s hs
    rcases List.mem_cons.1 hs with rfl | hs
    ·exact h.1.1.1.ne
    ·exact ih h.2 s hs
  exact key hos
 have hW := bigW18
 -- the ratios asz texts
 have rat : ∀ s ∈ os, ∃ a b : Nat, ratio J s = ((a : Int), (b : Int)) ∧ (a < 1000 ∧ b < 1000) ∧ 1 ≤ b ∧ parseQ (ratS (ratio J s).1 (ratio J s).2) = some ((a : Int), b) ∧ (ratS (ratio J s).1 (ratio J s).2).length ≤ 700 ∧ ∃ G : Nat, 0 < G ∧ wS J s = a * G ∧ lS J s = b * G := by
  intro s hs
  have h1 := lS_pos P1 n10 (hlt s hs) (hne s hs)
  have h2 := lS_le vd.small s
  have h3 := wS_le vd.small s
  obtain ⟨w, hw⟩ : ∃ w : Nat, wS J s = (w : Int) := ⟨(wS J s).toNat, by omega⟩
  obtain ⟨l, hl⟩ : ∃ l : Nat, lS J s = (l : Int) := ⟨(lS J s).toNat, by omega⟩
  have hg : 0 < Nat.gcd w l := Nat.gcd_pos_of_pos_right _ (by omega)
  have er : ratio J s = (((w / Nat.gcd w l : Nat) : Int), ((l / Nat.gcd w l : Nat) : Int)) := by
   unfold ratio
   rw [hw, hl, Int.natAbs_natCast, Int.natAbs_natCast]
   simp
  have wl : w / Nat.gcd w l ≤ w := Nat.div_le_self ..
  have ll : l / Nat.gcd w l ≤ l := Nat.div_le_self ..
  have ew := Nat.div_mul_cancel (Nat.gcd_dvd_left w l)
  have el := Nat.div_mul_cancel (Nat.gcd_dvd_right w l)
  have l1 : 1 ≤ l / Nat.gcd w l := by
   apply Nat.pos_of_ne_zero
   intro e
   rw [e, Nat.zero_mul] at el
   omega
  have gg : Nat.gcd (w / Nat.gcd w l) (l / Nat.gcd w l) = 1 := Nat.gcd_div_gcd_div_gcd_of_pos_right (by omega)
  refine ⟨_, _, er, ⟨by omega, by omega⟩, l1, ?_, ?_, Nat.gcd w l, hg, ?_, ?_⟩
  ·rw [er]
   exact parse_ratS (by omega) (by omega) l1 gg
  ·rw [er]
   exact Nat.le_trans (ratS_short (by omega) (by omega)) (by decide)
  ·rw [hw, ← Int.natCast_mul, ew]
  ·rw [hl, ← Int.natCast_mul, el]
 have e0 : ∀ x : Nat, iBin .neq (I 0) (.int .i64 0) = some (B false) := fun _ => rfl
 have lr := hr.len
 have la := ha.len
 rw [List.length_map] at lr la
 -- the walk up to the loop over the sets
 have e00 : iBin .neq (.int .i64 0) (.int .i64 0) = some (B false) := rfl
 have bneq : ∀ a : Nat, iBin .neq (I a) (I a) = some (B false) := fun a => by simp [bin_neq]
 simp only [e00, OP_some, q8z9, GdP_ff, q8z11, iPick_f, q8z13, q8z15, q8z17, lr, la, bneq, q8z19, q8z21]
 refine C38 hr (by rw [List.length_map]; omega) (fun s hs => ?_) ?_
 ·obtain ⟨s2, hs2, rfl⟩ := List.mem_map.1 hs
  obtain ⟨a, b, _, _, _, p, q, _⟩ := rat s2 hs2
  exact ⟨q, by rw [p]; rfl⟩
 intro g5 x5
 simp only [e00, OP_some, q8z23, iPick_f, q8z25, GdP_ff]
 refine C14 ?_
 have e6 : ∀ g : Heap, iMkSl 3 0 [(.int .i64 (0))] g [] = some (sl 3 g.length 0 0, g ++ [.arr 3 []]) := fun _ => rfl
 simp only [un_not, OP_some, Bool.not_true, q8z27, iPick_f, IfP_false, e6, OH_some]
 have hj := hj.mono x5
 have hp := hp.mono x5
 have ha := ha.mono x5
 have hr := hr.mono x5
 clear hlb
 -- the loop over the sets
 refine loopL (σ := Nat × Nat × Heap) (fun q => [sl 3 q.2.1 0 ((os.take q.1).flatMap (gSet J P)).length, I q.1]) (fun q => q.2.2)
  (fun q => q.1 ≤ os.length ∧ EX g5 q.2.2 ∧ g5.length ≤ q.2.1 ∧ (∀ s ∈ os.take q.1, ∃ o, GrP (bsOf (allP (listS s 10) P (listS s 10).length) (listS s 10).length) (ownJ J (listS s 10)) (listS s 10).length 0 o) ∧ q.2.2[q.2.1]? = some (.arr 3 (((os.take q.1).flatMap (gSet J P)).map fun i : Nat => I i))) (fun q => os.length - q.1)
  (0, g5.length, g5 ++ [.arr 3 []]) rfl rfl ⟨Nat.zero_le _, EX.append _ _, Nat.le_refl _, fun s hs => by simp at hs, get_last⟩ ?_
 rintro ⟨i, io, g⟩ ⟨hi, xg, hio, hgr', kio⟩ L hL
 simp only at hi xg hio hgr' kio hL ⊢
 have hsum : ∀ i, (((os.take i).flatMap (gSet J P)).length) ≤ 100 := fun i => by
  have := flat_len (gSet_len J P) (os.take i)
  have : (os.take i).length ≤ os.length := by rw [List.length_take]; omega
  omega
 rw [q8z33]
 simp only [la, OP_some, bin_lss, IfP_dec]
 refine ⟨fun hlt2 => ?_, fun hge => ?_⟩
 rotate_left
 ·have hie : i = os.length := by omega
  subst hie
  rw [List.take_length] at hgr' kio ⊢
  have hs100 := hsum os.length
  rw [List.take_length] at hs100
  obtain ⟨o1, o2, o3⟩ := sidney_best (fun i => vd.small.all i) P1 n10 vd.ac (fun i hi j hb => by
   rw [vd.is.bit i hi j] at hb
   have := (hrank _ (of_decide_eq_true hb)).2
   rintro rfl
   simp only at this
   omega) hos (g := gSet J P) (fun s hs => by
   obtain ⟨o, ho⟩ := hgr' s hs
   exact (set_best vd (hlt s hs) (hne s hs) fun p hp => (hrank p hp).2).2 o ho)
  have ns : NS g (sl 3 io 0 (os.flatMap (gSet J P)).length) .i64 ((os.flatMap (gSet J P)).map fun i : Nat => (i : Int)) := OwnS.ns (b := g5.length) (.inr ⟨io, hio, by rw [List.length_map], kio⟩) (by omega)
  have hlen := full_len o1 o2
  obtain ⟨_, _, c3⟩ := GrP.ok n10 hgr
  rw [now_zero] at c3
  rw [q8z93]
  refine C39 (hj.mono xg) (hp.mono xg) vd ns (by rw [List.length_map]; omega) ?_
  rw [okI_nat, o1, List.length_map, decide_eq_true hlen, q8z96]
  simp only [Bool.true_and, GdP_tt]
  refine C40 (hj.mono xg) vd.small ns (okO_lt o1) (by omega) ?_
  rw [o3, c3]
  simp only [bin_eql, OP_some, decide_true, q8z98, iPick_t]
  exact hk _
 have hil : i < os.length := by omega
 have hsm := List.getElem_mem hil
 have hs := hlt _ hsm
 -- the set's jobs
 have nd := listS_nodup os[i] 10
 have hE := listS_mem hs n10
 have hEl : 1 ≤ (listS os[i] 10).length ∧ (listS os[i] 10).length ≤ 10 := by
  refine ⟨?_, listS_len _ _⟩
  obtain ⟨x, hx⟩ := bit_of_ne (hne _ hsm)
  exact List.length_pos_of_mem ((hE x).2 hx)
 have hEn : ∀ x ∈ listS os[i] 10, x < J.length := fun x hx => bit_lt hs ((hE x).1 hx)
 have hown := ownJ_valid (ps := P) vd.small hEl.1 hEl.2 hEn nd (by omega) (rk := fun a => 7 * a % 11) (fun a => by omega) (fun p hp => (hrank p hp).2)
 have hga : ∀ {g' : Heap}, EX g5 g' → ∃ b o w, iAdrSl 1 va (I i) = some (pt b o) ∧ iLoad false 1 g' (pt b o) = some w ∧ NS g' w .i64 ((listS os[i] 10).map fun i : Nat => (i : Int)) := by
  intro g' x
  obtain ⟨b, o, w, r1, r2, r3⟩ := (ha.mono x).get i (by simpa using hil)
  rw [List.getElem_map] at r3
  exact ⟨b, o, w, r1, r2, r3⟩
 have hpart := fun {k m n : Nat} (hk : k < (listS os[i] 10).length) (hm : m < (listS os[i] 10).length) => part_len nd P (n := n) hk hm
 have hEo : (ownJ J (listS os[i] 10)).length = (listS os[i] 10).length := by simp [ownJ]
 have gE : gSet J P os[i] = gSet J P os[i] := rfl
 -- behind the ratios
 have body : ∀ g', EX g g' → (OH (iMkSl 46 0 [(.int .i64 (0)), (.int .i64 (0))] g' []) fun x100 h_4 =>
    OH (iMkSl 88 0 [(.int .i64 (0)), (.int .i64 (0))] h_4 []) fun x101 h_5 =>
    LoopP [x100, x101, (.int .i64 (0))] h_5 fun L2 xs hx =>
    p8z45 Tryz.prog K vj vp va vr (I (costF J 0 lb)) (sl 3 io 0 ((os.take i).flatMap (gSet J P)).length) (I i) L L2 xs hx) := by
  intro g' xg'
  have e46 : iMkSl 46 0 [(.int .i64 (0)), (.int .i64 (0))] g' [] = some (sl 46 g'.length 0 0, g' ++ [.arr 46 []]) := rfl
  have e88 : ∀ g : Heap, iMkSl 88 0 [(.int .i64 (0)), (.int .i64 (0))] g [] = some (sl 88 g.length 0 0, g ++ [.arr 88 []]) := fun _ => rfl
  simp only [e46, e88, OH_some, List.length_append, List.length_cons, List.length_nil, Nat.zero_add]
  have hiol := (List.getElem?_eq_some_iff.1 kio).1
  have hgl := xg'.1
  have hgl5 := xg.1
  generalize hEq : listS os[i] 10 = E at *
  generalize hO : (os.take i).flatMap (gSet J P) = O at *
  refine loopL (σ := Nat × Nat × Nat × Heap) (fun q => [sl 46 q.2.1 0 ((ownJ J E).take q.1).length, sl 88 q.2.2.1 0 (allP E P q.1).length, I q.1]) (fun q => q.2.2.2)
   (fun q => q.1 ≤ E.length ∧ EX g5 q.2.2.2 ∧ (g5.length ≤ q.2.1 ∧ g5.length ≤ q.2.2.1) ∧ (io ≠ q.2.1 ∧ io ≠ q.2.2.1 ∧ q.2.1 ≠ q.2.2.1) ∧ q.2.2.2[io]? = some (.arr 3 (O.map fun i : Nat => I i)) ∧
    q.2.2.2[q.2.1]? = some (.arr 46 (pcells ((ownJ J E).take q.1))) ∧ q.2.2.2[q.2.2.1]? = some (.arr 88 (pcells (allP E P q.1)))) (fun q => E.length - q.1)
   (0, g'.length, g'.length + 1, g' ++ [.arr 46 []] ++ [.arr 88 []]) rfl rfl ⟨Nat.zero_le _, (xg.trans xg').trans ((EX.append _ _).push _), ⟨by show g5.length ≤ g'.length; omega, by show g5.length ≤ g'.length + 1; omega⟩,
    ⟨by show io ≠ g'.length; omega, by show io ≠ g'.length + 1; omega, by show g'.length ≠ g'.length + 1; omega⟩, ((EX.append _ _).push _).get (xg'.get kio), by simp [pcells], by simp [pcells, allP, accP]⟩ ?_
  rintro ⟨k, jo, po, g1⟩ ⟨hk, xg1, ⟨hjo, hpo⟩, ⟨n1, n2, n3⟩, k1, k2, k3⟩ L2 hL2
  simp only at hk xg1 hjo hpo n1 n2 n3 k1 k2 k3 hL2 ⊢
  rw [q8z45]
  obtain ⟨b, o, w0, r1, r2, r3⟩ := hga xg1
  simp only [r1, r2, OP_some, r3.lenN, bin_lss, IfP_dec]
  refine ⟨fun hklt => ?_, fun hkge => ?_⟩
  ·have hkE : k < E.length := by omega
   obtain ⟨b2, o2, s1, s2⟩ := r3.getN hkE
   have hin := hEn _ (List.getElem_mem hkE)
   simp only [s1, s2, OP_some, bin_lss, decide_eq_false (show ¬ ((E[k] : Nat) : Int) < 0 by omega)]
   rw [q8z53]
   simp only [GdP_ff, r1, r2, s1, s2, OP_some, (hj.mono xg1).len, bin_geq, decide_eq_false (show ¬ (J.length : Int) ≤ ((E[k] : Nat) : Int) by omega)]
   rw [q8z55]
   simp only [iPick_f, OP_some, IfP_false, r1, r2, s1, s2]
   obtain ⟨b4, o4, t1, _, _, t4⟩ := PS.getD (hj.mono xg1) hin
   simp only [t1, t4, OP_some]
   have hok : (ownJ J E).take (k + 1) = (ownJ J E).take k ++ [((J.getD E[k] (0, 0)).1, (J.getD E[k] (0, 0)).2)] := take_map' _ E hkE
   refine app_p2 k2 (by rw [List.length_take]; omega) ?_
   intro jo2 g2 hjo2 xm2 k22
   rw [← hok] at k22 ⊢
   have hl1 := (List.getElem?_eq_some_iff.1 k1).1
   have hl2 := (List.getElem?_eq_some_iff.1 k2).1
   have hl3 := (List.getElem?_eq_some_iff.1 k3).1
   have xg2 : EX g5 g2 := xm2.toE xg1 hjo
   have k1 := xm2.get n1 k1
   have k3 := xm2.get n3.symm k3
   -- the loop over the other number
   refine loopL (σ := Nat × Nat × Heap) (fun q => [sl 88 q.2.1 0 (allP E P k ++ colP E P k q.1).length, I q.1]) (fun q => q.2.2)
    (fun q => q.1 ≤ E.length ∧ EX g5 q.2.2 ∧ g5.length ≤ q.2.1 ∧ (io ≠ q.2.1 ∧ jo2 ≠ q.2.1) ∧ q.2.2[io]? = some (.arr 3 (O.map fun i : Nat => I i)) ∧
     q.2.2[jo2]? = some (.arr 46 (pcells ((ownJ J E).take (k + 1)))) ∧ q.2.2[q.2.1]? = some (.arr 88 (pcells (allP E P k ++ colP E P k q.1)))) (fun q => E.length - q.1)
    (0, po, g2) (by simp [colP, accP]) rfl ⟨Nat.zero_le _, xg2, hpo, ⟨n2, by show jo2 ≠ po; omega⟩, k1, k22, by simpa [colP, accP] using k3⟩ ?_
   rintro ⟨m, po, g3⟩ ⟨hm, xg3, hpo, ⟨n2, n3⟩, k1, k2, k3⟩ L3 hL3
   simp only at hm xg3 hpo n2 n3 k1 k2 k3 hL3 ⊢
   rw [q8z60]
   obtain ⟨b, o, w0, r1, r2, r3⟩ := hga xg3
   simp only [r1, r2, OP_some, r3.lenN, bin_lss, IfP_dec]
   refine ⟨fun hmlt => ?_, fun hmge => ?_⟩
   ·have hmE : m < E.length := by omega
    -- the loop over the pairs
    refine loopL (σ := Nat × Nat × Heap) (fun q => [sl 88 q.2.1 0 (allP E P k ++ (colP E P k m ++ rowP E (P.take q.1) k m)).length, I q.1]) (fun q => q.2.2)
     (fun q => q.1 ≤ P.length ∧ EX g5 q.2.2 ∧ g5.length ≤ q.2.1 ∧ (io ≠ q.2.1 ∧ jo2 ≠ q.2.1) ∧ q.2.2[io]? = some (.arr 3 (O.map fun i : Nat => I i)) ∧
      q.2.2[jo2]? = some (.arr 46 (pcells ((ownJ J E).take (k + 1)))) ∧ q.2.2[q.2.1]? = some (.arr 88 (pcells (allP E P k ++ (colP E P k m ++ rowP E (P.take q.1) k m))))) (fun q => P.length - q.1)
     (0, po, g3) (by simp [rowP]) rfl ⟨Nat.zero_le _, xg3, hpo, ⟨n2, n3⟩, k1, k2, by simpa [rowP] using k3⟩ ?_
    rintro ⟨n, po, g4⟩ ⟨hn, xg4, hpo, ⟨n2, n3⟩, k1, k2, k3⟩ L4 hL4
    simp only at hn xg4 hpo n2 n3 k1 k2 k3 hL4 ⊢
    rw [q8z67]
    simp only [(hp.mono xg4).len, OP_some, bin_lss, IfP_dec]
    refine ⟨fun hnlt => ?_, fun hnge => ?_⟩
    ·have hnP : n < P.length := by omega
     obtain ⟨b5, o5, u1, u2, u3, _⟩ := PS.getD (hp.mono xg4) hnP
     obtain ⟨b, o, w0, r1, r2, r3⟩ := hga xg4
     obtain ⟨b6, o6, v1, v2⟩ := r3.getN hkE
     obtain ⟨b7, o7, z1, z2⟩ := r3.getN hmE
     have ePn : P.getD n (0, 0) = P[n] := by simp [List.getD_eq_getElem?_getD, hnP]
     rw [ePn] at u2 u3
     have htk : P.take (n + 1) = P.take n ++ [P[n]] := List.take_succ_eq_append_getElem hnP
     have hrow : rowP E (P.take (n + 1)) k m = rowP E (P.take n) k m ++ if P[n].1 = ((E.getD k 0 : Nat) : Int) ∧ P[n].2 = ((E.getD m 0 : Nat) : Int) then [((k : Int), (m : Int))] else [] := by
      rw [htk]
      unfold rowP
      rw [List.filterMap_append]
      congr 1
      simp only [List.filterMap_cons, List.filterMap_nil]
      split <;> simp_all
     rw [getD_get hkE, getD_get hmE] at hrow
     have hlen := hpart (n := n) hkE hmE
     have nx : ¬ (P[n].1 = ((E[k] : Nat) : Int) ∧ P[n].2 = ((E[m] : Nat) : Int)) → p8z73 Tryz.prog K vj vp va vr (I (costF J 0 lb)) (sl 3 io 0 O.length) (I i) (sl 46 jo2 0 ((ownJ J E).take (k + 1)).length) (sl 88 po 0 (allP E P k ++ (colP E P k m ++ rowP E (P.take n) k m)).length) (I k) (I m) (I n) L L2 L3 L4 g4 := by
      intro hno
      rw [if_neg hno, List.append_nil] at hrow
      rw [q8z73]
      simp only [bin_add, OP_some, inc n (by omega), true_and]
      have := hL4 (n + 1, po, g4) ⟨by show n + 1 ≤ _; omega, xg4, hpo, ⟨n2, n3⟩, k1, k2, by show g4[po]? = some (.arr 88 (pcells (allP E P k ++ (colP E P k m ++ rowP E (P.take (n + 1)) k m)))); rw [hrow]; exact k3⟩ (by show P.length - (n + 1) < P.length - n; omega)
      simp only [hrow] at this
      exact this
     simp only [u1, fadr_pt, Nat.add_zero, OP_some, u2, true_and, r1, r2, v1, v2, bin_eql]
     by_cases hA : P[n].1 = ((E[k] : Nat) : Int)
     rotate_left
     ·simp only [decide_eq_false hA, GdP_ft, iPick_f, OP_some, IfP_false]
      exact nx fun h => hA h.1
     simp only [decide_eq_true hA, GdP_tt, u1, fadr_pt, OP_some, u3, true_and, z1, z2, bin_eql, iPick_t]
     by_cases hB : P[n].2 = ((E[m] : Nat) : Int)
     rotate_left
     ·simp only [decide_eq_false hB, GdP_ft, iPick_f, OP_some, IfP_false]
      exact nx fun h => hB h.2
     have l88 : iLenSl (sl 88 po 0 (allP E P k ++ (colP E P k m ++ rowP E (P.take n) k m)).length) = some (I (allP E P k ++ (colP E P k m ++ rowP E (P.take n) k m)).length) := rfl
     simp only [decide_eq_true hB, GdP_tt, l88, OP_some, bin_lss, decide_eq_true (show (((allP E P k ++ (colP E P k m ++ rowP E (P.take n) k m)).length : Nat) : Int) < 40 by omega), iPick_t, IfP_true, bld]
     rw [if_pos ⟨hA, hB⟩] at hrow
     refine app_p2 k3 (by omega) ?_
     intro po2 g6 hpo2 xm6 k62
     have hlst : allP E P k ++ (colP E P k m ++ rowP E (P.take n) k m) ++ [((k : Int), (m : Int))] = allP E P k ++ (colP E P k m ++ rowP E (P.take (n + 1)) k m) := by rw [hrow]; simp
     rw [hlst] at k62 ⊢
     have hl1 := (List.getElem?_eq_some_iff.1 k1).1
     have hl2 := (List.getElem?_eq_some_iff.1 k2).1
     rw [q8z73]
     simp only [bin_add, OP_some, inc n (by omega), true_and]
     exact hL4 (n + 1, po2, g6) ⟨by show n + 1 ≤ _; omega, xm6.toE xg4 hpo, by show g5.length ≤ po2; have := xg4.1; omega, ⟨by show io ≠ po2; omega, by show jo2 ≠ po2; omega⟩, xm6.get n2 k1, xm6.get n3 k2, k62⟩ (by show P.length - (n + 1) < P.length - n; omega)
    ·have hne : n = P.length := by omega
     subst hne
     rw [List.take_length] at k3 ⊢
     have hcol : allP E P k ++ (colP E P k m ++ rowP E P k m) = allP E P k ++ colP E P k (m + 1) := rfl
     rw [hcol] at k3 ⊢
     rw [q8z74]
     simp only [bin_add, OP_some, inc m (by omega), true_and]
     exact hL3 (m + 1, po, g4) ⟨by show m + 1 ≤ _; omega, xg4, hpo, ⟨n2, n3⟩, k1, k2, k3⟩ (by show E.length - (m + 1) < E.length - m; omega)
   ·have hme : m = E.length := by omega
    subst hme
    have hall : allP E P k ++ colP E P k E.length = allP E P (k + 1) := rfl
    rw [hall] at k3 ⊢
    rw [q8z75]
    simp only [bin_add, OP_some, inc k (by omega), true_and]
    exact hL2 (k + 1, jo2, po, g3) ⟨by show k + 1 ≤ _; omega, xg3, ⟨by show g5.length ≤ jo2; have := xg1.1; omega, hpo⟩, ⟨by show io ≠ jo2; omega, n2, n3⟩, k1, k2, k3⟩ (by show E.length - (k + 1) < E.length - k; omega)
  ·have hke : k = E.length := by omega
   subst hke
   have hfull : (ownJ J E).take E.length = ownJ J E := by rw [← hEo, List.take_length]
   rw [hfull] at k2 ⊢
   have hiol1 := (List.getElem?_eq_some_iff.1 k1).1
   have hallen := allP_len nd P
   rw [q8z76]
   refine C19 (PS.arr k2) (PS.arr k3) (by omega) (by omega) (fun hc => by rw [hown] at hc; cases hc) (fun vo _ ob g6 o x6 hob hgo hol2 => ?_)
   simp only [ext_tuple, (trip _ _ _).1, (trip _ _ _).2.1, (trip _ _ _).2.2, OP_some, e00]
   have hgo2 := hgo
   rw [hEo] at hgo2
   have hgs := gSet_eq (js := J) (ps := P) (s := os[i]) (o := o) (by rw [hEq]; exact hgo2)
   rw [hEq] at hgs
   obtain ⟨p1, p2, _⟩ := GrP.ok vo.n10 hgo
   have hon : o ≠ [] := by intro e; rw [e] at hol2; simp at hol2; omega
   have ol10 : o.length ≤ 10 := by omega
   have oE : ∀ x ∈ o, x < E.length := fun x hx => by have := okO_lt p1 x hx; omega
   obtain ⟨ib, hib, rfl, kib⟩ : ∃ ib, g1.length ≤ ib ∧ ob = sl 3 ib 0 (o.map fun i : Nat => I i).length ∧ g6[ib]? = some (.arr 3 (o.map fun i : Nat => I i)) := by
    rcases hob with ⟨_, h2⟩ | h2
    ·exact absurd (by simpa using h2) hon
    ·exact h2
   have nso : ∀ {g7 : Heap}, g7[ib]? = some (.arr 3 (o.map fun i : Nat => I i)) → NS g7 (sl 3 ib 0 (o.map fun i : Nat => I i).length) .i64 (o.map fun i : Nat => (i : Int)) := fun k => OwnS.ns (b := g1.length) (.inr ⟨ib, hib, rfl, k⟩) (by omega)
   rw [q8z81]
   simp only [GdP_ff]
   refine C39 ((PS.arr k2).mono x6) ((PS.arr k3).mono x6) vo (nso kib) (by rw [List.length_map]; omega) ?_
   rw [okI_nat, p1, List.length_map, hol2, decide_eq_true rfl]
   simp only [Bool.true_and, un_not, OP_some, Bool.not_true]
   rw [q8z83]
   simp only [iPick_f, OP_some, IfP_false]
   -- the set's best order is put behind
   have O1000 := hsum i
   rw [hO] at O1000
   refine loopL (σ := Nat × Nat × Heap) (fun q => [sl 3 q.2.1 0 (O ++ (o.map fun k => E.getD k 0).take q.1).length, I q.1]) (fun q => q.2.2)
    (fun q => q.1 ≤ o.length ∧ EX g5 q.2.2 ∧ g5.length ≤ q.2.1 ∧ q.2.1 ≠ ib ∧ q.2.2[ib]? = some (.arr 3 (o.map fun i : Nat => I i)) ∧ q.2.2[q.2.1]? = some (.arr 3 ((O ++ (o.map fun k => E.getD k 0).take q.1).map fun i : Nat => I i))) (fun q => o.length - q.1)
    (0, io, g6) (by simp) rfl ⟨Nat.zero_le _, xg1.trans x6, hio, by show io ≠ ib; omega, kib, by simpa using x6.get k1⟩ ?_
   rintro ⟨k, io2, g7⟩ ⟨hk7, xg7, hio2, hne2, kb7, ko7⟩ L5 hL5
   simp only at hk7 xg7 hio2 hne2 kb7 ko7 hL5 ⊢
   rw [q8z87]
   simp only [(nso kb7).lenN, OP_some, bin_lss, IfP_dec]
   refine ⟨fun h1 => ?_, fun h1 => ?_⟩
   ·have hko : k < o.length := by omega
    obtain ⟨b, b2, w0, r1, r2, r3⟩ := hga xg7
    obtain ⟨b3, b4, s1, s2⟩ := (nso kb7).getN hko
    obtain ⟨b5, b6, t1, t2⟩ := r3.getN (oE _ (List.getElem_mem hko))
    simp only [r1, r2, OP_some, true_and, s1, s2, t1, t2]
    have htk := take_map' (fun k => E.getD k 0) o hko
    have hge : E.getD o[k] 0 = E[o[k]]'(oE _ (List.getElem_mem hko)) := getD_get _
    rw [hge] at htk
    refine app_i1 ko7 (by rw [List.length_append, List.length_take, List.length_map]; omega) ?_
    intro io3 g8 hio3 xm8 k8
    rw [List.append_assoc, ← htk] at k8 ⊢
    have hlb := (List.getElem?_eq_some_iff.1 kb7).1
    simp only [true_and, bin_add, OP_some, inc k (by omega)]
    exact hL5 (k + 1, io3, g8) ⟨by show k + 1 ≤ _; omega, xm8.toE xg7 hio2, by show g5.length ≤ io3; have := xg7.1; omega, by show io3 ≠ ib; omega, xm8.get hne2.symm kb7, k8⟩ (by show o.length - (k + 1) < o.length - k; omega)
   ·have hke : k = o.length := by omega
    subst hke
    have hft : (o.map fun k => E.getD k 0).take o.length = o.map fun k => E.getD k 0 := List.take_of_length_le (by simp)
    rw [hft, ← hgs] at ko7 ⊢
    rw [q8z92]
    simp only [bin_add, OP_some, inc i (by omega), true_and]
    have hst : (os.take (i + 1)).flatMap (gSet J P) = O ++ gSet J P os[i] := by
     rw [List.take_succ_eq_append_getElem hil, List.flatMap_append, hO]
     simp
    have := hL (i + 1, io2, g7) ⟨by show i + 1 ≤ _; omega, xg7, hio2, fun s hs => by
     have hs : s ∈ os.take (i + 1) := hs
     rw [List.take_succ_eq_append_getElem hil] at hs
     rcases List.mem_append.1 hs with hs | hs
     ·exact hgr' s hs
     ·rw [List.mem_singleton.1 hs, hEq]
      exact ⟨o, hgo2⟩, by
     show g7[io2]? = some (.arr 3 (((os.take (i + 1)).flatMap (gSet J P)).map fun i : Nat => I i))
     rw [hst]; exact ko7⟩ (by show os.length - (i + 1) < os.length - i; omega)
    simp only [hst] at this
    exact this
 -- the ratios, one after the other
 simp only [bin_gtr, OP_some]
 by_cases h0 : i = 0
 ·subst h0
  simp only [Int.natCast_zero, show decide ((0 : Int) < 0) = false from rfl, GdP_ft, true_and, iPick_f, OP_some, IfP_false]
  exact body g (EX.refl g)
 obtain ⟨m, rfl⟩ : ∃ m, i = m + 1 := ⟨i - 1, by omega⟩
 have hml : m < os.length := by omega
 have e1 : IntKind.wrap .i64 (((m + 1 : Nat) : Int) - 1) = (m : Int) := by rw [wrap64 (by omega) (by omega)]; omega
 have hgr2 : ∀ {g' : Heap} {m : Nat} (hm : m < os.length), EX g5 g' → ∃ b o, iAdrSl 1 vr (I m) = some (pt b o) ∧ iLoad false 1 g' (pt b o) = some (S (ratS (ratio J os[m]).1 (ratio J os[m]).2)) := by
  intro g' m hm x
  obtain ⟨b, o, r1, r2⟩ := (hr.mono x).get m (by simpa using hm)
  rw [List.getElem_map] at r2
  exact ⟨b, o, r1, r2⟩
 obtain ⟨b1, o1, r1, r2⟩ := hgr2 hml xg
 obtain ⟨a, b, f1, f2, f3, f4, f5, G, hG, f6, f7⟩ := rat _ (List.getElem_mem hml)
 obtain ⟨c, d, e3, e4, e5, e7, e8, H, hH, e9, e10⟩ := rat _ hsm
 obtain ⟨d', t1, t2⟩ := sid_at (i := m) hil hos
 have hfall := sid_fall P1 n10 t1 t2
 rw [f6, f7, e9, e10] at hfall
 have hcmp : (c : Int) * b < a * d := by
  have h1 : ((c : Int) * b) * (G * H) < (a * d) * (G * H) := by
   have q1 : ((c : Int) * b) * (G * H) = c * H * (b * G) := by grind
   have q2 : ((a : Int) * d) * (G * H) = a * G * (d * H) := by grind
   rw [q1, q2]; exact hfall
  have h2 : (0 : Int) ≤ (G : Int) * H := Int.mul_nonneg (by omega) (by omega)
  exact Int.lt_of_mul_lt_mul_right h1 h2
 rw [decide_eq_true (show (0 : Int) < ((m + 1 : Nat) : Int) by omega)]
 simp only [GdP_tt, bin_sub, e1, OP_some, r1, r2, true_and]
 refine C28g f5 f4 ?_
 intro q1 g6 x6 z1
 obtain ⟨b2, o2, s1, s2⟩ := hgr2 hil (xg.trans x6)
 have s2' : iLoad false 1 g (pt b2 o2) = some (S (ratS (ratio J os[m + 1]).1 (ratio J os[m + 1]).2)) := by
  obtain ⟨b3, o3, u1, u2⟩ := hgr2 hil xg
  rw [s1] at u1
  injection u1 with u1
  rw [u1]; exact u2
 simp only [s1, s2, s2', OP_some, true_and]
 refine C28g e8 e7 ?_
 intro q2 g7 x7 z2
 have sm : ∀ x y : Nat, x < 1000 → y < 1000 → ((x : Int) * y).natAbs < bigW := by
  intro x y hx hy
  have : x * y ≤ 1000 * 1000 := Nat.mul_le_mul (by omega) (by omega)
  rw [← Int.natCast_mul, Int.natAbs_natCast]
  omega
 refine C29 (z1.mono x7) z2 (by omega) (by omega) (by omega) (by omega) (sm _ _ f2.1 e4.2) (sm _ _ e4.1 f2.2) ?_
 intro g8 x8
 have hi1 : isgn ((a : Int) * d - c * b) = 1 := by unfold isgn; rw [if_neg (by omega), if_neg (by omega)]
 rw [hi1]
 simp only [true_and, bin_leq, OP_some, show decide ((1 : Int) ≤ 0) = false from rfl, iPick_t, IfP_false]
 exact body g8 (x6.trans (x7.trans x8))

end Go.Proofs.YtelmdbpaoifmoaaGreat

