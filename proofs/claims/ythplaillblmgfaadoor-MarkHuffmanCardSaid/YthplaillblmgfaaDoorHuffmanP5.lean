/-
  Part 5 of the texts behind a statement of this seat: Mk10, Mp3, Mk11, DF, Mk12, Mk13.
-/
import Derived.Test.YthplaillblmgfaaDoorProg
import Derived.KernelRfl
import Derived.Test.YthplaillblmgfaaDoorHuffmanP4
namespace Go.Proofs.YthplaillblmgfaaDoor
open Go.Sim

theorem skI : SK .i64 := .inr rfl

/-- The first letters of a place. -/
def wrd (a l : Nat) : List UInt8 := (List.range l).map fun i => if a.testBit (9 - i) then 49 else 48
theorem wrd_len (a l : Nat) : (wrd a l).length = l := by simp [wrd]

theorem C46 {a l : Nat} {h : Heap} {K : Value → Heap → Prop} (ha : a < 1024) (h1 : 1 ≤ l) (h2 : l ≤ 10) (hk : ∀ h', EX h h' → K (S (wrd a l)) h') : CallP Tryd.prog 46 [I a, I l] h K := by
  refine f46 ?_
  have mk : iMake 5 1 [(.int .u8 (0))] h (I l) (I l) = some (sl 5 h.length 0 l, h ++ [.arr 5 (List.replicate l (.int .u8 0))]) := by
    simp only [iMake]
    rw [if_pos (by omega), zrep_one]; rfl
  have ll : iLenSl (sl 5 h.length 0 l) = some (I l) := rfl
  simp only [T46, mk, OH_some, ll, OP_some]
  have x0 : EX h (h ++ [.arr 5 (List.replicate l (.int .u8 0))]) := EX.append _ _
  have k0 : (h ++ [IObj.arr 5 (List.replicate l (.int .u8 0))])[h.length]? = some (.arr 5 (List.replicate l (.int .u8 0))) := get_last
  have hst : h ++ [IObj.arr 5 (List.replicate l (.int .u8 0))] = (h ++ [IObj.arr 5 (List.replicate l (.int .u8 0))]).set h.length (.arr 5 (((wrd a 0).map cv) ++ List.replicate (l - 0) (.int .u8 0))) := by
    apply List.ext_getElem?
    intro j
    by_cases hj : h.length = j
    · subst hj; rw [List.getElem?_set_self (by simp), k0]; simp [wrd]
    · rw [List.getElem?_set_ne hj]
  generalize h ++ [IObj.arr 5 (List.replicate l (.int .u8 0))] = g at x0 k0 hst ⊢
  have hgl := (List.getElem?_eq_some_iff.1 k0).1
  refine loopL (σ := Nat) (fun i => [I i]) (fun i => g.set h.length (.arr 5 (((wrd a i).map cv) ++ List.replicate (l - i) (.int .u8 0)))) (fun i => i ≤ l) (fun i => l - i) 0 rfl hst.symm (Nat.zero_le _) ?_
  intro i hi L hL
  rw [q46z6]
  simp only [bin_lss, OP_some, IfP_dec]
  refine ⟨fun hlt => ?_, fun hge => ?_⟩
  · have hil : i < l := by omega
    have w1 : IntKind.wrap .i64 (9 - (i : Int)) = ((9 - i : Nat) : Int) := by rw [wrap64 (by omega) (by omega)]; omega
    have hdl : a / 2 ^ (9 - i) < 1024 := Nat.lt_of_le_of_lt (Nat.div_le_self _ _) ha
    have an : iBin .and (I (a / 2 ^ (9 - i) : Nat)) (.int .i64 1) = some (I (a / 2 ^ (9 - i) % 2 : Nat)) := by
      have := andK skI hdl (show 1 < 1024 by decide)
      rw [bit_and] at this
      exact this
    have cn : iConv .u8 (I (a / 2 ^ (9 - i) % 2 : Nat)) = some (.int .u8 (a / 2 ^ (9 - i) % 2 : Nat)) := by
      have : a / 2 ^ (9 - i) % 2 < 2 := Nat.mod_lt _ (by decide)
      rw [conv_int, wrapU8 (by omega) (by omega)]
    have ad : IntKind.wrap .u8 (48 + ((a / 2 ^ (9 - i) % 2 : Nat) : Int)) = ((if a.testBit (9 - i) then (49 : UInt8) else 48).toNat : Int) := by
      rw [Nat.testBit_eq_decide_div_mod_eq]
      have : a / 2 ^ (9 - i) % 2 < 2 := Nat.mod_lt _ (by decide)
      rw [wrapU8 (by omega) (by omega)]
      by_cases h0 : a / 2 ^ (9 - i) % 2 = 1
      · rw [h0]; rfl
      · rw [show a / 2 ^ (9 - i) % 2 = 0 by omega]; rfl
    simp only [bin_sub, w1, OP_some, shrK skI (show 9 - i < 16 by omega), an, cn, bin_add, ad, adr_sl hil]
    rw [store_at (List.getElem?_set_self hgl) (by rw [List.length_append, List.length_map, wrd_len, List.length_replicate]; omega) rfl rfl]
    simp only [OH_some, inc i (by omega), true_and, List.set_set]
    have e : ((wrd a i).map cv ++ List.replicate (l - i) (Value.int .u8 0)).set i (.int .u8 ((if a.testBit (9 - i) then (49 : UInt8) else 48).toNat : Int)) = (wrd a (i + 1)).map cv ++ List.replicate (l - (i + 1)) (Value.int .u8 0) := by
      obtain ⟨m, hm⟩ : ∃ m, l - i = m + 1 := ⟨l - i - 1, by omega⟩
      rw [hm, show l - (i + 1) = m by omega, List.set_append_right _ _ (by simp [wrd_len]), List.length_map, wrd_len, Nat.sub_self, List.replicate_succ]
      simp [wrd, List.range_succ]
    rw [e]
    exact hL (i + 1) (by omega) (by omega)
  · have : i = l := by omega
    subst this
    rw [q46z12, Nat.sub_self, List.replicate_zero, List.append_nil]
    have hg := List.getElem?_set_self (l := g) (i := h.length) (a := IObj.arr 5 ((wrd a i).map cv)) hgl
    have own : OwnS h.length (g.set h.length (.arr 5 ((wrd a i).map cv))) 5 (sl 5 h.length 0 i) ((wrd a i).map cv) := .inr ⟨h.length, Nat.le_refl _, by rw [List.length_map, wrd_len], hg⟩
    rw [b2s own]
    exact OP_some.2 (hk _ (x0.set (Nat.le_refl _) _))

/-- Why lengths are not valid. -/
def lenE (l : List Int) : Int := if 12 < l.length then 3 else if l.length = 0 ∨ ¬ (∀ x ∈ l, 1 ≤ x ∧ x ≤ 10) then 1 else 0

theorem C43 {v : Value} {l : List Int} {h : Heap} {K : Value → Heap → Prop} (hv : NS h v .i64 l) (hl : l.length ≤ 1000) (hk : K (I (lenE l)) h) : CallP Tryd.prog 43 [v] h K := by
  refine f43 ?_
  unfold T43
  unfold lenE at hk
  simp only [hv.len, OP_some, bin_gtr, IfP_dec]
  refine ⟨fun h1 => by rw [if_pos (by omega)] at hk; exact hk, fun h1 => ?_⟩
  rw [if_neg (by omega)] at hk
  simp only [bin_eql, OP_some]
  rw [q43z8]
  by_cases h0 : l.length = 0
  · simp only [decide_eq_true (show (l.length : Int) = 0 by omega), GdP_tf, q43z10, q43z12, q43z14, iPick_t, OP_some, IfP_true]
    rw [if_pos (.inl h0)] at hk
    exact hk
  simp only [decide_eq_false (show ¬ (l.length : Int) = 0 by omega), GdP_ff]
  refine C47 hv (by omega) hl ?_
  intro m hm hmle
  simp only [bin_lss, OP_some, q43z10, iPick_f]
  by_cases hm1 : m < 1
  · simp only [decide_eq_true hm1, q43z12, GdP_tf, q43z14, iPick_t, OP_some, IfP_true]
    rw [if_pos (.inr fun hc => by have := (hc m hm).1; omega)] at hk
    exact hk
  simp only [decide_eq_false hm1, q43z12, GdP_ff]
  refine C48 hv (by omega) hl ?_
  intro M hM hMle
  simp only [bin_gtr, OP_some]
  rw [q43z14]
  simp only [iPick_f, OP_some, IfP_dec]
  refine ⟨fun hb => ?_, fun hb => ?_⟩
  · rw [if_pos (.inr fun hc => by have := (hc M hM).2; omega)] at hk; exact hk
  · rw [if_neg] at hk
    · exact hk
    · rintro (h | h)
      · exact h0 h
      · exact h fun x hx => ⟨by have := hmle x hx; omega, by have := hMle x hx; omega⟩

/-- The words of a code that rises, from a place on. -/
def risL : Nat → List Nat → Option (List (List UInt8))
  | _, [] => some []
  | a, l :: ls => if fitN a l + rmN l ≤ 1024 then (risL (fitN a l + rmN l) ls).map (wrd (fitN a l) l :: ·) else none

/-- There is a code that rises just where the lengths fit. -/
theorem risL_some : ∀ {ls : List Nat} {a : Nat}, lenOk ls → a ≤ 1024 → ((risL a ls).isSome = true ↔ endP true a ls ≤ 1024)
  | [], a, _, ha => by simp [risL, endP, ha]
  | l :: ls, a, hok, ha => by
    have h1 := hok l (by simp)
    have hok' : lenOk ls := fun x hx => hok x (by simp [hx])
    have e : aft true a l = fitN a l + rmN l := rfl
    simp only [risL, endP, e]
    by_cases hf : fitN a l + rmN l ≤ 1024
    · rw [if_pos hf, Option.isSome_map]
      exact risL_some hok' hf
    · rw [if_neg hf]
      have := endP_ge (r := true) (a := fitN a l + rmN l) hok'
      constructor
      · intro h; cases h
      · intro h; omega

theorem C25 {v : Value} {ls : List Nat} {h : Heap} {K : Value → Heap → Prop} (hv : NS h v .i64 (ls.map fun l : Nat => (l : Int))) (hl : ls.length ≤ 12) (h0 : 0 < ls.length) (hok : lenOk ls)
    (hno : risL 0 ls = none → ∀ h', EX h h' → K (.tuple #[.slice none 0 0, I 5]) h')
    (hk : ∀ ws u h', risL 0 ls = some ws → EX h h' → OwnS h.length h' 9 u (ws.map S) → K (.tuple #[u, I 0]) h') : CallP Tryd.prog 25 [v] h K := by
  refine f25 (C43 hv (by rw [List.length_map]; omega) ?_)
  have e0 : lenE (ls.map fun l : Nat => (l : Int)) = 0 := by
    unfold lenE
    rw [List.length_map, if_neg (by omega), if_neg]
    rintro (h | h)
    · omega
    · refine h fun x hx => ?_
      obtain ⟨l, hl, rfl⟩ := List.mem_map.1 hx
      have := hok l hl
      omega
  have hlen : iLenSl v = some (I ls.length) := by have := hv.len; rwa [List.length_map] at this
  simp only [e0, bin_neq, OP_some, decide_true, Bool.not_true, IfP_false, hlen]
  refine loopL (σ := Nat × Nat × Value × List (List UInt8) × Heap) (fun q => [q.2.2.1, I q.2.1, I q.1]) (fun q => q.2.2.2.2)
    (fun q => q.1 ≤ ls.length ∧ q.2.1 ≤ 1024 ∧ EX h q.2.2.2.2 ∧ OwnS h.length q.2.2.2.2 9 q.2.2.1 (q.2.2.2.1.map S) ∧ q.2.2.2.1.length = q.1 ∧ risL 0 ls = (risL q.2.1 (ls.drop q.1)).map (q.2.2.2.1 ++ ·)) (fun q => ls.length - q.1)
    (0, 0, .slice none 0 0, [], h) rfl rfl ⟨Nat.zero_le _, Nat.zero_le _, EX.refl _, .inl ⟨rfl, rfl⟩, rfl, by simp⟩ ?_
  rintro ⟨i, a, vo, pre, g⟩ ⟨hi, ha, xg, own, hpl, hris⟩ L hL
  simp only at hi ha xg own hpl hris hL ⊢
  rw [q25z11]
  simp only [bin_lss, OP_some, IfP_dec]
  refine ⟨fun hlt => ?_, fun hge => ?_⟩
  · have hil : i < ls.length := by omega
    have h1 := hok _ (List.getElem_mem hil)
    obtain ⟨b, o, g1, g2⟩ := NS.getN (hv.mono xg) hil
    have hf := fitN_le (at_ := a) h1.1 h1.2
    have hr := rmN_pos h1.1 h1.2
    have wr : IntKind.wrap .i64 ((fitN a ls[i] : Nat) + (rmN ls[i] : Nat) : Int) = ((fitN a ls[i] + rmN ls[i] : Nat) : Int) := by rw [wrap64 (by omega) (by omega)]; omega
    have hdrop : ls.drop i = ls[i] :: ls.drop (i + 1) := List.drop_eq_getElem_cons hil
    rw [hdrop] at hris
    simp only [risL] at hris
    simp only [g1, g2, OP_some]
    refine C44 ha h1.1 h1.2 (C45 h1.1 h1.2 ?_)
    simp only [bin_add, wr, OP_some, bin_gtr, IfP_dec]
    refine ⟨fun hb => ?_, fun hb => ?_⟩
    · rw [if_neg (by omega)] at hris
      exact hno hris g xg
    · rw [if_pos (by omega), Option.map_map] at hris
      refine C46 (by omega) h1.1 h1.2 ?_
      intro g2 x2
      refine app1 (own.keep fun d n hv hd => x2.2 d (own.lt hv).2.1) (xg.trans x2) (by simp; omega) (by simp [maxLen]; omega) rfl rfl ?_
      intro v' g3 x3 own'
      refine C45 h1.1 h1.2 ?_
      simp only [bin_add, wr, OP_some, inc i (by omega), true_and]
      refine hL (i + 1, fitN a ls[i] + rmN ls[i], v', pre ++ [wrd (fitN a ls[i]) ls[i]], g3) ⟨by show i + 1 ≤ _; omega, by show fitN a ls[i] + rmN ls[i] ≤ 1024; omega, x3, by simpa using own', by simp [hpl], ?_⟩ (by show ls.length - (i + 1) < ls.length - i; omega)
      show risL 0 ls = (risL (fitN a ls[i] + rmN ls[i]) (ls.drop (i + 1))).map ((pre ++ [wrd (fitN a ls[i]) ls[i]]) ++ ·)
      rw [hris]
      congr 1
      funext x
      simp
  · have : i = ls.length := by omega
    subst this
    rw [List.drop_length] at hris
    rw [q25z22]
    exact hk pre vo g (by rw [hris]; simp [risL]) xg own

end Go.Proofs.YthplaillblmgfaaDoor


namespace Go.Sim

/-- What words take that are shorter than n, or of length n with a number below i; numbers from k on. -/
def offF (n i : Nat) : List Nat → Nat → Nat
  | [], _ => 0
  | l :: ls, k => (if l < n ∨ (l = n ∧ k < i) then rmN l else 0) + offF n i ls (k + 1)

theorem offF_low {n : Nat} : ∀ {ls : List Nat} {i k : Nat}, i ≤ k → offF n i ls k = offF n 0 ls k
  | [], _, _, _ => rfl
  | l :: ls, i, k, h => by
    have e : (l < n ∨ (l = n ∧ k < i)) ↔ (l < n ∨ (l = n ∧ k < 0)) := by omega
    simp only [offF, e, offF_low (ls := ls) (show i ≤ k + 1 by omega)]

theorem offF_step {n : Nat} : ∀ {ls : List Nat} {i k : Nat} (h1 : k ≤ i) (h2 : i - k < ls.length), offF n (i + 1) ls k = offF n i ls k + (if ls[i - k] = n then rmN n else 0)
  | [], _, _, _, h => by simp at h
  | l :: ls, i, k, h1, h2 => by
    by_cases he : i = k
    · subst he
      simp only [offF, Nat.sub_self, List.getElem_cons_zero]
      rw [offF_low (ls := ls) (show i + 1 ≤ i + 1 by omega), offF_low (ls := ls) (show i ≤ i + 1 by omega)]
      by_cases hl : l = n
      · subst hl; simp; omega
      · have e : (l < n ∨ (l = n ∧ i < i + 1)) ↔ (l < n ∨ (l = n ∧ i < i)) := by omega
        simp only [e, if_neg hl]; omega
    · have ih := offF_step (n := n) (ls := ls) (i := i) (k := k + 1) (by omega) (by simp at h2; omega)
      have eg : (l :: ls)[i - k] = ls[i - (k + 1)]'(by simp at h2; omega) := by
        obtain ⟨m, hm⟩ : ∃ m, i - k = m + 1 := ⟨i - k - 1, by omega⟩
        simp only [hm, List.getElem_cons_succ]
        congr 1
        omega
      have e : (l < n ∨ (l = n ∧ k < i + 1)) ↔ (l < n ∨ (l = n ∧ k < i)) := by omega
      simp only [offF, ih, eg, e]
      omega

theorem offF_top {n : Nat} : ∀ {ls : List Nat} {i k : Nat}, k + ls.length ≤ i → offF n i ls k = offF (n + 1) 0 ls k
  | [], _, _, _ => rfl
  | l :: ls, i, k, h => by
    simp only [List.length_cons] at h
    have e : (l < n ∨ (l = n ∧ k < i)) ↔ (l < n + 1 ∨ (l = n + 1 ∧ k < 0)) := by omega
    simp only [offF, e, offF_top (ls := ls) (show (k + 1) + ls.length ≤ i by omega)]

theorem offF_all : ∀ {ls : List Nat} {k : Nat}, lenOk ls → offF 11 0 ls k = (ls.map rmN).sum
  | [], _, _ => rfl
  | l :: ls, k, h => by
    have := h l (by simp)
    have ih := offF_all (ls := ls) (k := k + 1) fun x hx => h x (List.mem_cons_of_mem _ hx)
    simp only [offF, List.map_cons, List.sum_cons, ih]
    rw [if_pos (by omega)]

theorem offF_one : ∀ {ls : List Nat} {k : Nat}, lenOk ls → offF 1 0 ls k = 0
  | [], _, _ => rfl
  | l :: ls, k, h => by
    have := h l (by simp)
    simp only [offF, offF_one (ls := ls) (k := k + 1) (fun x hx => h x (by simp [hx]))]
    rw [if_neg (by omega)]

theorem offF_le : ∀ {ls : List Nat} {n i k : Nat}, offF n i ls k ≤ (ls.map rmN).sum
  | [], _, _, _ => Nat.le_refl _
  | l :: ls, n, i, k => by
    have := offF_le (ls := ls) (n := n) (i := i) (k := k + 1)
    simp only [offF, List.map_cons, List.sum_cons]
    split <;> omega

theorem offF_dvd : ∀ {ls : List Nat} {n i k : Nat}, lenOk ls → n ≤ 10 → rmN n ∣ offF n i ls k
  | [], _, _, _, _, _ => Nat.dvd_zero _
  | l :: ls, n, i, k, h, hn => by
    have h1 := h l (by simp)
    simp only [offF]
    refine Nat.dvd_add ?_ (offF_dvd (fun x hx => h x (by simp [hx])) hn)
    split
    · exact rm_dvd h1.1 (by omega) hn
    · exact Nat.dvd_zero _

end Go.Sim


namespace Go.Proofs.YthplaillblmgfaaDoor
open Go.Sim

/-- The words of a plain code so far. -/
def outW (ls : List Nat) (n i : Nat) : List (List UInt8) := (List.range ls.length).map fun j => if ls.getD j 0 < n ∨ (ls.getD j 0 = n ∧ j < i) then wrd (offF (ls.getD j 0) j ls 0) (ls.getD j 0) else []
theorem outW_len (ls : List Nat) (n i : Nat) : (outW ls n i).length = ls.length := by simp [outW]

theorem outW_skip {ls : List Nat} {n i : Nat} (h : ls.getD i 0 ≠ n) : outW ls n (i + 1) = outW ls n i := by
  refine List.map_congr_left fun j _ => ?_
  have : (ls.getD j 0 < n ∨ (ls.getD j 0 = n ∧ j < i + 1)) ↔ (ls.getD j 0 < n ∨ (ls.getD j 0 = n ∧ j < i)) := by
    constructor
    · rintro (h1 | ⟨h1, h2⟩)
      · exact .inl h1
      · by_cases e : j = i
        · subst e; exact absurd h1 h
        · exact .inr ⟨h1, by omega⟩
    · rintro (h1 | ⟨h1, h2⟩)
      · exact .inl h1
      · exact .inr ⟨h1, by omega⟩
  simp only [this]

theorem outW_set {ls : List Nat} {n i : Nat} (hi : i < ls.length) (h : ls.getD i 0 = n) : (outW ls n i).set i (wrd (offF n i ls 0) n) = outW ls n (i + 1) := by
  apply List.ext_getElem
  · simp [outW]
  intro j h1 h2
  rw [List.getElem_set]
  simp only [outW, List.getElem_map, List.getElem_range]
  by_cases e : i = j
  · subst e; rw [if_pos rfl, if_pos (.inr ⟨h, by omega⟩), h]
  · rw [if_neg e]
    have : (ls.getD j 0 < n ∨ (ls.getD j 0 = n ∧ j < i + 1)) ↔ (ls.getD j 0 < n ∨ (ls.getD j 0 = n ∧ j < i)) := by omega
    simp only [this]

theorem outW_top {ls : List Nat} {n : Nat} : outW ls n ls.length = outW ls (n + 1) 0 := by
  refine List.map_congr_left fun j hj => ?_
  have hj := List.mem_range.1 hj
  have : (ls.getD j 0 < n ∨ (ls.getD j 0 = n ∧ j < ls.length)) ↔ (ls.getD j 0 < n + 1 ∨ (ls.getD j 0 = n + 1 ∧ j < 0)) := by omega
  simp only [this]

/-- The words of a plain code. -/
def plainW (ls : List Nat) : List (List UInt8) := outW ls 11 0

theorem lenE_ok {ls : List Nat} (hl : ls.length ≤ 12) (h0 : 0 < ls.length) (hok : lenOk ls) : lenE (ls.map fun l : Nat => (l : Int)) = 0 := by
  unfold lenE
  rw [List.length_map, if_neg (by omega), if_neg]
  rintro (h | h)
  · omega
  · refine h fun x hx => ?_
    obtain ⟨l, hl, rfl⟩ := List.mem_map.1 hx
    have := hok l hl
    omega

set_option maxHeartbeats 1000000 in
theorem C24 {v : Value} {ls : List Nat} {h : Heap} {K : Value → Heap → Prop} (hv : NS h v .i64 (ls.map fun l : Nat => (l : Int))) (hl : ls.length ≤ 12) (h0 : 0 < ls.length) (hok : lenOk ls)
    (hno : 1024 < (ls.map rmN).sum → ∀ h', EX h h' → K (.tuple #[.slice none 0 0, I 5]) h')
    (hk : (ls.map rmN).sum ≤ 1024 → ∀ u h', EX h h' → OwnS h.length h' 9 u ((plainW ls).map S) → K (.tuple #[u, I 0]) h') : CallP Tryd.prog 24 [v] h K := by
  refine f24 (C43 hv (by rw [List.length_map]; omega) ?_)
  have hlen : iLenSl v = some (I ls.length) := by have := hv.len; rwa [List.length_map] at this
  have mk : iMake 9 16 [(.string ⟨#[]⟩)] h (I ls.length) (I ls.length) = some (sl 9 h.length 0 ls.length, h ++ [.arr 9 ((outW ls 1 0).map S)]) := by
    simp only [iMake]
    rw [if_pos (by omega), zrep_one]
    have : List.replicate ls.length (Value.string ⟨#[]⟩) = (outW ls 1 0).map S := by
      apply List.ext_getElem
      · simp [outW]
      intro j h1 h2
      simp at h1
      have hj := hok _ (List.getElem_mem h1)
      simp only [List.getElem_replicate, outW, List.getElem_map, List.getElem_range]
      rw [if_neg]
      · rfl
      · have : ls.getD j 0 = ls[j] := by simp [h1]
        omega
    simp only [Int.toNat_natCast, this]
  simp only [lenE_ok hl h0 hok, bin_neq, OP_some, decide_true, Bool.not_true, IfP_false, hlen, mk, OH_some]
  have x0 : EX h (h ++ [.arr 9 ((outW ls 1 0).map S)]) := EX.append _ _
  have k0 : (h ++ [IObj.arr 9 ((outW ls 1 0).map S)])[h.length]? = some (.arr 9 ((outW ls 1 0).map S)) := get_last
  generalize h ++ [IObj.arr 9 ((outW ls 1 0).map S)] = g0 at x0 k0 ⊢
  refine loopL (σ := Nat × Nat × Heap) (fun q => [I q.2.1, I q.1]) (fun q => q.2.2) (fun q => (1 ≤ q.1 ∧ q.1 ≤ 11) ∧ q.2.1 = offF q.1 0 ls 0 ∧ q.2.1 ≤ 1024 ∧ EX h q.2.2 ∧ q.2.2[h.length]? = some (.arr 9 ((outW ls q.1 0).map S))) (fun q => 11 - q.1)
    (1, 0, g0) rfl rfl ⟨⟨Nat.le_refl _, show (1 : Nat) ≤ 11 by decide⟩, (offF_one hok).symm, Nat.zero_le _, x0, k0⟩ ?_
  rintro ⟨n, a, g⟩ ⟨⟨hn1, hn⟩, haeq, ha, xg, kg⟩ L1 hL1
  simp only at hn1 hn haeq ha xg kg hL1 ⊢
  rw [q24z11]
  simp only [bin_leq, OP_some, IfP_dec]
  refine ⟨fun hle => ?_, fun hgt => ?_⟩
  · have hn10 : n ≤ 10 := by omega
    simp only [hlen, OP_some]
    refine loopL (σ := Nat × Nat × Heap) (fun q => [I q.2.1, I q.1]) (fun q => q.2.2) (fun q => q.1 ≤ ls.length ∧ q.2.1 = offF n q.1 ls 0 ∧ q.2.1 ≤ 1024 ∧ EX h q.2.2 ∧ q.2.2[h.length]? = some (.arr 9 ((outW ls n q.1).map S))) (fun q => ls.length - q.1)
      (0, a, g) rfl rfl ⟨Nat.zero_le _, haeq, ha, xg, kg⟩ ?_
    rintro ⟨i, b, g1⟩ ⟨hi, hbeq, hb, x1, k1⟩ L2 hL2
    simp only at hi hbeq hb x1 k1 hL2 ⊢
    rw [q24z18]
    simp only [bin_lss, OP_some, IfP_dec]
    refine ⟨fun hlt => ?_, fun hge => ?_⟩
    · have hil : i < ls.length := by omega
      have h1 := hok _ (List.getElem_mem hil)
      have hgd : ls.getD i 0 = ls[i] := by simp [hil]
      have hstep := offF_step (n := n) (ls := ls) (i := i) (k := 0) (Nat.zero_le _) (by simpa using hil)
      simp only [Nat.sub_zero] at hstep
      obtain ⟨bb, o, g1', g2'⟩ := NS.getN (hv.mono x1) hil
      simp only [g1', g2', OP_some, bin_neq]
      by_cases hln : ls[i] = n
      · have hd : (!decide (((ls[i] : Nat) : Int) = (n : Int))) = false := by rw [hln]; simp
        rw [hd, hln]
        rw [if_pos hln] at hstep
        simp only [IfP_false]
        have hdv := offF_dvd (n := n) (i := i) (k := 0) hok hn10
        have hfit : fitN b n = b := by
          obtain ⟨k, hk⟩ := hdv
          rw [hbeq, hk, Nat.mul_comm]
          exact fitN_mul hn1 hn10
        have hr := rmN_pos hn1 hn10
        have wr : IntKind.wrap .i64 (((b : Nat) : Int) + (rmN n : Nat)) = ((b + rmN n : Nat) : Int) := by rw [wrap64 (by omega) (by omega)]; omega
        refine C44 hb hn1 hn10 (C45 hn1 hn10 ?_)
        rw [hfit]
        simp only [bin_add, wr, OP_some, bin_gtr, IfP_dec]
        have hle2 := offF_le (ls := ls) (n := n) (i := i + 1) (k := 0)
        refine ⟨fun hbig => hno (by omega) g1 x1, fun hbig => ?_⟩
        refine C46 (by omega) hn1 hn10 ?_
        intro g2 x2
        have k2 := x2.get k1
        simp only [adr_sl hil, OP_some]
        rw [store_at k2 (by simp [outW, hil]) rfl rfl]
        simp only [OH_some]
        refine C45 hn1 hn10 ?_
        simp only [bin_add, wr, OP_some]
        rw [q24z31]
        simp only [bin_add, OP_some, inc i (by omega), true_and]
        have es : ((outW ls n i).map S).set i (S (wrd b n)) = (outW ls n (i + 1)).map S := by
          rw [← List.map_set, hbeq, outW_set hil (by rw [hgd, hln])]
        rw [es]
        exact hL2 (i + 1, b + rmN n, g2.set h.length (.arr 9 ((outW ls n (i + 1)).map S))) ⟨by show i + 1 ≤ _; omega, by show b + rmN n = _; rw [hstep, hbeq], by show b + rmN n ≤ 1024; omega, (x1.trans x2).set (Nat.le_refl _) _, List.getElem?_set_self (List.getElem?_eq_some_iff.1 k2).1⟩ (by show ls.length - (i + 1) < ls.length - i; omega)
      · have hd : (!decide (((ls[i] : Nat) : Int) = (n : Int))) = true := by
          rw [decide_eq_false (by omega)]; rfl
        rw [hd]
        rw [if_neg hln] at hstep
        simp only [IfP_true]
        rw [q24z31]
        simp only [bin_add, OP_some, inc i (by omega), true_and]
        exact hL2 (i + 1, b, g1) ⟨by show i + 1 ≤ _; omega, by show b = _; rw [hstep, hbeq]; rfl, hb, x1, by rw [outW_skip (by rw [hgd]; exact hln)]; exact k1⟩ (by show ls.length - (i + 1) < ls.length - i; omega)
    · have : i = ls.length := by omega
      subst this
      rw [q24z32]
      simp only [bin_add, OP_some, inc n (by omega), true_and]
      refine hL1 (n + 1, b, g1) ⟨⟨by show 1 ≤ n + 1; omega, by show n + 1 ≤ 11; omega⟩, ?_, hb, x1, ?_⟩ (by show 11 - (n + 1) < 11 - n; omega)
      · show b = offF (n + 1) 0 ls 0
        rw [hbeq, offF_top (by omega)]
      · rw [← outW_top]; exact k1
  · have : n = 11 := by omega
    subst this
    rw [q24z33]
    rw [offF_all hok] at haeq
    exact hk (by omega) _ g xg (.inr ⟨h.length, Nat.le_refl _, by rw [List.length_map]; unfold plainW; rw [outW_len], kg⟩)

end Go.Proofs.YthplaillblmgfaaDoor


namespace Go.Proofs.YthplaillblmgfaaDoor
open Go.Sim
variable (P : Program) (K : VK)
/-! F7: pommel/pommellaw08.MarkHuffman -/
noncomputable def c7z34 : ICode := .ops none [⟨(some 71), .p (.pick (.tmp 68) (.const (.bool true)) (.tmp 70))⟩]
noncomputable def c7z32 : ICode := .seq (.ops (some (68, false)) [⟨(some 69), .call 13 []⟩,
 ⟨(some 70), .p (.un .not (.tmp 69))⟩])
 (.cut [3, 4, 5, 7, 8, 68, 70] c7z34)
noncomputable def c7z30 : ICode := .seq (.ops none [⟨(some 67), .p (.pick (.tmp 63) (.const (.bool true)) (.tmp 66))⟩,
 ⟨(some 68), .p (.mv (.tmp 67))⟩])
 (.cut [3, 4, 5, 7, 8, 68] c7z32)
noncomputable def c7z28 : ICode := .seq (.ops (some (63, false)) [⟨(some 64), .p (.mv (.tmp 7))⟩,
 ⟨(some 65), .call 12 [(.tmp 64), (.const (.int .i64 (1))), (.const (.int .i64 (1))), (.const (.int .i64 (10)))]⟩,
 ⟨(some 66), .p (.bin .neq (.tmp 65) (.const (.int .i64 (0))))⟩])
 (.cut [3, 4, 5, 7, 8, 63, 66] c7z30)
noncomputable def c7z26 : ICode := .seq (.ops none [⟨(some 62), .p (.pick (.tmp 58) (.const (.bool true)) (.tmp 61))⟩,
 ⟨(some 63), .p (.mv (.tmp 62))⟩])
 (.cut [3, 4, 5, 7, 8, 63] c7z28)
noncomputable def c7z24 : ICode := .seq (.ops (some (58, false)) [⟨(some 59), .p (.mv (.tmp 4))⟩,
 ⟨(some 60), .call 12 [(.tmp 59), (.const (.int .i64 (1))), (.const (.int .i64 (1))), (.const (.int .i64 (10)))]⟩,
 ⟨(some 61), .p (.bin .neq (.tmp 60) (.const (.int .i64 (0))))⟩])
 (.cut [3, 4, 5, 7, 8, 58, 61] c7z26)
noncomputable def c7z22 : ICode := .seq (.ops none [⟨(some 57), .p (.pick (.tmp 53) (.const (.bool true)) (.tmp 56))⟩,
 ⟨(some 58), .p (.mv (.tmp 57))⟩])
 (.cut [3, 4, 5, 7, 8, 58] c7z24)
noncomputable def c7z20 : ICode := .seq (.ops (some (53, false)) [⟨(some 54), .p (.mv (.tmp 5))⟩,
 ⟨(some 55), .p (.mv (.tmp 8))⟩,
 ⟨(some 56), .p (.bin .gtr (.tmp 54) (.tmp 55))⟩])
 (.cut [3, 4, 5, 7, 8, 53, 56] c7z22)
noncomputable def c7z18 : ICode := .seq (.ops none [⟨(some 52), .p (.pick (.tmp 46) (.const (.bool true)) (.tmp 51))⟩,
 ⟨(some 53), .p (.mv (.tmp 52))⟩])
 (.cut [3, 4, 5, 7, 8, 53] c7z20)
noncomputable def c7z16 : ICode := .seq (.ops (some (46, false)) [⟨(some 47), .p (.mv (.tmp 7))⟩,
 ⟨(some 48), .p (.lenSl (.tmp 47))⟩,
 ⟨(some 49), .p (.mv (.tmp 3))⟩,
 ⟨(some 50), .p (.lenSl (.tmp 49))⟩,
 ⟨(some 51), .p (.bin .neq (.tmp 48) (.tmp 50))⟩])
 (.cut [3, 4, 5, 7, 8, 46, 51] c7z18)
noncomputable def c7z14 : ICode := .seq (.ops none [⟨(some 45), .p (.pick (.tmp 39) (.const (.bool true)) (.tmp 44))⟩,
 ⟨(some 46), .p (.mv (.tmp 45))⟩])
 (.cut [3, 4, 5, 7, 8, 46] c7z16)
noncomputable def c7z12 : ICode := .seq (.ops (some (39, false)) [⟨(some 40), .p (.mv (.tmp 4))⟩,
 ⟨(some 41), .p (.lenSl (.tmp 40))⟩,
 ⟨(some 42), .p (.mv (.tmp 3))⟩,
 ⟨(some 43), .p (.lenSl (.tmp 42))⟩,
 ⟨(some 44), .p (.bin .neq (.tmp 41) (.tmp 43))⟩])
 (.cut [3, 4, 5, 7, 8, 39, 44] c7z14)
noncomputable def c7z10 : ICode := .seq (.ops none [⟨(some 38), .p (.pick (.tmp 35) (.const (.bool true)) (.tmp 37))⟩,
 ⟨(some 39), .p (.mv (.tmp 38))⟩])
 (.cut [3, 4, 5, 7, 8, 39] c7z12)
noncomputable def c7z8 : ICode := .seq (.ops (some (35, false)) [⟨(some 36), .p (.mv (.tmp 9))⟩,
 ⟨(some 37), .p (.bin .neq (.tmp 36) (.const (.int .i64 (0))))⟩])
 (.cut [3, 4, 5, 7, 8, 35, 37] c7z10)
noncomputable def c7z6 : ICode := .cond (.tmp 71) (.seq (.ops none [⟨(some 2), .p (.mv (.const (.bool false)))⟩])
 (.ret))
 (.skip)
noncomputable def c7z40 : ICode := .seq (.seq (.ops none [⟨(some 72), .p (.mv (.tmp 14))⟩,
 ⟨(some 73), .p (.mv (.tmp 3))⟩,
 ⟨(some 74), .p (.lenSl (.tmp 73))⟩,
 ⟨(some 75), .p (.bin .lss (.tmp 72) (.tmp 74))⟩])
 (.cond (.tmp 75) (.skip)
 (.exit 0)))
 (.seq (.block 1 (.dops [(none, [⟨(some 78), .p (.mv (.tmp 10)), 0⟩,
 ⟨(some 79), .p (.mv (.tmp 3)), 0⟩,
 ⟨(some 80), .p (.mv (.tmp 14)), 0⟩,
 ⟨(some 81), .p (.adrSl 1 (.tmp 79) (.tmp 80)), 6⟩,
 ⟨(some 82), .l (.load false 1 (.tmp 81)), 14⟩,
 ⟨(some 83), .p (.bin .add (.tmp 78) (.tmp 82)), 31⟩,
 ⟨(some 84), .p (.mv (.tmp 11)), 0⟩,
 ⟨(some 85), .p (.mv (.tmp 3)), 0⟩,
 ⟨(some 86), .p (.mv (.tmp 14)), 0⟩,
 ⟨(some 87), .p (.adrSl 1 (.tmp 85) (.tmp 86)), 384⟩,
 ⟨(some 88), .l (.load false 1 (.tmp 87)), 896⟩,
 ⟨(some 89), .p (.mv (.tmp 4)), 0⟩,
 ⟨(some 90), .p (.mv (.tmp 14)), 0⟩,
 ⟨(some 91), .p (.adrSl 1 (.tmp 89) (.tmp 90)), 6144⟩,
 ⟨(some 92), .l (.load false 1 (.tmp 91)), 14336⟩,
 ⟨(some 93), .p (.bin .mul (.tmp 88) (.tmp 92)), 32640⟩,
 ⟨(some 94), .p (.bin .add (.tmp 84) (.tmp 93)), 65472⟩,
 ⟨(some 95), .p (.mv (.tmp 12)), 0⟩,
 ⟨(some 96), .p (.mv (.tmp 3)), 0⟩,
 ⟨(some 97), .p (.mv (.tmp 14)), 0⟩,
 ⟨(some 98), .p (.adrSl 1 (.tmp 96) (.tmp 97)), 786432⟩,
 ⟨(some 99), .l (.load false 1 (.tmp 98)), 1835008⟩,
 ⟨(some 100), .p (.mv (.tmp 7)), 0⟩,
 ⟨(some 101), .p (.mv (.tmp 14)), 0⟩,
 ⟨(some 102), .p (.adrSl 1 (.tmp 100) (.tmp 101)), 12582912⟩,
 ⟨(some 103), .l (.load false 1 (.tmp 102)), 29360128⟩,
 ⟨(some 104), .p (.bin .mul (.tmp 99) (.tmp 103)), 66846720⟩,
 ⟨(some 105), .p (.bin .add (.tmp 95) (.tmp 104)), 134086656⟩,
 ⟨(some 106), .p (.mv (.tmp 13)), 0⟩,
 ⟨(some 107), .p (.mv (.tmp 4)), 0⟩,
 ⟨(some 108), .p (.mv (.tmp 14)), 0⟩,
 ⟨(some 109), .p (.adrSl 1 (.tmp 107) (.tmp 108)), 1610612736⟩,
 ⟨(some 110), .l (.load false 1 (.tmp 109)), 3758096384⟩,
 ⟨(some 111), .p (.minmax true [(.tmp 106), (.tmp 110)]), 8321499136⟩,
 ⟨(some 10), .p (.mv (.tmp 83)), 63⟩,
 ⟨(some 11), .p (.mv (.tmp 94)), 17180000255⟩,
 ⟨(some 12), .p (.mv (.tmp 105)), 51808043007⟩,
 ⟨(some 13), .p (.mv (.tmp 111)), 137438953471⟩])]))
 (.ops none [⟨(some 76), .p (.mv (.tmp 14))⟩,
 ⟨(some 77), .p (.bin .add (.tmp 76) (.const (.int .i64 (1))))⟩,
 ⟨(some 14), .p (.mv (.tmp 77))⟩]))
noncomputable def c7z68 : ICode := .ops none [⟨(some 148), .p (.pick (.tmp 145) (.tmp 147) (.const (.bool false)))⟩,
 ⟨(some 2), .p (.mv (.tmp 148))⟩]
noncomputable def c7z66 : ICode := .seq (.ops (some (145, true)) [⟨(some 146), .p (.mv (.tmp 18))⟩,
 ⟨(some 147), .p (.bin .eql (.tmp 146) (.const (.int .i64 (0))))⟩])
 (.cut [145, 147] c7z68)
noncomputable def c7z64 : ICode := .seq (.ops none [⟨(some 144), .p (.pick (.tmp 141) (.tmp 143) (.const (.bool false)))⟩,
 ⟨(some 145), .p (.mv (.tmp 144))⟩])
 (.cut [18, 145] c7z66)
noncomputable def c7z62 : ICode := .seq (.ops (some (141, true)) [⟨(some 142), .p (.mv (.tmp 16))⟩,
 ⟨(some 143), .p (.bin .eql (.tmp 142) (.const (.int .i64 (0))))⟩])
 (.cut [18, 141, 143] c7z64)
noncomputable def c7z60 : ICode := .seq (.ops none [⟨(some 140), .p (.pick (.tmp 130) (.tmp 139) (.const (.bool false)))⟩,
 ⟨(some 141), .p (.mv (.tmp 140))⟩])
 (.cut [16, 18, 141] c7z62)
noncomputable def c7z58 : ICode := .seq (.ops (some (130, true)) [⟨(some 139), .p (.pick (.tmp 133) (.const (.bool true)) (.tmp 138))⟩])
 (.cut [16, 18, 130, 139] c7z60)
noncomputable def c7z56 : ICode := .seq (.ops (some (133, false)) [⟨(some 134), .p (.mv (.tmp 8))⟩,
 ⟨(some 135), .p (.mv (.tmp 5))⟩,
 ⟨(some 136), .p (.mv (.tmp 10))⟩,
 ⟨(some 137), .p (.bin .add (.tmp 135) (.tmp 136))⟩,
 ⟨(some 138), .p (.bin .leq (.tmp 134) (.tmp 137))⟩])
 (.cut [16, 18, 130, 133, 138] c7z58)
noncomputable def c7z54 : ICode := .seq (.ops (some (130, true)) [⟨(some 131), .p (.mv (.tmp 13))⟩,
 ⟨(some 132), .p (.bin .eql (.tmp 131) (.const (.int .i64 (10))))⟩,
 ⟨(some 133), .p (.mv (.tmp 132))⟩])
 (.cut [5, 8, 10, 16, 18, 130, 133] c7z56)
noncomputable def c7z52 : ICode := .seq (.ops none [⟨(some 129), .p (.pick (.tmp 125) (.tmp 128) (.const (.bool false)))⟩,
 ⟨(some 130), .p (.mv (.tmp 129))⟩])
 (.cut [5, 8, 10, 13, 16, 18, 130] c7z54)
noncomputable def c7z50 : ICode := .seq (.ops (some (125, true)) [⟨(some 126), .p (.mv (.tmp 12))⟩,
 ⟨(some 127), .p (.mv (.tmp 8))⟩,
 ⟨(some 128), .p (.bin .eql (.tmp 126) (.tmp 127))⟩])
 (.cut [5, 8, 10, 13, 16, 18, 125, 128] c7z52)
noncomputable def c7z48 : ICode := .ret
noncomputable def c7z45 : ICode := .seq (.ops none [⟨(some 113), .p (.mv (.tmp 4))⟩,
 ⟨(some 114), .call 24 [(.tmp 113)]⟩,
 ⟨(some 112), .p (.mv (.tmp 114))⟩,
 ⟨(some 115), .p (.ext (.tmp 112) 0)⟩,
 ⟨(some 116), .p (.ext (.tmp 112) 1)⟩,
 ⟨(some 15), .p (.mv (.tmp 115))⟩,
 ⟨(some 16), .p (.mv (.tmp 116))⟩])
 (.seq (.ops none [⟨(some 118), .p (.mv (.tmp 7))⟩,
 ⟨(some 119), .call 25 [(.tmp 118)]⟩,
 ⟨(some 117), .p (.mv (.tmp 119))⟩,
 ⟨(some 120), .p (.ext (.tmp 117) 0)⟩,
 ⟨(some 121), .p (.ext (.tmp 117) 1)⟩,
 ⟨(some 17), .p (.mv (.tmp 120))⟩,
 ⟨(some 18), .p (.mv (.tmp 121))⟩])
 (.seq (.seq (.ops none [⟨(some 122), .p (.mv (.tmp 11))⟩,
 ⟨(some 123), .p (.mv (.tmp 5))⟩,
 ⟨(some 124), .p (.bin .eql (.tmp 122) (.tmp 123))⟩,
 ⟨(some 125), .p (.mv (.tmp 124))⟩])
 (.cut [5, 8, 10, 12, 13, 16, 18, 125] c7z50)) c7z48))
noncomputable def c7z37 : ICode := .cut [4, 5, 7, 8, 10, 11, 12, 13] c7z45
noncomputable def c7z5 : ICode := .seq (.ops none [⟨(some 10), .p (.mv (.const (.int .i64 (0))))⟩,
 ⟨(some 11), .p (.mv (.const (.int .i64 (0))))⟩,
 ⟨(some 12), .p (.mv (.const (.int .i64 (0))))⟩,
 ⟨(some 13), .p (.mv (.const (.int .i64 (0))))⟩])
 (.seq (.seq (.ops none [⟨(some 14), .p (.mv (.const (.int .i64 (0))))⟩])
 (.block 0 (.loop [3, 4, 5, 7, 8] [10, 11, 12, 13, 14] c7z40))) c7z37)
noncomputable def c7 : ICode := .seq (.ops none [⟨(some 2), .p (.mv (.const (.bool false)))⟩])
 (.seq (.ops none [⟨(some 19), .p (.mv (.tmp 0))⟩,
 ⟨(some 20), .call 16 [(.tmp 19)]⟩,
 ⟨(some 3), .p (.mv (.tmp 20))⟩])
 (.seq (.ops none [⟨(some 22), .p (.mv (.tmp 3))⟩,
 ⟨(some 23), .call 10 [(.tmp 22)]⟩,
 ⟨(some 21), .p (.mv (.tmp 23))⟩,
 ⟨(some 24), .p (.ext (.tmp 21) 0)⟩,
 ⟨(some 25), .p (.ext (.tmp 21) 1)⟩,
 ⟨(some 26), .p (.ext (.tmp 21) 2)⟩,
 ⟨(some 4), .p (.mv (.tmp 24))⟩,
 ⟨(some 5), .p (.mv (.tmp 25))⟩,
 ⟨(some 6), .p (.mv (.tmp 26))⟩])
 (.seq (.ops none [⟨(some 28), .p (.mv (.tmp 3))⟩,
 ⟨(some 29), .call 11 [(.tmp 28)]⟩,
 ⟨(some 27), .p (.mv (.tmp 29))⟩,
 ⟨(some 30), .p (.ext (.tmp 27) 0)⟩,
 ⟨(some 31), .p (.ext (.tmp 27) 1)⟩,
 ⟨(some 32), .p (.ext (.tmp 27) 2)⟩,
 ⟨(some 7), .p (.mv (.tmp 30))⟩,
 ⟨(some 8), .p (.mv (.tmp 31))⟩,
 ⟨(some 9), .p (.mv (.tmp 32))⟩])
 (.seq (.seq (.seq (.ops none [⟨(some 33), .p (.mv (.tmp 6))⟩,
 ⟨(some 34), .p (.bin .neq (.tmp 33) (.const (.int .i64 (0))))⟩,
 ⟨(some 35), .p (.mv (.tmp 34))⟩])
 (.cut [3, 4, 5, 7, 8, 9, 35] c7z8)) c7z6) c7z5))))
theorem k7 : compFn Tryd.prog 7 [[], [], [], [], [3, 4, 5, 7, 8, 9, 35], [3, 4, 5, 7, 8, 35, 37], [3, 4, 5, 7, 8, 39], [3, 4, 5, 7, 8, 39, 44], [3, 4, 5, 7, 8, 46], [3, 4, 5, 7, 8, 46, 51], [3, 4, 5, 7, 8, 53], [3, 4, 5, 7, 8, 53, 56], [3, 4, 5, 7, 8, 58], [3, 4, 5, 7, 8, 58, 61], [3, 4, 5, 7, 8, 63], [3, 4, 5, 7, 8, 63, 66], [3, 4, 5, 7, 8, 68], [3, 4, 5, 7, 8, 68, 70], [], [], [], [], [], [3, 4, 5, 7, 8], [10, 11, 12, 13, 14], [], [], [], [4, 5, 7, 8, 10, 11, 12, 13], [], [], [5, 8, 10, 12, 13, 16, 18, 125], [5, 8, 10, 13, 16, 18, 125, 128], [5, 8, 10, 13, 16, 18, 130], [5, 8, 10, 16, 18, 130, 133], [16, 18, 130, 133, 138], [16, 18, 130, 139], [16, 18, 141], [18, 141, 143], [18, 145], [145, 147], []] = some (149, c7, [.tmp 2]) := by kernel_rfl
def K7z0 (_P : Program) (K : VK) : Kont := bodyP [.tmp 2] K
def K7z5 : Kont := thenK (iwpP P c7z5 (K7z0 P K)) (K7z0 P K)
def K7z6 : Kont := thenK (iwpP P c7z6 (K7z5 P K)) (K7z5 P K)
def K7z37 : Kont := thenK (iwpP P c7z37 (K7z0 P K)) (K7z0 P K)
def K7z39 : Kont := inBlockK 0 (K7z37 P K)
def K7z40 (w3 l4 c5 m7 d8 : Value) (L1 : LK) : Kont := thenK (fun f' h'' => (([3, 4, 5, 7, 8] : List Nat).map f' : List Value) = [w3, l4, c5, m7, d8] ∧ L1 (([10, 11, 12, 13, 14] : List Nat).map f') h'') (K7z39 P K)
def K7z48 : Kont := thenK (iwpP P c7z48 (K7z0 P K)) (K7z0 P K)
def p7z8 (w3 l4 c5 m7 d8 f9 x35 : Value) (h : Heap) : Prop := CutP (iwpP P c7z8 (K7z6 P K)) [3, 4, 5, 7, 8, 9, 35] [w3, l4, c5, m7, d8, f9, x35] h
def p7z10 (w3 l4 c5 m7 d8 x35 x37 : Value) (h : Heap) : Prop := CutP (iwpP P c7z10 (K7z6 P K)) [3, 4, 5, 7, 8, 35, 37] [w3, l4, c5, m7, d8, x35, x37] h
def p7z12 (w3 l4 c5 m7 d8 x39 : Value) (h : Heap) : Prop := CutP (iwpP P c7z12 (K7z6 P K)) [3, 4, 5, 7, 8, 39] [w3, l4, c5, m7, d8, x39] h
def p7z14 (w3 l4 c5 m7 d8 x39 x44 : Value) (h : Heap) : Prop := CutP (iwpP P c7z14 (K7z6 P K)) [3, 4, 5, 7, 8, 39, 44] [w3, l4, c5, m7, d8, x39, x44] h
def p7z16 (w3 l4 c5 m7 d8 x46 : Value) (h : Heap) : Prop := CutP (iwpP P c7z16 (K7z6 P K)) [3, 4, 5, 7, 8, 46] [w3, l4, c5, m7, d8, x46] h
def p7z18 (w3 l4 c5 m7 d8 x46 x51 : Value) (h : Heap) : Prop := CutP (iwpP P c7z18 (K7z6 P K)) [3, 4, 5, 7, 8, 46, 51] [w3, l4, c5, m7, d8, x46, x51] h
def p7z20 (w3 l4 c5 m7 d8 x53 : Value) (h : Heap) : Prop := CutP (iwpP P c7z20 (K7z6 P K)) [3, 4, 5, 7, 8, 53] [w3, l4, c5, m7, d8, x53] h
def p7z22 (w3 l4 c5 m7 d8 x53 x56 : Value) (h : Heap) : Prop := CutP (iwpP P c7z22 (K7z6 P K)) [3, 4, 5, 7, 8, 53, 56] [w3, l4, c5, m7, d8, x53, x56] h
def p7z24 (w3 l4 c5 m7 d8 x58 : Value) (h : Heap) : Prop := CutP (iwpP P c7z24 (K7z6 P K)) [3, 4, 5, 7, 8, 58] [w3, l4, c5, m7, d8, x58] h
def p7z26 (w3 l4 c5 m7 d8 x58 x61 : Value) (h : Heap) : Prop := CutP (iwpP P c7z26 (K7z6 P K)) [3, 4, 5, 7, 8, 58, 61] [w3, l4, c5, m7, d8, x58, x61] h
def p7z28 (w3 l4 c5 m7 d8 x63 : Value) (h : Heap) : Prop := CutP (iwpP P c7z28 (K7z6 P K)) [3, 4, 5, 7, 8, 63] [w3, l4, c5, m7, d8, x63] h
def p7z30 (w3 l4 c5 m7 d8 x63 x66 : Value) (h : Heap) : Prop := CutP (iwpP P c7z30 (K7z6 P K)) [3, 4, 5, 7, 8, 63, 66] [w3, l4, c5, m7, d8, x63, x66] h
def p7z32 (w3 l4 c5 m7 d8 x68 : Value) (h : Heap) : Prop := CutP (iwpP P c7z32 (K7z6 P K)) [3, 4, 5, 7, 8, 68] [w3, l4, c5, m7, d8, x68] h
def p7z34 (w3 l4 c5 m7 d8 x68 x70 : Value) (h : Heap) : Prop := CutP (iwpP P c7z34 (K7z6 P K)) [3, 4, 5, 7, 8, 68, 70] [w3, l4, c5, m7, d8, x68, x70] h
def p7z40 (w3 l4 c5 m7 d8 : Value) (L1 : LK) (xs : List Value) (h : Heap) : Prop := CutP (iwpP P c7z40 (K7z40 P K w3 l4 c5 m7 d8 L1)) ([3, 4, 5, 7, 8] ++ [10, 11, 12, 13, 14]) ([w3, l4, c5, m7, d8] ++ xs) h
def p7z45 (l4 c5 m7 d8 sum10 a11 o12 most13 : Value) (h : Heap) : Prop := CutP (iwpP P c7z45 (K7z0 P K)) [4, 5, 7, 8, 10, 11, 12, 13] [l4, c5, m7, d8, sum10, a11, o12, most13] h
def p7z50 (c5 d8 sum10 o12 most13 g16 h18 x125 : Value) (h : Heap) : Prop := CutP (iwpP P c7z50 (K7z48 P K)) [5, 8, 10, 12, 13, 16, 18, 125] [c5, d8, sum10, o12, most13, g16, h18, x125] h
def p7z52 (c5 d8 sum10 most13 g16 h18 x125 x128 : Value) (h : Heap) : Prop := CutP (iwpP P c7z52 (K7z48 P K)) [5, 8, 10, 13, 16, 18, 125, 128] [c5, d8, sum10, most13, g16, h18, x125, x128] h
def p7z54 (c5 d8 sum10 most13 g16 h18 x130 : Value) (h : Heap) : Prop := CutP (iwpP P c7z54 (K7z48 P K)) [5, 8, 10, 13, 16, 18, 130] [c5, d8, sum10, most13, g16, h18, x130] h
def p7z56 (c5 d8 sum10 g16 h18 x130 x133 : Value) (h : Heap) : Prop := CutP (iwpP P c7z56 (K7z48 P K)) [5, 8, 10, 16, 18, 130, 133] [c5, d8, sum10, g16, h18, x130, x133] h
def p7z58 (g16 h18 x130 x133 x138 : Value) (h : Heap) : Prop := CutP (iwpP P c7z58 (K7z48 P K)) [16, 18, 130, 133, 138] [g16, h18, x130, x133, x138] h
def p7z60 (g16 h18 x130 x139 : Value) (h : Heap) : Prop := CutP (iwpP P c7z60 (K7z48 P K)) [16, 18, 130, 139] [g16, h18, x130, x139] h
def p7z62 (g16 h18 x141 : Value) (h : Heap) : Prop := CutP (iwpP P c7z62 (K7z48 P K)) [16, 18, 141] [g16, h18, x141] h
def p7z64 (h18 x141 x143 : Value) (h : Heap) : Prop := CutP (iwpP P c7z64 (K7z48 P K)) [18, 141, 143] [h18, x141, x143] h
def p7z66 (h18 x145 : Value) (h : Heap) : Prop := CutP (iwpP P c7z66 (K7z48 P K)) [18, 145] [h18, x145] h
def p7z68 (x145 x147 : Value) (h : Heap) : Prop := CutP (iwpP P c7z68 (K7z48 P K)) [145, 147] [x145, x147] h
theorem q7z34 (w3 l4 c5 m7 d8 x68 x70 : Value) (h : Heap) : p7z34 P K w3 l4 c5 m7 d8 x68 x70 h =
 (OP (iPick x68 (.bool true) x70) fun x71 =>
 IfP x71
 (K (.bool false) h)
 (LoopP [(.int .i64 (0)), (.int .i64 (0)), (.int .i64 (0)), (.int .i64 (0)), (.int .i64 (0))] h fun L1 xs hx =>
 p7z40 P K w3 l4 c5 m7 d8 L1 xs hx)) := (CutP_def _ _ _ _).trans (by kernel_rfl)
theorem q7z32 (w3 l4 c5 m7 d8 x68 : Value) (h : Heap) : p7z32 P K w3 l4 c5 m7 d8 x68 h =
 (GdP x68 false
 (CallP P 13 [] h fun x69 h_1 =>
 OP (iUn .not x69) fun x70 =>
 p7z34 P K w3 l4 c5 m7 d8 x68 x70 h_1)
 (p7z34 P K w3 l4 c5 m7 d8 x68 undef h)) := (CutP_def _ _ _ _).trans (by kernel_rfl)
theorem q7z30 (w3 l4 c5 m7 d8 x63 x66 : Value) (h : Heap) : p7z30 P K w3 l4 c5 m7 d8 x63 x66 h =
 (OP (iPick x63 (.bool true) x66) fun x67 =>
 p7z32 P K w3 l4 c5 m7 d8 x67 h) := (CutP_def _ _ _ _).trans (by kernel_rfl)
theorem q7z28 (w3 l4 c5 m7 d8 x63 : Value) (h : Heap) : p7z28 P K w3 l4 c5 m7 d8 x63 h =
 (GdP x63 false
 (CallP P 12 [m7, (.int .i64 (1)), (.int .i64 (1)), (.int .i64 (10))] h fun x65 h_1 =>
 OP (iBin .neq x65 (.int .i64 (0))) fun x66 =>
 p7z30 P K w3 l4 c5 m7 d8 x63 x66 h_1)
 (p7z30 P K w3 l4 c5 m7 d8 x63 undef h)) := (CutP_def _ _ _ _).trans (by kernel_rfl)
theorem q7z26 (w3 l4 c5 m7 d8 x58 x61 : Value) (h : Heap) : p7z26 P K w3 l4 c5 m7 d8 x58 x61 h =
 (OP (iPick x58 (.bool true) x61) fun x62 =>
 p7z28 P K w3 l4 c5 m7 d8 x62 h) := (CutP_def _ _ _ _).trans (by kernel_rfl)
theorem q7z24 (w3 l4 c5 m7 d8 x58 : Value) (h : Heap) : p7z24 P K w3 l4 c5 m7 d8 x58 h =
 (GdP x58 false
 (CallP P 12 [l4, (.int .i64 (1)), (.int .i64 (1)), (.int .i64 (10))] h fun x60 h_1 =>
 OP (iBin .neq x60 (.int .i64 (0))) fun x61 =>
 p7z26 P K w3 l4 c5 m7 d8 x58 x61 h_1)
 (p7z26 P K w3 l4 c5 m7 d8 x58 undef h)) := (CutP_def _ _ _ _).trans (by kernel_rfl)
theorem q7z22 (w3 l4 c5 m7 d8 x53 x56 : Value) (h : Heap) : p7z22 P K w3 l4 c5 m7 d8 x53 x56 h =
 (OP (iPick x53 (.bool true) x56) fun x57 =>
 p7z24 P K w3 l4 c5 m7 d8 x57 h) := (CutP_def _ _ _ _).trans (by kernel_rfl)
theorem q7z20 (w3 l4 c5 m7 d8 x53 : Value) (h : Heap) : p7z20 P K w3 l4 c5 m7 d8 x53 h =
 (GdP x53 false
 (OP (iBin .gtr c5 d8) fun x56 =>
 p7z22 P K w3 l4 c5 m7 d8 x53 x56 h)
 (p7z22 P K w3 l4 c5 m7 d8 x53 undef h)) := (CutP_def _ _ _ _).trans (by kernel_rfl)
theorem q7z18 (w3 l4 c5 m7 d8 x46 x51 : Value) (h : Heap) : p7z18 P K w3 l4 c5 m7 d8 x46 x51 h =
 (OP (iPick x46 (.bool true) x51) fun x52 =>
 p7z20 P K w3 l4 c5 m7 d8 x52 h) := (CutP_def _ _ _ _).trans (by kernel_rfl)
theorem q7z16 (w3 l4 c5 m7 d8 x46 : Value) (h : Heap) : p7z16 P K w3 l4 c5 m7 d8 x46 h =
 (GdP x46 false
 (OP (iLenSl m7) fun x48 =>
 OP (iLenSl w3) fun x50 =>
 OP (iBin .neq x48 x50) fun x51 =>
 p7z18 P K w3 l4 c5 m7 d8 x46 x51 h)
 (p7z18 P K w3 l4 c5 m7 d8 x46 undef h)) := (CutP_def _ _ _ _).trans (by kernel_rfl)
theorem q7z14 (w3 l4 c5 m7 d8 x39 x44 : Value) (h : Heap) : p7z14 P K w3 l4 c5 m7 d8 x39 x44 h =
 (OP (iPick x39 (.bool true) x44) fun x45 =>
 p7z16 P K w3 l4 c5 m7 d8 x45 h) := (CutP_def _ _ _ _).trans (by kernel_rfl)
theorem q7z12 (w3 l4 c5 m7 d8 x39 : Value) (h : Heap) : p7z12 P K w3 l4 c5 m7 d8 x39 h =
 (GdP x39 false
 (OP (iLenSl l4) fun x41 =>
 OP (iLenSl w3) fun x43 =>
 OP (iBin .neq x41 x43) fun x44 =>
 p7z14 P K w3 l4 c5 m7 d8 x39 x44 h)
 (p7z14 P K w3 l4 c5 m7 d8 x39 undef h)) := (CutP_def _ _ _ _).trans (by kernel_rfl)
theorem q7z10 (w3 l4 c5 m7 d8 x35 x37 : Value) (h : Heap) : p7z10 P K w3 l4 c5 m7 d8 x35 x37 h =
 (OP (iPick x35 (.bool true) x37) fun x38 =>
 p7z12 P K w3 l4 c5 m7 d8 x38 h) := (CutP_def _ _ _ _).trans (by kernel_rfl)
theorem q7z8 (w3 l4 c5 m7 d8 f9 x35 : Value) (h : Heap) : p7z8 P K w3 l4 c5 m7 d8 f9 x35 h =
 (GdP x35 false
 (OP (iBin .neq f9 (.int .i64 (0))) fun x37 =>
 p7z10 P K w3 l4 c5 m7 d8 x35 x37 h)
 (p7z10 P K w3 l4 c5 m7 d8 x35 undef h)) := (CutP_def _ _ _ _).trans (by kernel_rfl)
theorem q7z40 (w3 l4 c5 m7 d8 : Value) (L1 : LK) (sum10 a11 o12 most13 i14 : Value) (h : Heap) : p7z40 P K w3 l4 c5 m7 d8 L1 [sum10, a11, o12, most13, i14] h =
 (OP (iLenSl w3) fun x74 =>
 OP (iBin .lss i14 x74) fun x75 =>
 IfP x75
 (OP (iAdrSl 1 w3 i14) fun x81 =>
 OP (iLoad false 1 h x81) fun x82 =>
 (True) ∧
 OP (iBin .add sum10 x82) fun x83 =>
 OP (iAdrSl 1 w3 i14) fun x87 =>
 OP (iLoad false 1 h x87) fun x88 =>
 (True) ∧
 OP (iAdrSl 1 l4 i14) fun x91 =>
 OP (iLoad false 1 h x91) fun x92 =>
 (True) ∧
 OP (iBin .mul x88 x92) fun x93 =>
 OP (iBin .add a11 x93) fun x94 =>
 OP (iAdrSl 1 w3 i14) fun x98 =>
 OP (iLoad false 1 h x98) fun x99 =>
 (True) ∧
 OP (iAdrSl 1 m7 i14) fun x102 =>
 OP (iLoad false 1 h x102) fun x103 =>
 (True) ∧
 OP (iBin .mul x99 x103) fun x104 =>
 OP (iBin .add o12 x104) fun x105 =>
 OP (iAdrSl 1 l4 i14) fun x109 =>
 OP (iLoad false 1 h x109) fun x110 =>
 (True) ∧
 OP (iMinmax true [most13, x110]) fun x111 =>
 OP (iBin .add i14 (.int .i64 (1))) fun x77 =>
 ([w3, l4, c5, m7, d8] : List Value) = [w3, l4, c5, m7, d8] ∧ L1 [x83, x94, x105, x111, x77] h)
 (p7z45 P K l4 c5 m7 d8 sum10 a11 o12 most13 h)) := (CutP_def _ _ _ _).trans (by kernel_rfl)
theorem q7z68 (x145 x147 : Value) (h : Heap) : p7z68 P K x145 x147 h =
 (OP (iPick x145 x147 (.bool false)) fun x148 =>
 K x148 h) := (CutP_def _ _ _ _).trans (by kernel_rfl)
theorem q7z66 (h18 x145 : Value) (h : Heap) : p7z66 P K h18 x145 h =
 (GdP x145 true
 (OP (iBin .eql h18 (.int .i64 (0))) fun x147 =>
 p7z68 P K x145 x147 h)
 (p7z68 P K x145 undef h)) := (CutP_def _ _ _ _).trans (by kernel_rfl)
theorem q7z64 (h18 x141 x143 : Value) (h : Heap) : p7z64 P K h18 x141 x143 h =
 (OP (iPick x141 x143 (.bool false)) fun x144 =>
 p7z66 P K h18 x144 h) := (CutP_def _ _ _ _).trans (by kernel_rfl)
theorem q7z62 (g16 h18 x141 : Value) (h : Heap) : p7z62 P K g16 h18 x141 h =
 (GdP x141 true
 (OP (iBin .eql g16 (.int .i64 (0))) fun x143 =>
 p7z64 P K h18 x141 x143 h)
 (p7z64 P K h18 x141 undef h)) := (CutP_def _ _ _ _).trans (by kernel_rfl)
theorem q7z60 (g16 h18 x130 x139 : Value) (h : Heap) : p7z60 P K g16 h18 x130 x139 h =
 (OP (iPick x130 x139 (.bool false)) fun x140 =>
 p7z62 P K g16 h18 x140 h) := (CutP_def _ _ _ _).trans (by kernel_rfl)
theorem q7z58 (g16 h18 x130 x133 x138 : Value) (h : Heap) : p7z58 P K g16 h18 x130 x133 x138 h =
 (GdP x130 true
 (OP (iPick x133 (.bool true) x138) fun x139 =>
 p7z60 P K g16 h18 x130 x139 h)
 (p7z60 P K g16 h18 x130 undef h)) := (CutP_def _ _ _ _).trans (by kernel_rfl)
theorem q7z56 (c5 d8 sum10 g16 h18 x130 x133 : Value) (h : Heap) : p7z56 P K c5 d8 sum10 g16 h18 x130 x133 h =
 (GdP x133 false
 (OP (iBin .add c5 sum10) fun x137 =>
 OP (iBin .leq d8 x137) fun x138 =>
 p7z58 P K g16 h18 x130 x133 x138 h)
 (p7z58 P K g16 h18 x130 x133 undef h)) := (CutP_def _ _ _ _).trans (by kernel_rfl)
theorem q7z54 (c5 d8 sum10 most13 g16 h18 x130 : Value) (h : Heap) : p7z54 P K c5 d8 sum10 most13 g16 h18 x130 h =
 (GdP x130 true
 (OP (iBin .eql most13 (.int .i64 (10))) fun x132 =>
 p7z56 P K c5 d8 sum10 g16 h18 x130 x132 h)
 (p7z56 P K c5 d8 sum10 g16 h18 x130 undef h)) := (CutP_def _ _ _ _).trans (by kernel_rfl)
theorem q7z52 (c5 d8 sum10 most13 g16 h18 x125 x128 : Value) (h : Heap) : p7z52 P K c5 d8 sum10 most13 g16 h18 x125 x128 h =
 (OP (iPick x125 x128 (.bool false)) fun x129 =>
 p7z54 P K c5 d8 sum10 most13 g16 h18 x129 h) := (CutP_def _ _ _ _).trans (by kernel_rfl)
theorem q7z50 (c5 d8 sum10 o12 most13 g16 h18 x125 : Value) (h : Heap) : p7z50 P K c5 d8 sum10 o12 most13 g16 h18 x125 h =
 (GdP x125 true
 (OP (iBin .eql o12 d8) fun x128 =>
 p7z52 P K c5 d8 sum10 most13 g16 h18 x125 x128 h)
 (p7z52 P K c5 d8 sum10 most13 g16 h18 x125 undef h)) := (CutP_def _ _ _ _).trans (by kernel_rfl)
theorem q7z45 (l4 c5 m7 d8 sum10 a11 o12 most13 : Value) (h : Heap) : p7z45 P K l4 c5 m7 d8 sum10 a11 o12 most13 h =
 (CallP P 24 [l4] h fun x114 h_1 =>
 OP (iExt 0 x114) fun x115 =>
 OP (iExt 1 x114) fun x116 =>
 CallP P 25 [m7] h_1 fun x119 h_2 =>
 OP (iExt 0 x119) fun x120 =>
 OP (iExt 1 x119) fun x121 =>
 OP (iBin .eql a11 c5) fun x124 =>
 p7z50 P K c5 d8 sum10 o12 most13 x116 x121 x124 h_2) := (CutP_def _ _ _ _).trans (by kernel_rfl)
def T7 (x0 : Value) (h : Heap) : Prop :=
 CallP P 16 [x0] h fun x20 h_1 =>
 CallP P 10 [x20] h_1 fun x23 h_2 =>
 OP (iExt 0 x23) fun x24 =>
 OP (iExt 1 x23) fun x25 =>
 OP (iExt 2 x23) fun x26 =>
 CallP P 11 [x20] h_2 fun x29 h_3 =>
 OP (iExt 0 x29) fun x30 =>
 OP (iExt 1 x29) fun x31 =>
 OP (iExt 2 x29) fun x32 =>
 OP (iBin .neq x26 (.int .i64 (0))) fun x34 =>
 p7z8 P K x20 x24 x25 x30 x31 x32 x34 h_3
theorem e7 (x0 : Value) (h : Heap) : iwpP P c7 (bodyP [.tmp 2] K) (frame0 [x0]) h = T7 P K x0 h := by kernel_rfl
theorem f7 {K : VK} {x0 : Value} {h : Heap} (H : T7 Tryd.prog K x0 h) : CallP Tryd.prog 7 [x0] h K :=
 callP_intro k7 (Nat.le_of_ble_eq_true rfl) ((e7 Tryd.prog K x0 h).mpr H)
end Go.Proofs.YthplaillblmgfaaDoor

namespace Go.Proofs.YthplaillblmgfaaDoor
open Go.Sim

/-- Weights made of numbers. -/
def wts0 (ns : List Int) : List Int := (ns.take 12).map fun x => x % 1001
def wts (ns : List Int) : List Int := wts0 ns ++ List.replicate (2 - (wts0 ns).length) 1

theorem wts0_len (ns : List Int) : (wts0 ns).length ≤ 12 := by simp [wts0]; omega
theorem wts_len (ns : List Int) : 2 ≤ (wts ns).length ∧ (wts ns).length ≤ 12 := by
  have := wts0_len ns
  simp [wts]; omega
theorem wts_ok (ns : List Int) : okW (wts ns) := by
  intro w hw
  rcases List.mem_append.1 hw with hw | hw
  · obtain ⟨x, _, rfl⟩ := List.mem_map.1 hw
    omega
  · rw [(List.mem_replicate.1 hw).2]; omega

theorem INS.at {h : Heap} {e : TypeId} {k : IntKind} {v : Value} {ns : List Int} (p : INS h e k v ns) {i : Nat} (hi : i < ns.length) : ∃ b o, iAdrSl 1 v (I i) = some (pt b o) ∧ iLoad false 1 h (pt b o) = some (.int k ns[i]) := by
  rcases p.2 with ⟨_, h0⟩ | ⟨j, rfl, hc⟩
  · omega
  · have hc := hc.resolve_left (by omega)
    exact ⟨j, i, adr_sl hi, by simp [iLoad, hc, iPart, hi]⟩

theorem C16 {v : Value} {ns : List Int} {h : Heap} {K : Value → Heap → Prop} (hv : INS h 58 .u16 v ns) (hns : ∀ x ∈ ns, 0 ≤ x ∧ x < 65536) (hk : ∀ u h', EX h h' → OwnS h.length h' 3 u ((wts ns).map I) → K u h') : CallP Tryd.prog 16 [v] h K := by
  refine f16 ?_
  have mk : iMkSl 3 0 [(.int .i64 (0))] h [] = some (sl 3 h.length 0 0, h ++ [.arr 3 []]) := rfl
  simp only [T16, mk, OH_some]
  have ownlen : ∀ {g : Heap} {vo : Value} {xs : List Int}, OwnS h.length g 3 vo (xs.map I) → iLenSl vo = some (I xs.length) := by
    intro g vo xs o
    rcases o with ⟨rfl, e⟩ | ⟨i, _, rfl, _⟩
    · have : xs = [] := by simpa using e
      subst this; rfl
    · simp [iLenSl, sl]
  -- what is left is filled up
  have pad : ∀ (vo : Value) (g : Heap), EX h g → OwnS h.length g 3 vo ((wts0 ns).map I) → p16z15 Tryd.prog K vo g := by
    intro vo g xg own
    rw [q16z15]
    have h12 := wts0_len ns
    refine loopL (σ := Nat × Value × Heap) (fun q => [q.2.1]) (fun q => q.2.2) (fun q => q.1 ≤ 2 - (wts0 ns).length ∧ EX h q.2.2 ∧ OwnS h.length q.2.2 3 q.2.1 ((wts0 ns ++ List.replicate q.1 1).map I)) (fun q => 2 - (wts0 ns).length - q.1)
      (0, vo, g) rfl rfl ⟨Nat.zero_le _, xg, by simpa using own⟩ ?_
    rintro ⟨k, vo, g⟩ ⟨hk2, xg, own⟩ L hL
    simp only at hk2 xg own hL ⊢
    have hl := ownlen own
    rw [List.length_append, List.length_replicate] at hl
    rw [q16z18]
    simp only [hl, OP_some, bin_lss, IfP_dec]
    refine ⟨fun hlt => ?_, fun hge => ?_⟩
    · refine app1 own xg (by simp; omega) (by simp [maxLen]; omega) rfl rfl ?_
      intro v' g' x' own'
      refine ⟨trivial, ?_⟩
      refine hL (k + 1, v', g') ⟨by show k + 1 ≤ _; omega, x', ?_⟩ (by show _ - (k + 1) < _ - k; omega)
      show OwnS h.length g' 3 v' _
      rw [List.replicate_succ', ← List.append_assoc, List.map_append]
      exact own'
    · have : k = 2 - (wts0 ns).length := by omega
      subst this
      rw [q16z22]
      exact hk vo g xg own
  refine loopL (σ := Nat × Value × Heap) (fun q => [q.2.1, I q.1]) (fun q => q.2.2) (fun q => (q.1 ≤ ns.length ∧ q.1 ≤ 12) ∧ EX h q.2.2 ∧ OwnS h.length q.2.2 3 q.2.1 (((ns.take q.1).map fun x => x % 1001).map I)) (fun q => 12 - q.1)
    (0, sl 3 h.length 0 0, h ++ [.arr 3 []]) rfl rfl ⟨⟨Nat.zero_le _, Nat.zero_le _⟩, EX.append _ _, .inr ⟨h.length, Nat.le_refl _, rfl, get_last⟩⟩ ?_
  rintro ⟨i, vo, g⟩ ⟨⟨hi, hi12⟩, xg, own⟩ L hL
  simp only at hi hi12 xg own hL ⊢
  have hlo := ownlen own
  rw [List.length_map, List.length_take, Nat.min_eq_left hi] at hlo
  have hv' : INS g 58 .u16 v ns := IS.mono xg hv
  have hvl : iLenSl v = some (I ns.length) := IS.len hv'
  rw [q16z6]
  simp only [hvl, OP_some, bin_lss]
  rw [q16z10]
  have done : (i = ns.length ∨ i = 12) → p16z15 Tryd.prog K vo g := by
    intro he
    refine pad vo g xg ?_
    unfold wts0
    have : ns.take 12 = ns.take i := by
      rcases he with rfl | rfl
      · rw [List.take_length, List.take_of_length_le hi12]
      · rfl
    rw [this]; exact own
  by_cases h1 : i < ns.length
  · simp only [decide_eq_true (show (i : Int) < ns.length by omega), GdP_tt, hlo, bin_lss, OP_some]
    rw [q16z12]
    by_cases h2 : i < 12
    · obtain ⟨b, o, g1, g2⟩ := INS.at hv' h1
      have hx := hns _ (List.getElem_mem h1)
      have cx : iConv .i64 (.int .u16 ns[i]) = some (I ns[i]) := by rw [conv_int, wrap64 (by omega) (by omega)]
      have rm : iBin .rem (I ns[i]) (.int .i64 1001) = some (I (ns[i] % 1001)) := by
        simp only [iBin, iInt]
        rw [if_pos trivial, if_neg (by decide), Int.tmod_eq_emod_of_nonneg hx.1]
      simp only [decide_eq_true (show (i : Int) < 12 by omega), iPick_t, OP_some, IfP_true, g1, g2, cx, rm]
      refine app1 own xg (by simp; omega) (by simp [maxLen]; omega) rfl rfl ?_
      intro v' g' x' own'
      simp only [bin_add, OP_some, inc i (by omega), true_and]
      refine hL (i + 1, v', g') ⟨⟨by show i + 1 ≤ _; omega, by show i + 1 ≤ 12; omega⟩, x', ?_⟩ (by show 12 - (i + 1) < 12 - i; omega)
      show OwnS h.length g' 3 v' (((ns.take (i + 1)).map fun x => x % 1001).map I)
      rw [List.take_succ_eq_append_getElem h1, List.map_append, List.map_append]
      exact own'
    · simp only [decide_eq_false (show ¬ (i : Int) < 12 by omega), iPick_t, OP_some, IfP_false]
      exact done (.inr (by omega))
  · simp only [decide_eq_false (show ¬ (i : Int) < ns.length by omega), GdP_ft]
    rw [q16z12]
    simp only [iPick_f, OP_some, IfP_false]
    exact done (.inl (by omega))

theorem own_nsI {b : Nat} {g : Heap} {v : Value} {l : List Int} (own : OwnS b g 3 v (l.map I)) (hl : l.length ≤ 1000) : NS g v .i64 l := by
  rcases own with ⟨rfl, e2⟩ | ⟨b, _, rfl, e3⟩
  · have : l = [] := by simpa using e2
    subst this
    exact NS.nil _ _
  · have := NS.arr (k := .i64) (e := 3) (ns := l) (h := g) (i := b) e3 (by simp [maxLen]; omega)
    simpa using this

theorem numE_len {ls : List Nat} (hl : ls.length ≤ 12) (h0 : 0 < ls.length) (hok : lenOk ls) : numE (ls.map fun l : Nat => (l : Int)) 1 1 10 = 0 := by
  unfold numE
  rw [List.length_map, if_neg (by omega), if_pos]
  refine ⟨fun x hx => ?_, by omega⟩
  obtain ⟨l, hl, rfl⟩ := List.mem_map.1 hx
  have := hok l hl
  omega

end Go.Proofs.YthplaillblmgfaaDoor


namespace Go.Proofs.YthplaillblmgfaaDoor
open Go.Sim

theorem cost_take : ∀ {ws : List Int} {ls : List Nat} {i : Nat} (h1 : i < ws.length) (h2 : i < ls.length), costL (ws.take (i + 1)) (ls.take (i + 1)) = costL (ws.take i) (ls.take i) + ws[i] * (ls[i] : Nat)
  | w :: ws, l :: ls, 0, _, _ => by simp [costL]
  | w :: ws, l :: ls, i + 1, h1, h2 => by
    have ih := cost_take (ws := ws) (ls := ls) (i := i) (by simpa using h1) (by simpa using h2)
    simp only [List.take_succ_cons, costL, List.getElem_cons_succ] at ih ⊢
    omega

theorem sum_take : ∀ {ws : List Int} {i : Nat} (h1 : i < ws.length), (ws.take (i + 1)).sum = (ws.take i).sum + ws[i]
  | w :: ws, 0, _ => by simp
  | w :: ws, i + 1, h1 => by
    have ih := sum_take (ws := ws) (i := i) (by simpa using h1)
    simp only [List.take_succ_cons, List.sum_cons, List.getElem_cons_succ] at ih ⊢
    omega

theorem sum_bd : ∀ {ws : List Int}, okW ws → 0 ≤ ws.sum ∧ ws.sum ≤ 1000 * ws.length
  | [], _ => by simp
  | w :: ws, h => by
    have := h w (by simp)
    have := sum_bd (ws := ws) fun x hx => h x (List.mem_cons_of_mem _ hx)
    simp only [List.sum_cons, List.length_cons]
    omega

theorem cost_bd : ∀ {ws : List Int} {ls : List Nat}, okW ws → lenOk ls → 0 ≤ costL ws ls ∧ costL ws ls ≤ 10000 * ws.length
  | [], _, _, _ => by simp [costL]
  | w :: ws, [], _, _ => by simp [costL]; omega
  | w :: ws, l :: ls, h, hl => by
    have h1 := h w (by simp)
    have h2 := hl l (by simp)
    have h3 := mul_small h1.1 h1.2 h2.2
    have := cost_bd (ws := ws) (ls := ls) (fun x hx => h x (List.mem_cons_of_mem _ hx)) fun x hx => hl x (List.mem_cons_of_mem _ hx)
    simp only [costL, List.length_cons]
    omega

theorem okW_take {ws : List Int} (h : okW ws) (i : Nat) : okW (ws.take i) := fun x hx => h x (List.mem_of_mem_take hx)
theorem lenOk_take {ls : List Nat} (h : lenOk ls) (i : Nat) : lenOk (ls.take i) := fun x hx => h x (List.mem_of_mem_take hx)

set_option maxHeartbeats 1000000 in
theorem C7 {v : Value} {ns : List Int} {h : Heap} {K : Value → Heap → Prop} (hv : INS h 58 .u16 v ns) (hns : ∀ x ∈ ns, 0 ≤ x ∧ x < 65536) (hk : ∀ h', K (B true) h') : CallP Tryd.prog 7 [v] h K := by
  refine f7 (C16 hv hns ?_)
  intro u h1 x1 hu0
  obtain ⟨q1, q2⟩ := wts_len ns
  have q3 := wts_ok ns
  have hu := own_nsI hu0 (by omega)
  generalize wts ns = ws at hu q1 q2 q3
  have hsum := sum_bd q3
  refine C10 hu (by omega) (fun h => by omega) (fun _ hb => absurd ⟨q1, q3⟩ hb) (fun _ _ _ c m h2 hc x2 hmo => ?_)
  obtain ⟨ml, mok⟩ := chL_len hc
  have hm := own_ns hmo (by omega)
  simp only [ext_tuple, (trip _ _ _).1, (trip _ _ _).2.1, (trip _ _ _).2.2, OP_some]
  refine C11 (hu.mono x2) (by omega) (fun h => by omega) (fun _ hb => absurd ⟨q1, q3⟩ hb) (fun _ _ _ d m' h3 hd x3 hmo' => ?_)
  obtain ⟨ml', mok'⟩ := chL_len hd
  have hm' := own_ns hmo' (by omega)
  have hm3 := hm.mono x3
  have hu3 := hu.mono (x2.trans x3)
  obtain ⟨at1, at2⟩ := lc_att (Nat.zero_le _) hc
  obtain ⟨at1', at2'⟩ := lc_att (Nat.zero_le _) hd
  have hle := lc_le hc hd
  have hmore := lc_more hc hd
  have lm := hm3.lenN
  have lm' := hm'.lenN
  rw [ml] at lm
  rw [ml'] at lm'
  simp only [ext_tuple, (trip _ _ _).1, (trip _ _ _).2.1, (trip _ _ _).2.2, OP_some, bin_neq, decide_true, Bool.not_true, q7z8, q7z10, q7z12, q7z14, q7z16, q7z18, q7z20, q7z22, GdP_ff, iPick_f, lm, lm', hu3.len, bin_gtr]
  rw [decide_eq_false (show ¬ d < c by omega)]
  rw [q7z24]
  simp only [GdP_ff]
  refine C12 hm3 (by rw [List.length_map]; omega) ?_
  rw [numE_len (by omega) (by omega) mok]
  simp only [bin_neq, decide_true, Bool.not_true, OP_some]
  rw [q7z26]
  simp only [iPick_f, OP_some]
  rw [q7z28]
  simp only [GdP_ff]
  refine C12 hm' (by rw [List.length_map]; omega) ?_
  rw [numE_len (by omega) (by omega) mok']
  simp only [bin_neq, decide_true, Bool.not_true, OP_some]
  rw [q7z30]
  simp only [iPick_f, OP_some]
  rw [q7z32]
  simp only [GdP_ff]
  refine C13 ?_
  simp only [un_not, Bool.not_true, OP_some]
  rw [q7z34]
  simp only [iPick_f, OP_some, IfP_false]
  generalize hLs : chL false ws 0 = ls at *
  generalize hLm : chL true ws 0 = ms at *
  refine loopL (σ := Nat × Nat) (fun q => [I (ws.take q.1).sum, I (costL (ws.take q.1) (ls.take q.1)), I (costL (ws.take q.1) (ms.take q.1)), I q.2, I q.1]) (fun _ => h3)
    (fun q => q.1 ≤ ws.length ∧ (∀ l ∈ ls.take q.1, l ≤ q.2) ∧ (q.2 = 0 ∨ q.2 ∈ ls)) (fun q => ws.length - q.1) (0, 0) (by simp [costL]) rfl ⟨Nat.zero_le _, by simp, .inl rfl⟩ ?_
  rintro ⟨i, mo⟩ ⟨hi, hmle, hmem⟩ L hL
  simp only at hi hmle hmem hL ⊢
  have hmo10 : mo ≤ 10 := by
    rcases hmem with h | h
    · omega
    · exact (mok mo h).2
  rw [q7z40]
  simp only [hu3.len, OP_some, bin_lss, IfP_dec]
  refine ⟨fun hlt => ?_, fun hge => ?_⟩
  · have hil : i < ws.length := by omega
    have hil2 : i < ls.length := by omega
    have hil3 : i < ms.length := by omega
    obtain ⟨b1, o1, a1, a2⟩ := hu3.get i hil
    obtain ⟨b2, o2, c1, c2⟩ := hm3.getN hil2
    obtain ⟨b3, o3, d1, d2⟩ := hm'.getN hil3
    have hw := q3 _ (List.getElem_mem hil)
    have hl1 := mok _ (List.getElem_mem hil2)
    have hl2 := mok' _ (List.getElem_mem hil3)
    have s1 := sum_bd (okW_take q3 i)
    have s2 := cost_bd (okW_take q3 i) (lenOk_take mok i)
    have s3 := cost_bd (okW_take q3 i) (lenOk_take mok' i)
    have p1 := mul_small hw.1 hw.2 hl1.2
    have p2 := mul_small hw.1 hw.2 hl2.2
    rw [List.length_take] at s1 s2 s3
    have w1 : IntKind.wrap .i64 ((ws.take i).sum + ws[i]) = (ws.take i).sum + ws[i] := wrap64 (by omega) (by omega)
    have w2 : IntKind.wrap .i64 (ws[i] * (ls[i] : Nat)) = ws[i] * (ls[i] : Nat) := wrap64 (by omega) (by omega)
    have w3 : IntKind.wrap .i64 (ws[i] * (ms[i] : Nat)) = ws[i] * (ms[i] : Nat) := wrap64 (by omega) (by omega)
    have w4 : IntKind.wrap .i64 (costL (ws.take i) (ls.take i) + ws[i] * (ls[i] : Nat)) = costL (ws.take i) (ls.take i) + ws[i] * (ls[i] : Nat) := wrap64 (by omega) (by omega)
    have w5 : IntKind.wrap .i64 (costL (ws.take i) (ms.take i) + ws[i] * (ms[i] : Nat)) = costL (ws.take i) (ms.take i) + ws[i] * (ms[i] : Nat) := wrap64 (by omega) (by omega)
    have wm : max (mo : Int) (ls[i] : Nat) = ((max mo ls[i] : Nat) : Int) := by omega
    simp only [a1, a2, c1, c2, d1, d2, OP_some, true_and, bin_add, w1, bin_mul, w2, w3, w4, w5, max2', wm, inc i (by omega)]
    rw [← sum_take hil, ← cost_take hil hil2, ← cost_take hil hil3]
    refine hL (i + 1, max mo ls[i]) ⟨by show i + 1 ≤ _; omega, fun l hl => ?_, ?_⟩ (by show ws.length - (i + 1) < ws.length - i; omega)
    · show l ≤ max mo ls[i]
      rw [List.take_succ_eq_append_getElem hil2, List.mem_append, List.mem_singleton] at hl
      rcases hl with hl | rfl
      · have := hmle l hl; omega
      · omega
    · show max mo ls[i] = 0 ∨ max mo ls[i] ∈ ls
      rcases Nat.le_total mo ls[i] with h | h
      · rw [Nat.max_eq_right h]; exact .inr (List.getElem_mem _)
      · rw [Nat.max_eq_left h]; exact hmem
  · have hie : i = ws.length := by omega
    have e1 : ws.take i = ws := by rw [hie, List.take_length]
    have e2 : ls.take i = ls := by rw [hie, ← ml, List.take_length]
    have e3 : ms.take i = ms := by rw [hie, ← ml', List.take_length]
    rw [e2] at hmle
    rw [e1, e2, e3, at1, at1']
    rw [q7z45]
    refine C24 hm3 (by omega) (by omega) mok (fun hbig => ?_) (fun _ p h4 x4 _ => ?_)
    · rw [endP_free] at at2; omega
    simp only [ext_tuple, pair0, pair1, OP_some]
    refine C25 (hm'.mono x4) (by omega) (by omega) mok' (fun hno => ?_) (fun rw_ r h5 _ x5 _ => ?_)
    · have := (risL_some mok' (Nat.zero_le _)).2 at2'
      rw [hno] at this
      cases this
    have hcb := lc_bound q3 hc
    have wc : IntKind.wrap .i64 (c + ws.sum) = c + ws.sum := wrap64 (by omega) (by omega)
    simp only [ext_tuple, pair0, pair1, OP_some, bin_eql, decide_true, q7z50, q7z52, q7z54, GdP_tt, iPick_t]
    rw [q7z56]
    by_cases h10 : mo = 10
    · simp only [decide_eq_true (show (mo : Int) = 10 by omega), GdP_tf, q7z58, q7z60, q7z62, q7z64, q7z66, q7z68, GdP_tt, iPick_t, OP_some, bin_eql, decide_true]
      exact hk _
    · have hd2 : d ≤ c + ws.sum := hmore fun l hl => by have := hmle l hl; omega
      simp only [decide_eq_false (show ¬ (mo : Int) = 10 by omega), GdP_ff, bin_add, wc, OP_some, bin_leq, decide_eq_true hd2, q7z58, q7z60, q7z62, q7z64, q7z66, q7z68, GdP_tt, iPick_t, iPick_f, bin_eql, decide_true]
      exact hk _

end Go.Proofs.YthplaillblmgfaaDoor

