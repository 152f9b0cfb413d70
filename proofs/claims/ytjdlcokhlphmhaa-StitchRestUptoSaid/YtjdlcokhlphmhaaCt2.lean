/-
  What the functions of stitch and of its reference come to in the ideal machine: the least equal seam, both ways.
-/
import Derived.Test.YtjdlcokhlphmhaaCt1
namespace Go.Proofs.Ytjdlcokhlphmhaa
open Go.Sim

/-- A slice of cells that this call has made, or nil. -/
def OwnS (b : Nat) (hx : Heap) (e : TypeId) (v : Value) (xs : List Value) : Prop :=
  (v = .slice none 0 0 ∧ xs = []) ∨ (∃ i, b ≤ i ∧ v = sl e i 0 xs.length ∧ hx[i]? = some (.arr e xs))

theorem app1 {h0 hx : Heap} {e : TypeId} {bytes : Nat} {v x z : Value} {xs : List Value} {K : Value → Heap → Prop} (o : OwnS h0.length hx e v xs) (hex : EX h0 hx) (hb : (xs.length + 1) * bytes ≤ 140737488355328) (hm : xs.length + 1 ≤ maxLen)
    (h1 : noTuple x = true) (h2 : vcells x = [x]) (hk : ∀ v' hx', EX h0 hx' → OwnS h0.length hx' e v' (xs ++ [x]) → K v' hx') :
    OH (iMkSl e 1 [z] hx [(0, 1, x)]) fun a h2 => OH (iApp e 1 bytes h2 v a) K := by
  have e1 : iMkSl e 1 [z] hx [(0, 1, x)] = some (sl e hx.length 0 1, hx ++ [.arr e [x]]) := by
    simp [iMkSl, fillL, zrep, h1, h2, setAt]
  rw [e1]
  simp only [OH_some]
  have e2 : sliceCells (hx ++ [.arr e [x]]) 1 (sl e hx.length 0 1) = some [x] := by simp [sliceCells, sl, objCells]
  have e3 : lenOfSl (sl e hx.length 0 1) = some 1 := rfl
  rcases o with ⟨rfl, rfl⟩ | ⟨i, hi, rfl, hget⟩
  · refine OH_of (v := sl e (hx.length + 1) 0 1) (h := hx ++ [.arr e [x]] ++ [.arr e [x]]) ?_ (hk _ _ ((hex.push _).push _) (.inr ⟨hx.length + 1, by have := hex.1; omega, rfl, by simp⟩))
    have hb' : 1 * bytes ≤ 140737488355328 := by simpa using hb
    have hm' : 1 ≤ maxLen := by simpa using hm
    simp only [iApp, e2, e3]
    rw [if_neg (by omega), if_pos ⟨hb', hm'⟩]
    simp
  · have hlt := (List.getElem?_eq_some_iff.1 hget).1
    have hg : (hx ++ [.arr e [x]])[i]? = some (.arr e xs) := by rw [List.getElem?_append_left hlt]; exact hget
    refine OH_of (v := sl e (hx.length + 1) 0 (xs.length + 1)) (h := (hx ++ [IObj.arr e [x]]).set i IObj.dead ++ [IObj.arr e (xs ++ [x])]) ?_
      (hk _ _ (((hex.push _).set hi _).push _) (.inr ⟨hx.length + 1, by have := hex.1; omega, by simp, ?_⟩))
    · simp only [iApp, e2, e3]
      simp only [sl, hg]
      rw [if_pos ⟨trivial, trivial, by simp, hb, hm⟩, if_neg (by omega)]
      simp
    · rw [List.getElem?_append_right (by simp)]
      simp

theorem b2s {b : Nat} {hx : Heap} {e : TypeId} {v : Value} {l : List UInt8} (o : OwnS b hx e v (l.map cv)) : iB2s hx v = some (S l) := by
  have hm : ∀ l : List UInt8, (l.map cv).mapM byteOf1 = some l := by
    intro l
    induction l with
    | nil => rfl
    | cons c l ih => simp [List.mapM_cons, byteOf1, ih]
  rcases o with ⟨rfl, hx⟩ | ⟨i, hi, rfl, hget⟩
  · have : l = [] := by simpa using hx
    subst this
    rfl
  · by_cases hl : l = []
    · subst hl
      simp [iB2s, sliceCells, sl]
    · have hn : l.length ≠ 0 := by simpa using hl
      have hn' : ¬ (l.map cv).length = 0 := by simpa using hl
      have ht : ((l.map cv).drop 0).take ((l.map cv).length * 1) = l.map cv := by rw [List.drop_zero, Nat.mul_one, List.take_length]
      simp only [iB2s, sliceCells, sl, if_neg hn', objCells, hget, Option.bind_some]
      rw [if_pos (by omega), ht, Option.bind_some, hm]
      rfl

theorem cv_lt {a : Nat} (h : a < 100) : cv (lt a) = .int .u8 ((97 + a : Nat) : Int) := by rw [cv, lt_toNat h]

theorem C60t {s : List UInt8} {i : Nat} {h : Heap} {K : Value → Heap → Prop} (hi : i < s.length) (hl : s.length ≤ 1000) (hk : K (S (without s i)) h) :
    OP (iSlS (S s) none (some (I i))) fun x7 => OP (iBin .add (I i) (.int .i64 1)) fun x10 => OP (iSlS (S s) (some x10) none) fun x11 => OP (iBin .add x7 x11) fun x12 => K x12 h := by
  rw [slS_hi s (by omega)]
  simp only [OP_some, bin_add, inc i (by omega)]
  rw [slS_lo s (by omega)]
  simp only [OP_some]
  rw [bin_addS _ _ (by simp only [List.length_take, List.length_drop, maxLen]; omega)]
  exact OP_some.2 hk

theorem C60 {s : List UInt8} {i : Nat} {h : Heap} {K : Value → Heap → Prop} (hi : i < s.length) (hl : s.length ≤ 1000) (hk : K (S (without s i)) h) : CallP Try.prog 60 [S s, I i] h K := f60 (C60t hi hl hk)
theorem C85 {s : List UInt8} {i : Nat} {h : Heap} {K : Value → Heap → Prop} (hi : i < s.length) (hl : s.length ≤ 1000) (hk : K (S (without s i)) h) : CallP Try.prog 85 [S s, I i] h K := f85 (C60t hi hl hk)

theorem C59 {ps : List (Int × Int)} {pv : Value} {x : UInt8} {s : List UInt8} {h : Heap} {K : Value → Heap → Prop} (hp : PS h pv ps) (hg : good ps) (hl : ps.length ≤ 100) (hs : s.length ≤ 1000)
    (hk : K (I (optI (firstAt (freeP ps) x s 0))) h) : CallP Try.prog 59 [pv, S s, cv x] h K := by
  refine f59 ?_
  refine loopL (σ := Nat) (fun i => [I i]) (fun _ => h) (fun i => i ≤ s.length ∧ firstAt (freeP ps) x s 0 = firstAt (freeP ps) x (s.drop i) i) (fun i => s.length - i) 0 rfl rfl ⟨by omega, rfl⟩ ?_
  rintro i ⟨hi, hf⟩ L hL
  rw [q59z5]
  simp only [lenS_S, OP_some, bin_lss, IfP_dec]
  refine ⟨fun hlt => ?_, fun hge => ?_⟩
  · have hlt' : i < s.length := by omega
    rw [idxS_S s hlt']
    simp only [OP_some, bin_eql, IfP_dec, cv_inj]
    rw [List.drop_eq_getElem_cons hlt'] at hf
    simp only [firstAt] at hf
    refine ⟨fun he => ?_, fun he => ?_⟩
    · rw [if_pos he] at hf
      rw [hf] at hk
      exact hk
    · rw [if_neg he] at hf
      refine C33 hp hg hl ?_
      simp only [un_not, OP_some]
      cases hfr : freeP ps s[i] x with
      | false => rw [hfr] at hf; simp at hf; simp; rw [hf] at hk; exact hk
      | true =>
        rw [hfr] at hf
        simp only [Bool.not_true, IfP_false, bin_add, OP_some, inc i (by omega), true_and]
        exact hL (i + 1) ⟨by omega, by simpa using hf⟩ (by omega)
  · have : i = s.length := by omega
    subst this
    simp [firstAt] at hf
    rw [hf] at hk
    exact hk

/-- Threads in memory: how many letters, which commute. -/
def tcells (k : Int) (cm : Nat → Nat → Bool) : List Value := I k :: (List.range 36).map fun j => B (cm (j / 6) (j % 6))

def TH (h : Heap) (t : Value) (k : Int) (cm : Nat → Nat → Bool) : Prop := ∃ i, t = pt i 0 ∧ objCells h i = some (tcells k cm)

theorem TH.mono {h h' : Heap} {t : Value} {k : Int} {cm : Nat → Nat → Bool} (hx : EX h h') (p : TH h t k cm) : TH h' t k cm := let ⟨i, a, b⟩ := p; ⟨i, a, hx.cells b⟩

def frM (cm : Nat → Nat → Bool) (x y : UInt8) : Bool := cm (x.toNat - 97) (y.toNat - 97)

theorem C81 {t : Value} {k : Int} {cm : Nat → Nat → Bool} {a b : Nat} {h : Heap} {K : Value → Heap → Prop} (ht : TH h t k cm) (ha : a < 6) (hb : b < 6) (hk : K (B (!frM cm (lt a) (lt b))) h) : CallP Try.prog 81 [t, cv (lt a), cv (lt b)] h K := by
  obtain ⟨i, rfl, hc⟩ := ht
  refine f81 ?_
  simp only [T81, cv_lt (show a < 100 by omega), cv_lt (show b < 100 by omega), bin_sub, OP_some]
  rw [wrapU8 (by omega) (by omega), wrapU8 (by omega) (by omega)]
  have ea : ((97 + a : Nat) : Int) - 97 = (a : Int) := by omega
  have eb : ((97 + b : Nat) : Int) - 97 = (b : Int) := by omega
  rw [ea, eb]
  simp only [nilck_pt, OP_some, fadr_pt, Nat.zero_add]
  have e1 : iAdrArr 6 6 (pt i 1) (.int .u8 (a : Int)) = some (pt i (1 + a * 6)) := by simp [iAdrArr]; omega
  have e2 : iAdrArr 6 1 (pt i (1 + a * 6)) (.int .u8 (b : Int)) = some (pt i (1 + a * 6 + b)) := by simp [iAdrArr]; omega
  simp only [e1, OP_some, e2]
  have e3 : iLoad false 1 h (pt i (1 + a * 6 + b)) = some (B (cm a b)) := by
    have hlt : a * 6 + b < 36 := by omega
    have hd : (a * 6 + b) / 6 = a := by omega
    have hm : (a * 6 + b) % 6 = b := by omega
    simp only [iLoad, hc, Option.bind_some, iPart]
    rw [show 1 + a * 6 + b = (a * 6 + b) + 1 by omega]
    simp [tcells, hlt, hd, hm]
  simp only [e3, OP_some, un_not]
  simpa [frM, lt_toNat (show a < 100 by omega), lt_toNat (show b < 100 by omega)] using hk

theorem C84 {t : Value} {k : Int} {cm : Nat → Nat → Bool} {b : Nat} {s : List UInt8} {h : Heap} {K : Value → Heap → Prop} (ht : TH h t k cm) (hb : b < 6) (hlet : letters 6 s) (hs : s.length ≤ 1000)
    (hk : K (I (optI (firstAt (frM cm) (lt b) s 0))) h) : CallP Try.prog 84 [t, S s, cv (lt b)] h K := by
  refine f84 ?_
  simp only [T84, lenS_S, OP_some]
  refine loopL (σ := Nat) (fun i => [I i]) (fun _ => h) (fun i => i ≤ s.length ∧ firstAt (frM cm) (lt b) s 0 = firstAt (frM cm) (lt b) (s.drop i) i) (fun i => s.length - i) 0 rfl rfl ⟨by omega, rfl⟩ ?_
  rintro i ⟨hi, hf⟩ L hL
  rw [q84z5]
  simp only [OP_some, bin_lss, IfP_dec]
  refine ⟨fun hlt => ?_, fun hge => ?_⟩
  · have hlt' : i < s.length := by omega
    rw [idxS_S s hlt']
    simp only [OP_some, bin_eql, IfP_dec, cv_inj]
    rw [List.drop_eq_getElem_cons hlt'] at hf
    simp only [firstAt] at hf
    refine ⟨fun he => ?_, fun he => ?_⟩
    · rw [if_pos he] at hf
      rw [hf] at hk
      exact hk
    · rw [if_neg he] at hf
      obtain ⟨a, ha, hsa⟩ := hlet s[i] (List.getElem_mem hlt')
      rw [hsa] at hf ⊢
      refine C81 ht ha hb ?_
      cases hfr : frM cm (lt a) (lt b) with
      | false => rw [hfr] at hf; simp at hf; simp; rw [hf] at hk; exact hk
      | true =>
        rw [hfr] at hf
        simp only [Bool.not_true, IfP_false, bin_add, OP_some, inc i (by omega), true_and]
        exact hL (i + 1) ⟨by omega, by simpa using hf⟩ (by omega)
  · have : i = s.length := by omega
    subst this
    simp [firstAt] at hf
    rw [hf] at hk
    exact hk

end Go.Proofs.Ytjdlcokhlphmhaa
