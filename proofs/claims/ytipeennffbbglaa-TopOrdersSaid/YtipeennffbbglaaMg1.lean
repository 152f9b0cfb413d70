/-
  What the functions of stitch and of its reference come to in the ideal machine: one letter after another.
-/
import Derived.Test.YtipeennffbbglaaSp1
import Derived.Test.YtipeennffbbglaaShT
namespace Go.Proofs.Ytipeennffbbglaa
open Go.Sim

theorem EX.load {h h' : Heap} (k : EX h h') {agg : Bool} {n : Nat} {a v : Value} (hl : iLoad agg n h a = some v) : iLoad agg n h' a = some v := by
  unfold iLoad at hl ⊢
  split at hl
  · rename_i i o
    cases hc : objCells h i with
    | none => rw [hc] at hl; cases hl
    | some xs => rw [hc] at hl; rw [k.cells hc]; exact hl
  · cases hl

theorem inc (i : Nat) (h : i < 4611686018427387904) : IntKind.wrap .i64 ((i : Int) + 1) = ((i + 1 : Nat) : Int) := by
  rw [wrap64 (by omega) (by omega)]; omega

@[simp] theorem fadr_pt (o i k : Nat) : iFadr o (pt i k) = some (pt i (k + o)) := rfl
@[simp] theorem nilck_pt (i k : Nat) : iNilck (pt i k) = some (pt i k) := rfl

/-- Pairs in memory. -/
def pcells (ps : List (Int × Int)) : List Value := ps.flatMap fun p => [I p.1, I p.2]

theorem pcells_get : ∀ {ps : List (Int × Int)} {k : Nat} {p : Int × Int}, ps[k]? = some p → (pcells ps)[2 * k]? = some (I p.1) ∧ (pcells ps)[2 * k + 1]? = some (I p.2)
  | [], k, p, h => by simp at h
  | q :: ps, 0, p, h => by simp at h; subst h; simp [pcells]
  | q :: ps, k + 1, p, h => by
    have := pcells_get (ps := ps) (k := k) (p := p) (by simpa using h)
    rw [show 2 * (k + 1) = 2 * k + 1 + 1 by omega]
    simpa [pcells] using this

theorem pcells_length (ps : List (Int × Int)) : (pcells ps).length = 2 * ps.length := by
  induction ps with
  | nil => rfl
  | cons p ps ih => simp only [pcells, List.flatMap_cons, List.length_append, List.length_cons, List.length_nil] at ih ⊢; omega

structure PS (h : Heap) (v : Value) (ps : List (Int × Int)) : Prop where
  len : iLenSl v = some (I ps.length)
  get : ∀ k (hk : k < ps.length), ∃ i o, iAdrSl 2 v (I k) = some (pt i o) ∧ iLoad false 1 h (pt i o) = some (I ps[k].1) ∧ iLoad false 1 h (pt i (o + 1)) = some (I ps[k].2) ∧
    iLoad true 2 h (pt i o) = some (.agg #[I ps[k].1, I ps[k].2])

theorem PS.mono {h h' : Heap} {v : Value} {ps : List (Int × Int)} (k : EX h h') (p : PS h v ps) : PS h' v ps :=
  ⟨p.len, fun j hj => let ⟨i, o, a, b, c, d⟩ := p.get j hj; ⟨i, o, a, EX.load k b, EX.load k c, EX.load k d⟩⟩

theorem PS.nil (h : Heap) : PS h (.slice none 0 0) [] := ⟨rfl, fun k hk => by simp at hk⟩

theorem PS.sl {h : Heap} {e : TypeId} {i : Nat} {ps : List (Int × Int)} (hc : objCells h i = some (pcells ps)) : PS h (sl e i 0 ps.length) ps := by
  refine ⟨rfl, fun k hk => ⟨i, 2 * k, ?_, ?_, ?_, ?_⟩⟩
  · have : (0 : Int) ≤ (k : Int) ∧ (k : Int) < (ps.length : Int) := by omega
    simp [Go.Sim.sl, iAdrSl, this, Nat.mul_comm]
  · obtain ⟨g1, g2⟩ := pcells_get (List.getElem?_eq_getElem hk)
    simp [iLoad, hc, iPart, g1]
  · obtain ⟨g1, g2⟩ := pcells_get (List.getElem?_eq_getElem hk)
    simp [iLoad, hc, iPart, g2]
  · obtain ⟨g1, g2⟩ := pcells_get (List.getElem?_eq_getElem hk)
    have hl := pcells_length ps
    have : ((pcells ps).drop (2 * k)).take 2 = [I ps[k].1, I ps[k].2] := by
      apply List.ext_getElem?
      intro j
      rw [List.getElem?_take]
      match j with
      | 0 => simpa using g1
      | 1 => simpa using g2
      | j + 2 => simp; omega
    have h2 : 2 * k + 2 ≤ (pcells ps).length := by omega
    simp [iLoad, hc, iPart, this, h2]

/-- Pairs of valid threads. -/
def good (ps : List (Int × Int)) : Prop := ∀ p ∈ ps, 0 ≤ p.1 ∧ p.1 < 6 ∧ 0 ≤ p.2 ∧ p.2 < 6

def hit (x y : UInt8) (p : Int × Int) : Bool := (decide (97 + p.1 = (x.toNat : Int)) && decide (97 + p.2 = (y.toNat : Int))) || (decide (97 + p.1 = (y.toNat : Int)) && decide (97 + p.2 = (x.toNat : Int)))
def freeP (ps : List (Int × Int)) (x y : UInt8) : Bool := ps.any (hit x y)

theorem C4 {ps : List (Int × Int)} {pv : Value} {x y : UInt8} {h : Heap} {K : Value → Heap → Prop} (hp : PS h pv ps) (hg : good ps) (hl : ps.length ≤ 100) (hk : K (B (freeP ps x y)) h) : CallP Try.prog 4 [pv, cv x, cv y] h K := by
  refine f4 ?_
  refine loopL (σ := Nat) (fun i => [I i]) (fun _ => h) (fun i => i ≤ ps.length ∧ freeP ps x y = (ps.drop i).any (hit x y)) (fun i => ps.length - i) 0 rfl rfl ⟨by omega, rfl⟩ ?_
  rintro i ⟨hi, hf⟩ L hL
  rw [q4z5]
  simp only [hp.len, OP_some, bin_lss, IfP_dec]
  refine ⟨fun hlt => ?_, fun hge => ?_⟩
  · have hlt' : i < ps.length := by omega
    obtain ⟨b, o, g1, g2, g3, _⟩ := hp.get i hlt'
    have hgi := hg ps[i] (List.getElem_mem hlt')
    simp only [g1, g2, OP_some, fadr_pt, Nat.add_zero, g3, bin_add, conv_int, bin_eql, true_and]
    rw [wrap64 (by omega) (by omega), wrapU8 (by omega) (by omega), wrap64 (by omega) (by omega), wrapU8 (by omega) (by omega)]
    have hd : ps.drop i = ps[i] :: ps.drop (i + 1) := List.drop_eq_getElem_cons hlt'
    have hhit : freeP ps x y = (hit x y ps[i] || (ps.drop (i + 1)).any (hit x y)) := by rw [hf, hd]; rfl
    simp only [hit] at hhit
    simp only [q4z13, q4z15, q4z17, q4z19, q4z21, q4z23, bin_eql, bin_add, OP_some, inc i (by omega), true_and]
    have next := fun hn : freeP ps x y = (ps.drop (i + 1)).any (hit x y) => hL (i + 1) ⟨by omega, hn⟩ (by omega)
    generalize (ps.drop (i + 1)).any (hit x y) = rest at hhit next
    simp only [I] at next
    generalize decide ((97 : Int) + ps[i].1 = x.toNat) = b1 at hhit ⊢
    generalize decide ((97 : Int) + ps[i].2 = y.toNat) = b2 at hhit ⊢
    generalize decide ((97 : Int) + ps[i].1 = y.toNat) = b3 at hhit ⊢
    generalize decide ((97 : Int) + ps[i].2 = x.toNat) = b4 at hhit ⊢
    cases b1 <;> cases b2 <;> cases b3 <;> cases b4 <;> simp at hhit ⊢ <;> first | (rw [hhit] at hk; exact hk) | exact next hhit
  · have : i = ps.length := by omega
    subst this
    simp at hf
    rw [hf] at hk
    exact hk

end Go.Proofs.Ytipeennffbbglaa

/-
  What the functions of stitch and of its reference come to in the ideal machine: the least equal seam, both ways.
-/
namespace Go.Proofs.Ytipeennffbbglaa
open Go.Sim

/-- A slice of cells that this call has made, or nil. -/
def OwnS (b : Nat) (hx : Heap) (e : TypeId) (v : Value) (xs : List Value) : Prop :=
  (v = .slice none 0 0 ∧ xs = []) ∨ (∃ i, b ≤ i ∧ v = sl e i 0 xs.length ∧ hx[i]? = some (.arr e xs))

theorem app1 {h0 hx : Heap} {e : TypeId} {bytes : Nat} {v x z : Value} {xs : List Value} {K : Value → Heap → Prop} (o : OwnS h0.length hx e v xs) (hex : EX h0 hx) (hb : (xs.length + 1) * bytes ≤ 140737488355328) (hm : xs.length + 1 ≤ maxLen)
    (h1 : noTuple x = true) (h2 : vcells x = [x]) (hk : ∀ v' hx', EX h0 hx' → OwnS h0.length hx' e v' (xs ++ [x]) → K v' hx') :
    OH (iMkSl e 1 [z] hx [(0, 1, x)]) fun a h2 => OH (iApp e 1 bytes h2 v a) K := by
  have e1 : iMkSl e 1 [z] hx [(0, 1, x)] = some (sl e hx.length 0 1, hx ++ [.arr e [x]]) := by
    simp [iMkSl, fillL, zrep, h1, h2, setAt]
  rw [e1]
  simp only [OH_some]
  have e2 : sliceCells (hx ++ [.arr e [x]]) 1 (sl e hx.length 0 1) = some [x] := by simp [sliceCells, sl, objCells]
  have e3 : lenOfSl (sl e hx.length 0 1) = some 1 := rfl
  rcases o with ⟨rfl, rfl⟩ | ⟨i, hi, rfl, hget⟩
  · refine OH_of (v := sl e (hx.length + 1) 0 1) (h := hx ++ [.arr e [x]] ++ [.arr e [x]]) ?_ (hk _ _ ((hex.push _).push _) (.inr ⟨hx.length + 1, by have := hex.1; omega, rfl, by simp⟩))
    have hb' : 1 * bytes ≤ 140737488355328 := by simpa using hb
    have hm' : 1 ≤ maxLen := by simpa using hm
    simp only [iApp, e2, e3]
    rw [if_neg (by omega), if_pos ⟨hb', hm'⟩]
    simp
  · have hlt := (List.getElem?_eq_some_iff.1 hget).1
    have hg : (hx ++ [.arr e [x]])[i]? = some (.arr e xs) := by rw [List.getElem?_append_left hlt]; exact hget
    refine OH_of (v := sl e (hx.length + 1) 0 (xs.length + 1)) (h := (hx ++ [IObj.arr e [x]]).set i IObj.dead ++ [IObj.arr e (xs ++ [x])]) ?_
      (hk _ _ (((hex.push _).set hi _).push _) (.inr ⟨hx.length + 1, by have := hex.1; omega, by simp, ?_⟩))
    · simp only [iApp, e2, e3]
      simp only [sl, hg]
      rw [if_pos ⟨trivial, trivial, by simp, hb, hm⟩, if_neg (by omega)]
      simp
    · rw [List.getElem?_append_right (by simp)]
      simp

theorem b2s {b : Nat} {hx : Heap} {e : TypeId} {v : Value} {l : List UInt8} (o : OwnS b hx e v (l.map cv)) : iB2s hx v = some (S l) := by
  have hm : ∀ l : List UInt8, (l.map cv).mapM byteOf1 = some l := by
    intro l
    induction l with
    | nil => rfl
    | cons c l ih => simp [List.mapM_cons, byteOf1, ih]
  rcases o with ⟨rfl, hx⟩ | ⟨i, hi, rfl, hget⟩
  · have : l = [] := by simpa using hx
    subst this
    rfl
  · by_cases hl : l = []
    · subst hl
      simp [iB2s, sliceCells, sl]
    · have hn : l.length ≠ 0 := by simpa using hl
      have hn' : ¬ (l.map cv).length = 0 := by simpa using hl
      have ht : ((l.map cv).drop 0).take ((l.map cv).length * 1) = l.map cv := by rw [List.drop_zero, Nat.mul_one, List.take_length]
      simp only [iB2s, sliceCells, sl, if_neg hn', objCells, hget, Option.bind_some]
      rw [if_pos (by omega), ht, Option.bind_some, hm]
      rfl

theorem cv_lt {a : Nat} (h : a < 100) : cv (lt a) = .int .u8 ((97 + a : Nat) : Int) := by rw [cv, lt_toNat h]

theorem C60t {s : List UInt8} {i : Nat} {h : Heap} {K : Value → Heap → Prop} (hi : i < s.length) (hl : s.length ≤ 1000) (hk : K (S (without s i)) h) :
    OP (iSlS (S s) none (some (I i))) fun x7 => OP (iBin .add (I i) (.int .i64 1)) fun x10 => OP (iSlS (S s) (some x10) none) fun x11 => OP (iBin .add x7 x11) fun x12 => K x12 h := by
  rw [slS_hi s (by omega)]
  simp only [OP_some, bin_add, inc i (by omega)]
  rw [slS_lo s (by omega)]
  simp only [OP_some]
  rw [bin_addS _ _ (by simp only [List.length_take, List.length_drop, maxLen]; omega)]
  exact OP_some.2 hk

theorem C19 {s : List UInt8} {i : Nat} {h : Heap} {K : Value → Heap → Prop} (hi : i < s.length) (hl : s.length ≤ 1000) (hk : K (S (without s i)) h) : CallP Try.prog 19 [S s, I i] h K := f19 (C60t hi hl hk)

/-- Threads in memory: how many letters, which commute. -/
def tcells (k : Int) (cm : Nat → Nat → Bool) : List Value := I k :: (List.range 36).map fun j => B (cm (j / 6) (j % 6))

def TH (h : Heap) (t : Value) (k : Int) (cm : Nat → Nat → Bool) : Prop := ∃ i, t = pt i 0 ∧ objCells h i = some (tcells k cm)

theorem TH.mono {h h' : Heap} {t : Value} {k : Int} {cm : Nat → Nat → Bool} (hx : EX h h') (p : TH h t k cm) : TH h' t k cm := let ⟨i, a, b⟩ := p; ⟨i, a, hx.cells b⟩

def frM (cm : Nat → Nat → Bool) (x y : UInt8) : Bool := cm (x.toNat - 97) (y.toNat - 97)

theorem C31 {t : Value} {k : Int} {cm : Nat → Nat → Bool} {a b : Nat} {h : Heap} {K : Value → Heap → Prop} (ht : TH h t k cm) (ha : a < 6) (hb : b < 6) (hk : K (B (!frM cm (lt a) (lt b))) h) : CallP Try.prog 31 [t, cv (lt a), cv (lt b)] h K := by
  obtain ⟨i, rfl, hc⟩ := ht
  refine f31 ?_
  simp only [T31, cv_lt (show a < 100 by omega), cv_lt (show b < 100 by omega), bin_sub, OP_some]
  rw [wrapU8 (by omega) (by omega), wrapU8 (by omega) (by omega)]
  have ea : ((97 + a : Nat) : Int) - 97 = (a : Int) := by omega
  have eb : ((97 + b : Nat) : Int) - 97 = (b : Int) := by omega
  rw [ea, eb]
  simp only [nilck_pt, OP_some, fadr_pt, Nat.zero_add]
  have e1 : iAdrArr 6 6 (pt i 1) (.int .u8 (a : Int)) = some (pt i (1 + a * 6)) := by simp [iAdrArr]; omega
  have e2 : iAdrArr 6 1 (pt i (1 + a * 6)) (.int .u8 (b : Int)) = some (pt i (1 + a * 6 + b)) := by simp [iAdrArr]; omega
  simp only [e1, OP_some, e2]
  have e3 : iLoad false 1 h (pt i (1 + a * 6 + b)) = some (B (cm a b)) := by
    have hlt : a * 6 + b < 36 := by omega
    have hd : (a * 6 + b) / 6 = a := by omega
    have hm : (a * 6 + b) % 6 = b := by omega
    simp only [iLoad, hc, Option.bind_some, iPart]
    rw [show 1 + a * 6 + b = (a * 6 + b) + 1 by omega]
    simp [tcells, hlt, hd, hm]
  simp only [e3, OP_some, un_not]
  simpa [frM, lt_toNat (show a < 100 by omega), lt_toNat (show b < 100 by omega)] using hk

theorem C17 {t : Value} {k : Int} {cm : Nat → Nat → Bool} {b : Nat} {s : List UInt8} {h : Heap} {K : Value → Heap → Prop} (ht : TH h t k cm) (hb : b < 6) (hlet : letters 6 s) (hs : s.length ≤ 1000)
    (hk : K (I (optI (firstAt (frM cm) (lt b) s 0))) h) : CallP Try.prog 17 [t, S s, cv (lt b)] h K := by
  refine f17 ?_
  simp only [T17, lenS_S, OP_some]
  refine loopL (σ := Nat) (fun i => [I i]) (fun _ => h) (fun i => i ≤ s.length ∧ firstAt (frM cm) (lt b) s 0 = firstAt (frM cm) (lt b) (s.drop i) i) (fun i => s.length - i) 0 rfl rfl ⟨by omega, rfl⟩ ?_
  rintro i ⟨hi, hf⟩ L hL
  rw [q17z5]
  simp only [OP_some, bin_lss, IfP_dec]
  refine ⟨fun hlt => ?_, fun hge => ?_⟩
  · have hlt' : i < s.length := by omega
    rw [idxS_S s hlt']
    simp only [OP_some, bin_eql, IfP_dec, cv_inj]
    rw [List.drop_eq_getElem_cons hlt'] at hf
    simp only [firstAt] at hf
    refine ⟨fun he => ?_, fun he => ?_⟩
    · rw [if_pos he] at hf
      rw [hf] at hk
      exact hk
    · rw [if_neg he] at hf
      obtain ⟨a, ha, hsa⟩ := hlet s[i] (List.getElem_mem hlt')
      rw [hsa] at hf ⊢
      refine C31 ht ha hb ?_
      cases hfr : frM cm (lt a) (lt b) with
      | false => rw [hfr] at hf; simp at hf; simp; rw [hf] at hk; exact hk
      | true =>
        rw [hfr] at hf
        simp only [Bool.not_true, IfP_false, bin_add, OP_some, inc i (by omega), true_and]
        exact hL (i + 1) ⟨by omega, by simpa using hf⟩ (by omega)
  · have : i = s.length := by omega
    subst this
    simp [firstAt] at hf
    rw [hf] at hk
    exact hk

end Go.Proofs.Ytipeennffbbglaa

/-
  The least equal seam, as both sides reckon it.
-/
namespace Go.Proofs.Ytipeennffbbglaa
open Go.Sim

theorem lt_succ {a : Nat} (h : a < 60) : IntKind.wrap .u8 (((lt a).toNat : Int) + 1) = ((lt (a + 1)).toNat : Int) := by
  rw [lt_toNat (by omega), lt_toNat (by omega), wrapU8 (by omega) (by omega)]
  omega

theorem firstAt_lt {fr : UInt8 → UInt8 → Bool} {x : UInt8} {s : List UInt8} {i : Nat} (h : firstAt fr x s 0 = some i) : i < s.length ∧ s[i]? = some x := by
  obtain ⟨_, h2, h3⟩ := firstAt_ge h
  exact ⟨by omega, by simpa using h3⟩

theorem leastF_cons {fr : UInt8 → UInt8 → Bool} {n : Nat} {s : List UInt8} (hs : s ≠ []) (hl : letters n s) : ∃ a i, pickFrom fr s n 0 = some (a, i) ∧ a < n ∧ i < s.length ∧ firstAt fr (lt a) s 0 = some i ∧
    leastF fr n s.length s = lt a :: leastF fr n (without s i).length (without s i) := by
  obtain ⟨a, i, h1, h2, h3, h4⟩ := pick_some (fr := fr) hs hl
  refine ⟨a, i, h1, h2, h3, h4, ?_⟩
  have hw := without_length h3
  rw [← hw]
  simp only [leastF, h1]

theorem C18 {t : Value} {k : Nat} {cm : Nat → Nat → Bool} {s : List UInt8} {h : Heap} {K : Value → Heap → Prop} (hth : TH h t k cm) (hk6 : k ≤ 6) (hs : s.length ≤ 1000) (hlet : letters k s)
    (hk : K (S (leastF (frM cm) k s.length s)) h) : CallP Try.prog 18 [t, S s] h K := by
  refine callP_gc (v := S (leastF (frM cm) k s.length s)) (Ren.scal rfl) ?_ hk
  refine f18 ?_
  have let6 : ∀ {u : List UInt8}, letters k u → letters 6 u := fun hu c hc => let ⟨a, h1, h2⟩ := hu c hc; ⟨a, by omega, h2⟩
  refine loopL (σ := List UInt8 × List UInt8 × Value × Heap) (fun p => [S p.1, p.2.2.1]) (fun p => p.2.2.2)
    (fun p => letters k p.1 ∧ p.1.length + p.2.1.length ≤ 1000 ∧ EX h p.2.2.2 ∧ OwnS h.length p.2.2.2 5 p.2.2.1 (p.2.1.map cv) ∧ leastF (frM cm) k s.length s = p.2.1 ++ leastF (frM cm) k p.1.length p.1) (fun p => p.1.length)
    (s, [], .slice none 0 0, h) rfl rfl ⟨hlet, by simpa using hs, EX.refl h, .inl ⟨rfl, rfl⟩, rfl⟩ ?_
  rintro ⟨u, out, v, hx⟩ ⟨hu, hlen, hex, hown, hf⟩ L hL
  simp only at hu hlen hex hown hf hL ⊢
  rw [q18z5, S_nil]
  simp only [bin_neqS, OP_some, IfP_ndec]
  have hthx := hth.mono hex
  refine ⟨fun hne => ?_, fun he => ?_⟩
  · obtain ⟨a, i, h1, h2, h3, h4, h5⟩ := leastF_cons (fr := frM cm) hne hu
    obtain ⟨ti, rfl, hc⟩ := hthx
    have hld : iLoad false 1 hx (pt ti 0) = some (I k) := by simp [iLoad, hc, iPart, tcells]
    simp only [nilck_pt, OP_some, fadr_pt, Nat.zero_add, hld]
    refine loopL (σ := Nat) (fun b => [S u, v, I b]) (fun _ => hx) (fun b => b < k ∧ pickFrom (frM cm) u (k - b) b = some (a, i)) (fun b => k - b) 0 rfl rfl ⟨by omega, h1⟩ ?_
    rintro b ⟨hb, hpk⟩ L2 hL2
    rw [q18z11]
    simp only [bin_lss, OP_some, IfP_dec]
    refine ⟨fun _ => ?_, fun hgt => absurd (by omega) hgt⟩
    simp only [conv_int, OP_some, bin_add]
    rw [wrapU8 (n := (b : Int)) (by omega) (by omega), wrapU8 (by omega) (by omega)]
    have ecv : (.int .u8 (97 + (b : Int)) : Value) = cv (lt b) := by rw [cv_lt (by omega)]; congr 1
    rw [ecv]
    refine C17 ⟨ti, rfl, hc⟩ (by omega) (let6 hu) (by omega) ?_
    rw [show k - b = (k - b - 1) + 1 by omega] at hpk
    simp only [pickFrom] at hpk
    simp only [bin_geq, OP_some, IfP_dec]
    cases hfa : firstAt (frM cm) (lt b) u 0 with
    | some j =>
      rw [hfa] at hpk
      simp only [Option.some.injEq, Prod.mk.injEq] at hpk
      obtain ⟨rfl, rfl⟩ := hpk
      obtain ⟨hj, hjx⟩ := firstAt_lt hfa
      refine ⟨fun _ => ?_, fun hc => absurd (by simp [optI]) hc⟩
      refine app1 hown hex (by simp; omega) (by simp [maxLen]; omega) rfl rfl ?_
      intro v' hx' hex' hown'
      have hw := without_length hj
      refine C19 hj (by omega) ?_
      simp only [true_and]
      exact hL (without u j, out ++ [lt b], v', hx') ⟨letters_without hu j, by simp; omega, hex', by simpa using hown', by rw [hf, h5]; simp⟩ (by simp; omega)
    | none =>
      rw [hfa] at hpk
      simp only at hpk
      refine ⟨fun hc => absurd hc (by simp [optI]), fun _ => ?_⟩
      simp only [OP_some, inc b (by omega), true_and]
      have hb5 : b + 1 < k := by
        apply Classical.byContradiction
        intro h
        rw [show k - b - 1 = 0 by omega] at hpk
        simp [pickFrom] at hpk
      exact hL2 (b + 1) ⟨by omega, by rw [show k - (b + 1) = k - b - 1 by omega]; exact hpk⟩ (by omega)
  · subst he
    rw [q18z21]
    simp [leastF] at hf
    rw [b2s hown]
    simp only [OP_some]
    exact ⟨by rw [hf], hex⟩

end Go.Proofs.Ytipeennffbbglaa

/-
  What is refused: threads, seams; both sides.
-/
namespace Go.Proofs.Ytipeennffbbglaa
open Go.Sim

/-- Strings in memory. -/
structure SS (h : Heap) (v : Value) (ls : List (List UInt8)) : Prop where
  len : iLenSl v = some (I ls.length)
  get : ∀ k (hk : k < ls.length), ∃ i o, iAdrSl 1 v (I k) = some (pt i o) ∧ iLoad false 1 h (pt i o) = some (S ls[k])

theorem SS.mono {h h' : Heap} {v : Value} {ls : List (List UInt8)} (k : EX h h') (p : SS h v ls) : SS h' v ls :=
  ⟨p.len, fun j hj => let ⟨i, o, a, b⟩ := p.get j hj; ⟨i, o, a, EX.load k b⟩⟩

theorem SS.sl {h : Heap} {e : TypeId} {i : Nat} {ls : List (List UInt8)} (hc : objCells h i = some (ls.map S)) : SS h (sl e i 0 ls.length) ls := by
  refine ⟨rfl, fun k hk => ⟨i, k, ?_, ?_⟩⟩
  · have : (0 : Int) ≤ (k : Int) ∧ (k : Int) < (ls.length : Int) := by omega
    simp [Go.Sim.sl, iAdrSl, this]
  · simp [iLoad, hc, iPart, hk]

/-- One pair is of k letters. -/
def pok (k : Int) (p : Int × Int) : Bool := (decide (0 ≤ p.1) && decide (p.1 ≤ k)) && ((decide (0 ≤ p.2) && decide (p.2 ≤ k)) && !decide (p.1 = p.2))
def tlOk (k : Int) (n : Nat) : Bool := (decide (1 ≤ k) && decide (k ≤ 6)) && decide (n ≤ 30)
def threadsOk (k : Int) (ps : List (Int × Int)) : Bool := ps.all (pok (k - 1)) && tlOk k ps.length

theorem threadsOk_wrap (k : Int) (ps : List (Int × Int)) : (ps.all (pok (IntKind.wrap .i64 (k - 1))) && tlOk k ps.length) = threadsOk k ps := by
  unfold threadsOk
  cases ht : tlOk k ps.length with
  | false => simp
  | true =>
    simp only [tlOk, Bool.and_eq_true, decide_eq_true_eq] at ht
    rw [wrap64 (by omega) (by omega)]

/-- A letter that is none of the first k. -/
def badL (k : Int) (c : UInt8) : Bool := decide ((c.toNat : Int) < 97) || decide (k ≤ (c.toNat : Int) - 97)

def seamE (k : Int) (s : List UInt8) (most : Nat) : Int := if most < s.length then 3 else if s.any (badL k) then 2 else 0

/-- What a list of seams is refused for: too long comes first. -/
def seamsE (k : Int) (ls : List (List UInt8)) (most : Nat) : Int := if ls.any (fun s => decide (most < s.length)) then 3 else if ls.any (fun s => s.any (badL k)) then 2 else 0
def whyE (k : Int) (ps : List (Int × Int)) (ls : List (List UInt8)) (most : Nat) : Int := if threadsOk k ps then seamsE k ls most else 1

theorem any_false_mem {α : Type} {p : α → Bool} {l : List α} (h : l.any p = false) {x : α} (hx : x ∈ l) : p x = false := by
  rw [List.any_eq_false] at h
  simpa using h x hx

end Go.Proofs.Ytipeennffbbglaa

/-
  Threads and seams, read.
-/
namespace Go.Proofs.Ytipeennffbbglaa
open Go.Sim

/-- Which letters commute, by the pairs. -/
def cmOf (ps : List (Int × Int)) (a b : Nat) : Bool := ps.any fun p => (decide (p.1 = a) && decide (p.2 = b)) || (decide (p.1 = b) && decide (p.2 = a))

theorem any_congr' {α : Type} {p q : α → Bool} : ∀ {l : List α}, (∀ x ∈ l, p x = q x) → l.any p = l.any q
  | [], _ => rfl
  | x :: l, h => by rw [List.any_cons, List.any_cons, h x (by simp), any_congr' fun y hy => h y (by simp [hy])]

theorem frM_cmOf (ps : List (Int × Int)) {a b : Nat} (ha : a < 100) (hb : b < 100) : frM (cmOf ps) (lt a) (lt b) = freeP ps (lt a) (lt b) := by
  unfold frM cmOf freeP
  refine any_congr' fun p _ => ?_
  unfold hit
  rw [lt_toNat ha, lt_toNat hb]
  have e1 : ∀ (x : Int) (c : Nat), decide (x = ((97 + c - 97 : Nat) : Int)) = decide (97 + x = ((97 + c : Nat) : Int)) := by
    intro x c
    by_cases h : 97 + x = ((97 + c : Nat) : Int)
    · rw [decide_eq_true h, decide_eq_true (by omega)]
    · rw [decide_eq_false h, decide_eq_false (by omega)]
  rw [e1, e1, e1, e1]

theorem tcells_length (k : Int) (cm : Nat → Nat → Bool) : (tcells k cm).length = 37 := by simp [tcells]

theorem tcells_set {k : Int} {cm cm' : Nat → Nat → Bool} {a b : Nat} (ha : a < 6) (hb : b < 6) (h : ∀ x y, x < 6 → y < 6 → cm' x y = if x = a ∧ y = b then true else cm x y) :
    setAt (tcells k cm) (1 + a * 6 + b) [B true] = tcells k cm' := by
  apply List.ext_getElem?
  intro j
  have hl := tcells_length k cm
  unfold setAt
  by_cases h0 : j = 1 + a * 6 + b
  · subst h0
    rw [List.getElem?_append_left (by simp [hl]; omega), List.getElem?_append_right (by simp; omega)]
    have : ((List.take (1 + a * 6 + b) (tcells k cm)).length) = 1 + a * 6 + b := by simp [hl]; omega
    rw [this]
    have e : 1 + a * 6 + b = (a * 6 + b) + 1 := by omega
    have hd : (a * 6 + b) / 6 = a := by omega
    have hm : (a * 6 + b) % 6 = b := by omega
    have hlt : a * 6 + b < 36 := by omega
    rw [e]
    simp [tcells, hlt, hd, hm, h a b ha hb]
  · have e2 : (List.take (1 + a * 6 + b) (tcells k cm) ++ [B true] ++ List.drop (1 + a * 6 + b + [B true].length) (tcells k cm))[j]? = (tcells k cm)[j]? := by
      by_cases hj : j < 1 + a * 6 + b
      · rw [List.getElem?_append_left (by simp [hl]; omega), List.getElem?_append_left (by simp [hl]; omega), List.getElem?_take, if_pos hj]
      · rw [List.getElem?_append_right (by simp [hl]; omega), List.getElem?_drop]
        congr 1
        simp [hl]
        omega
    rw [e2]
    cases j with
    | zero => simp [tcells]
    | succ j =>
      by_cases hj : j < 36
      · simp only [tcells, List.getElem?_cons_succ, List.getElem?_map, List.getElem?_range hj, Option.map_some]
        rw [h (j / 6) (j % 6) (by omega) (by omega)]
        rw [if_neg (by omega)]
      · simp [tcells, hj]

def readOk (k : Int) (ps : List (Int × Int)) : Bool := (decide (1 ≤ k) && decide (k ≤ 6) && decide (ps.length ≤ 30)) && ps.all fun p => decide (0 ≤ min p.1 p.2) && decide (max p.1 p.2 < k) && !decide (p.1 = p.2)

theorem readOk_eq (k : Int) (ps : List (Int × Int)) : readOk k ps = threadsOk k ps := by
  unfold readOk threadsOk tlOk
  rw [Bool.and_comm]
  congr 1
  induction ps with
  | nil => rfl
  | cons p ps ih =>
    rw [List.all_cons, List.all_cons, ih]
    congr 1
    unfold pok
    rw [Bool.eq_iff_iff]
    simp
    omega

theorem threadsOk_good {k : Int} {ps : List (Int × Int)} (h : threadsOk k ps = true) : good ps ∧ 1 ≤ k ∧ k ≤ 6 ∧ ps.length ≤ 30 ∧ ∀ p ∈ ps, 0 ≤ p.1 ∧ p.1 < k ∧ 0 ≤ p.2 ∧ p.2 < k ∧ p.1 ≠ p.2 := by
  simp only [threadsOk, tlOk, Bool.and_eq_true, decide_eq_true_eq, List.all_eq_true] at h
  obtain ⟨h1, ⟨h2, h3⟩, h4⟩ := h
  have key : ∀ p ∈ ps, 0 ≤ p.1 ∧ p.1 < k ∧ 0 ≤ p.2 ∧ p.2 < k ∧ p.1 ≠ p.2 := by
    intro p hp
    have := h1 p hp
    simp only [pok, Bool.and_eq_true, decide_eq_true_eq, Bool.not_eq_true', decide_eq_false_iff_not] at this
    omega
  refine ⟨fun p hp => ?_, h2, h3, h4, key⟩
  have := key p hp
  omega

theorem min2 (a b : Int) : iMinmax false [I a, I b] = some (I (min a b)) := by
  simp only [iMinmax, List.foldlM, max2, Bool.false_eq_true, if_false]
  have : (if b < a then b else a) = min a b := by split <;> omega
  rw [this]
  rfl

theorem max2' (a b : Int) : iMinmax true [I a, I b] = some (I (max a b)) := by
  simp only [iMinmax, List.foldlM, max2, if_true]
  have : (if b > a then b else a) = max a b := by split <;> omega
  rw [this]
  rfl

theorem load_last {h : Heap} {e : TypeId} {xs : List Value} {j : Nat} {v : Value} (hj : xs[j]? = some v) : iLoad false 1 (h ++ [.arr e xs]) (pt h.length j) = some v := by
  simp [iLoad, objCells, iPart, hj]

theorem cmOf_step (ps : List (Int × Int)) (p : Int × Int) {a b : Nat} (ha : p.1 = a) (hb : p.2 = b) (x y : Nat) :
    cmOf (ps ++ [p]) x y = if x = b ∧ y = a then true else if x = a ∧ y = b then true else cmOf ps x y := by
  unfold cmOf
  rw [List.any_append]
  simp only [List.any_cons, List.any_nil, Bool.or_false, ha, hb]
  have e : ∀ c d : Nat, decide ((c : Int) = (d : Int)) = decide (c = d) := by
    intro c d
    by_cases h : c = d
    · subst h; simp
    · rw [decide_eq_false h, decide_eq_false (by omega)]
  rw [e, e, e, e]
  by_cases h1 : x = b ∧ y = a
  · obtain ⟨rfl, rfl⟩ := h1; simp
  · rw [if_neg h1]
    by_cases h2 : x = a ∧ y = b
    · obtain ⟨rfl, rfl⟩ := h2; simp
    · rw [if_neg h2]
      have : (decide (a = x) && decide (b = y) || decide (a = y) && decide (b = x)) = false := by
        simp; omega
      rw [this, Bool.or_false]

theorem C30 {ps : List (Int × Int)} {pv : Value} {k : Int} {h : Heap} {K : Value → Heap → Prop} (hp : PS h pv ps) (hl : ps.length ≤ 100)
    (hno : threadsOk k ps = false → K (.tuple #[.pointer none, B false]) h) (hyes : threadsOk k ps = true → K (.tuple #[pt h.length 0, B true]) (h ++ [IObj.arr 58 (tcells k (cmOf ps))])) :
    CallP Try.prog 30 [I k, pv] h K := by
  have key : ∀ {K' : Value → Heap → Prop}, (threadsOk k ps = false → ∀ hx, EX h hx → K' (.tuple #[.pointer none, B false]) hx) →
      (threadsOk k ps = true → ∀ hx, EX h hx → hx[h.length]? = some (IObj.arr 58 (tcells k (cmOf ps))) → K' (.tuple #[pt h.length 0, B true]) hx) → CallP Try.prog 30 [I k, pv] h K' := by
    intro K' hno hyes
    refine f30 ?_
    simp only [T30, bin_lss, OP_some, q30z5, q30z7, q30z9]
    rw [← readOk_eq] at hno hyes
    unfold readOk at hno hyes
    have e30 : decide ((30 : Int) < (ps.length : Int)) = !decide (ps.length ≤ 30) := by
      by_cases h30 : ps.length ≤ 30
      · simp [h30]; omega
      · simp [h30]; omega
    by_cases c1 : k < 1
    · have := hno (by simp; omega)
      simp [c1, q30z11]
      exact this h (EX.refl h)
    · by_cases c2 : 6 < k
      · have := hno (by simp; omega)
        simp [c1, c2, q30z11]
        exact this h (EX.refl h)
      · by_cases c3 : ps.length ≤ 30
        · have g1 : decide (1 ≤ k) = true := by simp; omega
          have g2 : decide (k ≤ 6) = true := by simp; omega
          have g3 : decide (ps.length ≤ 30) = true := by simp [c3]
          rw [g1, g2, g3] at hno hyes
          simp only [Bool.true_and] at hno hyes
          have e1 : decide (k < 1) = false := by simp [c1]
          have e2 : decide (6 < k) = false := by simp [c2]
          simp only [e1, GdP_ff, bin_gtr, OP_some, e2, iPick_f, hp.len, e30, g3, Bool.not_true, q30z11, IfP_false]
          have eb : iBuild [(.int .i64 (0)), (.bool false), (.bool false), (.bool false), (.bool false), (.bool false), (.bool false), (.bool false), (.bool false), (.bool false), (.bool false), (.bool false), (.bool false), (.bool false), (.bool false), (.bool false), (.bool false), (.bool false), (.bool false), (.bool false), (.bool false), (.bool false), (.bool false), (.bool false), (.bool false), (.bool false), (.bool false), (.bool false), (.bool false), (.bool false), (.bool false), (.bool false), (.bool false), (.bool false), (.bool false), (.bool false), (.bool false)] [(0, 1, I k)]
              = some (.agg (tcells k (cmOf [])).toArray) := rfl
          simp only [I] at eb
          simp only [I, eb, OP_some]
          have ex : iBox 58 h (.agg (tcells k (cmOf [])).toArray) = some (pt h.length 0, h ++ [IObj.arr 58 (tcells k (cmOf []))]) := rfl
          simp only [ex, OH_some]
          refine loopL (σ := Nat × Heap) (fun p => [I p.1]) (fun p => p.2)
            (fun p => p.1 ≤ ps.length ∧ EX h p.2 ∧ p.2[h.length]? = some (IObj.arr 58 (tcells k (cmOf (ps.take p.1)))) ∧ (ps.take p.1).all (fun p => decide (0 ≤ min p.1 p.2) && decide (max p.1 p.2 < k) && !decide (p.1 = p.2)) = true) (fun p => ps.length - p.1)
            (0, h ++ [IObj.arr 58 (tcells k (cmOf []))]) rfl rfl ⟨by simp, EX.append _ _, by simp, rfl⟩ ?_
          rintro ⟨i, hx⟩ ⟨hi, hex, hget, hall⟩ L hL
          simp only at hi hex hget hall hL ⊢
          rw [q30z17]
          have hpx := hp.mono hex
          simp only [bin_lss, OP_some, IfP_dec]
          refine ⟨fun hlt => ?_, fun hge => ?_⟩
          · have hlt' : i < ps.length := by omega
            obtain ⟨b, o, s1, s2, s3, s4⟩ := hpx.get i hlt'
            have htk : ps.take (i + 1) = ps.take i ++ [ps[i]] := by rw [List.take_succ_eq_append_getElem hlt']
            simp only [s1, OP_some, s4]
            have ea : iAlloc 26 [I 0, I 0] hx = some (pt hx.length 0, hx ++ [IObj.arr 26 [I 0, I 0]]) := rfl
            simp only [I] at ea
            simp only [ea, OH_some]
            have es : oStore 2 (hx ++ [IObj.arr 26 [.int .i64 0, .int .i64 0]]) (pt hx.length 0) (.agg #[I ps[i].1, I ps[i].2]) = some (undef, hx ++ [IObj.arr 26 [I ps[i].1, I ps[i].2]]) := by
              simp [oStore, iStore, noTuple, vcells, Value.cells, setAt]
            simp only [I] at es
            simp only [I, es, OH_some]
            have l1 : iLoad false 1 (hx ++ [IObj.arr 26 [I ps[i].1, I ps[i].2]]) (pt hx.length 0) = some (I ps[i].1) := load_last rfl
            have l2 : iLoad false 1 (hx ++ [IObj.arr 26 [I ps[i].1, I ps[i].2]]) (pt hx.length 1) = some (I ps[i].2) := load_last rfl
            simp only [I] at l1 l2
            simp only [fadr_pt, OP_some, Nat.add_zero, Nat.zero_add, l1, l2]
            have m1 := min2 ps[i].1 ps[i].2
            have m2 := max2' ps[i].1 ps[i].2
            simp only [I] at m1 m2
            simp only [m1, OP_some, bin_lss, q30z26, fadr_pt, Nat.add_zero, Nat.zero_add, l1, l2, m2, bin_geq, q30z28, q30z30, bin_eql]
            have bad : (decide (0 ≤ min ps[i].1 ps[i].2) && decide (max ps[i].1 ps[i].2 < k) && !decide (ps[i].1 = ps[i].2)) = false → K' (.tuple #[.pointer none, .bool false]) (hx ++ [IObj.arr 26 [I ps[i].1, I ps[i].2]]) := by
              intro hb
              refine hno ?_ _ (hex.push _)
              rw [List.all_eq_false]
              exact ⟨ps[i], List.getElem_mem hlt', by rw [hb]; simp⟩
            simp only [I] at bad
            by_cases d1 : min ps[i].1 ps[i].2 < 0
            · have := bad (by rw [decide_eq_false (by omega)]; rfl)
              simp [d1, q30z28, q30z30, q30z32]
              exact this
            · by_cases d2 : k ≤ max ps[i].1 ps[i].2
              · have := bad (by rw [decide_eq_false (p := max ps[i].1 ps[i].2 < k) (by omega)]; simp)
                simp [d1, d2, q30z28, q30z30, q30z32]
                exact this
              · by_cases d3 : ps[i].1 = ps[i].2
                · have := bad (by rw [decide_eq_true d3]; simp)
                  simp only [decide_eq_false d1, GdP_ff, fadr_pt, OP_some, Nat.add_zero, Nat.zero_add, l1, l2, m2, bin_geq, decide_eq_false d2, iPick_f, bin_eql, decide_eq_true d3, q30z32, IfP_true]
                  exact this
                · simp only [decide_eq_false d1, GdP_ff, fadr_pt, OP_some, Nat.add_zero, Nat.zero_add, l1, l2, m2, bin_geq, decide_eq_false d2, iPick_f, bin_eql, decide_eq_false d3, q30z32, IfP_false, true_and, nilck_pt]
                  obtain ⟨a, haa⟩ : ∃ a : Nat, ps[i].1 = a := ⟨ps[i].1.toNat, by omega⟩
                  obtain ⟨c, hcc⟩ : ∃ c : Nat, ps[i].2 = c := ⟨ps[i].2.toNat, by omega⟩
                  have ha6 : a < 6 := by omega
                  have hc6 : c < 6 := by omega
                  have adr1 : ∀ x : Nat, x < 6 → iAdrArr 6 6 (pt h.length 1) (I x) = some (pt h.length (1 + x * 6)) := by intro x hx6; simp [iAdrArr]; omega
                  have adr2 : ∀ q x : Nat, x < 6 → iAdrArr 6 1 (pt h.length q) (I x) = some (pt h.length (q + x)) := by intro q x hx6; simp [iAdrArr]; omega
                  have b1 := adr1 a ha6
                  have b2 := adr2 (1 + a * 6) c hc6
                  have b3 := adr1 c hc6
                  have b4 := adr2 (1 + c * 6) a ha6
                  rw [← haa] at b1 b4
                  rw [← hcc] at b2 b3
                  simp only [I] at b1 b2 b3 b4
                  have hlx : h.length < hx.length := (List.getElem?_eq_some_iff.1 hget).1
                  have st1 : oStore 1 (hx ++ [IObj.arr 26 [I ps[i].1, I ps[i].2]]) (pt h.length (1 + a * 6 + c)) (.bool true) =
                      some (undef, (hx ++ [IObj.arr 26 [I ps[i].1, I ps[i].2]]).set h.length (IObj.arr 58 (setAt (tcells k (cmOf (ps.take i))) (1 + a * 6 + c) [B true]))) := by
                    have hg : (hx ++ [IObj.arr 26 [I ps[i].1, I ps[i].2]])[h.length]? = some (IObj.arr 58 (tcells k (cmOf (ps.take i)))) := by rw [List.getElem?_append_left hlx]; exact hget
                    have hln := tcells_length k (cmOf (ps.take i))
                    have : 1 + a * 6 + c + 1 ≤ (tcells k (cmOf (ps.take i))).length := by omega
                    simp [oStore, iStore, hg, noTuple, vcells, Value.cells, this]
                  let cm1 : Nat → Nat → Bool := fun x y => if x = a ∧ y = c then true else cmOf (ps.take i) x y
                  have hs1 := tcells_set (k := k) (cm := cmOf (ps.take i)) (cm' := cm1) ha6 hc6 (fun x y _ _ => rfl)
                  rw [hs1] at st1
                  simp only [I] at st1
                  simp only [b1, OP_some, b2, st1, OH_some]
                  have ld : ∀ (j : Nat) (v : Value), [I ps[i].1, I ps[i].2][j]? = some v → iLoad false 1 ((hx ++ [IObj.arr 26 [I ps[i].1, I ps[i].2]]).set h.length (IObj.arr 58 (tcells k cm1))) (pt hx.length j) = some v := by
                    intro j v hv
                    have : ((hx ++ [IObj.arr 26 [I ps[i].1, I ps[i].2]]).set h.length (IObj.arr 58 (tcells k cm1)))[hx.length]? = some (IObj.arr 26 [I ps[i].1, I ps[i].2]) := by
                      rw [List.getElem?_set_ne (by omega)]
                      simp
                    have h2 : objCells ((hx ++ [IObj.arr 26 [I ps[i].1, I ps[i].2]]).set h.length (IObj.arr 58 (tcells k cm1))) hx.length = some [I ps[i].1, I ps[i].2] := by
                      unfold objCells
                      rw [this]
                    simp only [iLoad, h2, Option.bind_some, iPart]
                    simpa using hv
                  have ld1 := ld 1 _ rfl
                  have ld0 := ld 0 _ rfl
                  simp only [I] at ld1 ld0
                  refine ⟨⟨ld1, ld0, trivial⟩, ?_⟩
                  have st2 : oStore 1 ((hx ++ [IObj.arr 26 [I ps[i].1, I ps[i].2]]).set h.length (IObj.arr 58 (tcells k cm1))) (pt h.length (1 + c * 6 + a)) (.bool true) =
                      some (undef, ((hx ++ [IObj.arr 26 [I ps[i].1, I ps[i].2]]).set h.length (IObj.arr 58 (tcells k cm1))).set h.length (IObj.arr 58 (setAt (tcells k cm1) (1 + c * 6 + a) [B true]))) := by
                    have hg : ((hx ++ [IObj.arr 26 [I ps[i].1, I ps[i].2]]).set h.length (IObj.arr 58 (tcells k cm1)))[h.length]? = some (IObj.arr 58 (tcells k cm1)) := by
                      rw [List.getElem?_set_self (by simp; omega)]
                    have hln := tcells_length k cm1
                    have : 1 + c * 6 + a + 1 ≤ (tcells k cm1).length := by omega
                    simp [oStore, iStore, hg, noTuple, vcells, Value.cells, this]
                  have hs2 := tcells_set (k := k) (cm := cm1) (cm' := cmOf (ps.take (i + 1))) hc6 ha6 (fun x y _ _ => by rw [htk, cmOf_step _ _ haa hcc])
                  rw [hs2] at st2
                  simp only [I] at st2
                  simp only [b3, OP_some, b4, st2, OH_some, bin_add, inc i (by omega)]
                  refine hL (i + 1, _) ⟨by omega, ((hex.push _).set (Nat.le_refl _) _).set (Nat.le_refl _) _, ?_, ?_⟩ (by simp; omega)
                  · rw [List.getElem?_set_self (by simp; omega)]
                  · simp only [htk, List.all_append, hall, Bool.true_and, List.all_cons, List.all_nil, Bool.and_true]
                    rw [decide_eq_true (by omega), decide_eq_true (by omega), decide_eq_false d3]
                    rfl
          · have : i = ps.length := by omega
            subst this
            rw [List.take_length] at hget hall
            rw [q30z34]
            exact hyes hall hx hex hget
        · have := hno (by simp; omega)
          have e1 : decide (k < 1) = false := by simp [c1]
          have e2 : decide (6 < k) = false := by simp [c2]
          have g3 : decide (ps.length ≤ 30) = false := by simp; omega
          simp only [e1, GdP_ff, bin_gtr, OP_some, e2, iPick_f, hp.len, e30, g3, Bool.not_false, q30z11, IfP_true]
          exact this h (EX.refl h)
  cases ht : threadsOk k ps with
  | false =>
    refine callP_gc (v := .tuple #[.pointer none, B false]) (Ren.tuple (l := [fun _ => .pointer none, fun _ => B false]) (.cons (Ren.scal rfl) (.cons (Ren.scal rfl) .nil))) ?_ (hno ht)
    exact key (fun _ hx hex => ⟨rfl, hex⟩) (fun h1 => by rw [ht] at h1; cases h1)
  | true =>
    refine callP_new (V := fun i => .tuple #[pt i 0, B true]) (o := IObj.arr 58 (tcells k (cmOf ps))) (Ren.tuple (l := [fun i => pt i 0, fun _ => B true]) (.cons (Ren.pt 0) (.cons (Ren.scal rfl) .nil))) ?_ ?_ (hyes ht)
    · simp [plainObj, tcells, scal]
    · exact key (fun h1 => by rw [ht] at h1; cases h1) (fun _ hx hex hg => ⟨hex, h.length, Nat.le_refl _, hg, rfl⟩)

end Go.Proofs.Ytipeennffbbglaa

/-
  Equal, and the law that it answers as the document says.
-/
namespace Go.Proofs.Ytipeennffbbglaa
open Go.Sim

theorem threadsOk_k {k : Int} {ps : List (Int × Int)} (h : threadsOk k ps = true) : ∃ n : Nat, k = n ∧ 1 ≤ n ∧ n ≤ 6 := by
  obtain ⟨_, h1, h2, _⟩ := threadsOk_good h
  exact ⟨k.toNat, by omega, by omega, by omega⟩

theorem letters_of {n : Nat} {s : List UInt8} (h : s.any (badL n) = false) : letters n s := by
  intro c hc
  have := any_false_mem h hc
  simp only [badL, Bool.or_eq_false_iff, decide_eq_false_iff_not] at this
  refine ⟨c.toNat - 97, by omega, ?_⟩
  apply UInt8.toNat_inj.1
  rw [lt, UInt8.toNat_ofNat']
  have := UInt8.toNat_lt c
  omega

theorem seamsE_ok {k : Int} {ls : List (List UInt8)} {most : Nat} (h : seamsE k ls most = 0) : ∀ s ∈ ls, s.length ≤ most ∧ s.any (badL k) = false := by
  unfold seamsE at h
  cases h1 : ls.any (fun s => decide (most < s.length)) with
  | true => rw [h1] at h; simp at h
  | false =>
    cases h2 : ls.any (fun s => s.any (badL k)) with
    | true => rw [h1, h2] at h; simp at h
    | false =>
      intro s hs
      have a := any_false_mem h1 hs
      have b := any_false_mem h2 hs
      simp only [decide_eq_false_iff_not] at a
      exact ⟨by omega, b⟩

theorem C15 {ps : List (Int × Int)} {pv lv : Value} {ls : List (List UInt8)} {k : Int} {most : Nat} {h : Heap} {K : Value → Heap → Prop} (hp : PS h pv ps) (hl : ps.length ≤ 100) (hss : SS h lv ls) (hls : ls.length ≤ 1000)
    (hs : ∀ s ∈ ls, s.length ≤ 1000) (hno : whyE k ps ls most ≠ 0 → K (.tuple #[.pointer none, I (whyE k ps ls most)]) h)
    (hyes : whyE k ps ls most = 0 → K (.tuple #[pt h.length 0, I 0]) (h ++ [.arr 58 (tcells k (cmOf ps))])) : CallP Try.prog 15 [I k, pv, I most, lv] h K := by
  have key : ∀ {K' : Value → Heap → Prop}, (whyE k ps ls most ≠ 0 → ∀ hx, EX h hx → K' (.tuple #[.pointer none, I (whyE k ps ls most)]) hx) →
      (whyE k ps ls most = 0 → K' (.tuple #[pt h.length 0, I 0]) (h ++ [.arr 58 (tcells k (cmOf ps))])) → CallP Try.prog 15 [I k, pv, I most, lv] h K' := by
    intro K' hno hyes
    unfold whyE at hno hyes
    refine f15 (C30 hp hl (fun ht => ?_) (fun ht => ?_))
    · rw [ht] at hno
      have := hno (by simp) h (EX.refl h)
      simpa using this
    · rw [ht] at hno hyes
      simp only [if_true] at hno hyes
      obtain ⟨n, rfl, hn1, hn6⟩ := threadsOk_k ht
      have hex : EX h (h ++ [.arr 58 (tcells n (cmOf ps))]) := EX.append _ _
      have hss' := hss.mono hex
      generalize h ++ [.arr 58 (tcells n (cmOf ps))] = hx at hex hss' hyes ⊢
      have e0 : (#[pt h.length 0, B true] : Array Value)[0]? = some (pt h.length 0) := rfl
      have e1 : (#[pt h.length 0, B true] : Array Value)[1]? = some (B true) := rfl
      simp only [ext_tuple, e0, e1, OP_some, un_not, Bool.not_true, IfP_false, hss'.len]
      refine loopL (σ := Nat) (fun i => [I i]) (fun _ => hx) (fun i => i ≤ ls.length ∧ (ls.take i).any (fun s => decide (most < s.length)) = false) (fun i => ls.length - i) 0 rfl rfl ⟨by omega, rfl⟩ ?_
      rintro i ⟨hi, hf⟩ L hL
      rw [q15z9]
      simp only [bin_lss, OP_some, IfP_dec]
      refine ⟨fun hlt => ?_, fun hge => ?_⟩
      · have hilt : i < ls.length := by omega
        obtain ⟨b, o, s1, s2⟩ := hss'.get i hilt
        have htk : ls.take (i + 1) = ls.take i ++ [ls[i]] := by rw [List.take_succ_eq_append_getElem hilt]
        simp only [s1, OP_some, s2, lenS_S, bin_gtr, IfP_dec, bin_add, inc i (by omega), true_and]
        refine ⟨fun hgt => ?_, fun hle => ?_⟩
        · have hany : ls.any (fun s => decide (most < s.length)) = true := List.any_eq_true.2 ⟨ls[i], List.getElem_mem hilt, by simp; omega⟩
          have he : seamsE n ls most = 3 := by unfold seamsE; rw [hany]; simp
          rw [he] at hno
          exact hno (by omega) hx hex
        · refine hL (i + 1) ⟨by omega, ?_⟩ (by omega)
          rw [htk, List.any_append, hf]
          simp
          omega
      · have : i = ls.length := by omega
        subst this
        rw [List.take_length] at hf
        rw [q15z17]
        simp only [hss'.len, OP_some]
        refine loopL (σ := Nat) (fun i => [I i]) (fun _ => hx) (fun i => i ≤ ls.length ∧ (ls.take i).any (fun s => s.any (badL n)) = false) (fun i => ls.length - i) 0 rfl rfl ⟨by omega, rfl⟩ ?_
        rintro i ⟨hi, hg⟩ L1 hL1
        rw [q15z21]
        simp only [bin_lss, OP_some, IfP_dec]
        refine ⟨fun hlt => ?_, fun hge => ?_⟩
        · have hilt : i < ls.length := by omega
          obtain ⟨b, o, s1, s2⟩ := hss'.get i hilt
          have htk : ls.take (i + 1) = ls.take i ++ [ls[i]] := by rw [List.take_succ_eq_append_getElem hilt]
          have hmem : ls[i] ∈ ls := List.getElem_mem hilt
          have hlen := hs ls[i] hmem
          simp only [s1, OP_some, s2, lenS_S]
          refine loopL (σ := Nat) (fun j => [I j]) (fun _ => hx) (fun j => j ≤ ls[i].length ∧ (ls[i].take j).any (badL n) = false) (fun j => ls[i].length - j) 0 rfl rfl ⟨by omega, rfl⟩ ?_
          rintro j ⟨hj, hh⟩ L2 hL2
          rw [q15z29]
          simp only [bin_lss, OP_some, IfP_dec]
          refine ⟨fun hlt2 => ?_, fun hge2 => ?_⟩
          · have hjlt : j < ls[i].length := by omega
            have htk2 : ls[i].take (j + 1) = ls[i].take j ++ [ls[i][j]] := by rw [List.take_succ_eq_append_getElem hjlt]
            rw [idxS_S _ hjlt]
            simp only [OP_some, bin_lss, q15z37]
            have bad : badL n ls[i][j] = true → K' (.tuple #[.pointer none, .int .i64 2]) hx := by
              intro hb
              have hany : ls.any (fun s => s.any (badL n)) = true := List.any_eq_true.2 ⟨ls[i], hmem, List.any_eq_true.2 ⟨ls[i][j], List.getElem_mem hjlt, hb⟩⟩
              have he : seamsE n ls most = 2 := by unfold seamsE; rw [hf, hany]; simp
              rw [he] at hno
              exact hno (by omega) hx hex
            have fine : badL n ls[i][j] = false → L2 [I ((j + 1 : Nat) : Int)] hx := by
              intro hb
              refine hL2 (j + 1) ⟨by omega, ?_⟩ (by omega)
              rw [htk2, List.any_append, hh]
              simp [hb]
            simp only [badL] at bad fine
            have hb := UInt8.toNat_lt ls[i][j]
            by_cases hlo : (ls[i][j].toNat : Int) < 97
            · simp only [decide_eq_true hlo, GdP_tf, q15z39, iPick_t, OP_some, IfP_true]
              exact bad (by simp [hlo])
            · simp only [decide_eq_false hlo, GdP_ff, idxS_S _ hjlt, OP_some, conv_int, bin_add, bin_geq]
              rw [wrapU8 (n := (n : Int)) (by omega) (by omega), wrapU8 (by omega) (by omega)]
              simp only [q15z39, iPick_f, OP_some, IfP_dec, bin_add, inc j (by omega), true_and]
              refine ⟨fun hge => bad ?_, fun hge => fine ?_⟩
              · rw [decide_eq_true (p := (n : Int) ≤ (ls[i][j].toNat : Int) - 97) (by omega)]; simp
              · rw [decide_eq_false hlo, decide_eq_false (by omega)]; rfl
          · have : j = ls[i].length := by omega
            subst this
            rw [List.take_length] at hh
            rw [q15z41]
            simp only [bin_add, OP_some, inc i (by omega), true_and]
            refine hL1 (i + 1) ⟨by omega, ?_⟩ (by omega)
            rw [htk, List.any_append, hg]
            simp [hh]
        · have : i = ls.length := by omega
          subst this
          rw [List.take_length] at hg
          rw [q15z42]
          exact hyes (by unfold seamsE; rw [hf, hg]; simp)
  by_cases hw : whyE k ps ls most = 0
  · exact key (fun h1 => absurd hw h1) hyes
  · refine callP_gc (v := .tuple #[.pointer none, I (whyE k ps ls most)]) (Ren.tuple (l := [fun _ => .pointer none, fun _ => I (whyE k ps ls most)]) (.cons (Ren.scal rfl) (.cons (Ren.scal rfl) .nil))) ?_ (hno hw)
    exact key (fun _ hx hex => ⟨rfl, hex⟩) (fun h1 => absurd h1 hw)

/-- The least seam equal to one. -/
def Lst (ps : List (Int × Int)) (s : List UInt8) : List UInt8 := leastF (freeP ps) 6 s.length s

theorem Lst_eq {ps : List (Int × Int)} {n : Nat} (hn : n ≤ 6) {s : List UInt8} (hs : letters n s) : leastF (frM (cmOf ps)) n s.length s = Lst ps s :=
  leastF_eq hn hs fun a b ha hb => frM_cmOf ps (by omega) (by omega)

theorem whyE_ok {k : Int} {ps : List (Int × Int)} {ls : List (List UInt8)} {most : Nat} (h : whyE k ps ls most = 0) : threadsOk k ps = true ∧ seamsE k ls most = 0 := by
  unfold whyE at h
  cases ht : threadsOk k ps with
  | false => rw [ht] at h; simp at h
  | true => rw [ht] at h; exact ⟨rfl, by simpa using h⟩

theorem mkS2 (s u : List UInt8) (h : Heap) : iMkSl 9 2 [.string ⟨#[]⟩] h [(0, 1, S s), (1, 1, S u)] = some (sl 9 h.length 0 2, h ++ [.arr 9 [S s, S u]]) := by
  simp [iMkSl, fillL, zrep, noTuple, vcells, Value.cells, setAt, S]

def equalV (k : Int) (ps : List (Int × Int)) (s u : List UInt8) : Value :=
  .tuple #[B (decide (whyE k ps [s, u] 40 = 0) && decide (Lst ps s = Lst ps u)), I (whyE k ps [s, u] 40)]

theorem C11 {ps : List (Int × Int)} {pv : Value} {s u : List UInt8} {k : Int} {h : Heap} {K : Value → Heap → Prop} (hp : PS h pv ps) (hl : ps.length ≤ 100) (hs : s.length ≤ 1000) (hu : u.length ≤ 1000)
    (hk : K (equalV k ps s u) h) : CallP Try.prog 11 [I k, pv, S s, S u] h K := by
  refine callP_gc (v := equalV k ps s u) (Ren.tuple (l := [fun _ => B _, fun _ => I _]) (.cons (Ren.scal rfl) (.cons (Ren.scal rfl) .nil))) ?_ hk
  refine f11 ?_
  simp only [T11, mkS2, OH_some]
  have hx : EX h (h ++ [.arr 9 [S s, S u]]) := EX.append _ _
  have hss : SS (h ++ [.arr 9 [S s, S u]]) (sl 9 h.length 0 2) [s, u] := SS.sl (ls := [s, u]) (by simp [objCells])
  refine C15 (most := 40) (hp.mono hx) hl hss (by simp) (by simp; exact ⟨hs, hu⟩) (fun hw => ?_) (fun hw => ?_)
  · have e0 : (#[.pointer none, I (whyE k ps [s, u] 40)] : Array Value)[0]? = some (.pointer none) := rfl
    have e1 : (#[.pointer none, I (whyE k ps [s, u] 40)] : Array Value)[1]? = some (I (whyE k ps [s, u] 40)) := rfl
    simp only [ext_tuple, e0, e1, OP_some, bin_neq, decide_eq_false hw, Bool.not_false, IfP_true]
    exact ⟨by unfold equalV; rw [decide_eq_false hw]; rfl, hx⟩
  · obtain ⟨ht, hse⟩ := whyE_ok hw
    obtain ⟨n, rfl, hn1, hn6⟩ := threadsOk_k ht
    have hok := seamsE_ok hse
    have ls := letters_of (hok s (by simp)).2
    have lu := letters_of (hok u (by simp)).2
    generalize hh1 : h ++ [.arr 9 [S s, S u]] = h1 at *
    have e0 : (#[pt h1.length 0, I 0] : Array Value)[0]? = some (pt h1.length 0) := rfl
    have e1 : (#[pt h1.length 0, I 0] : Array Value)[1]? = some (I 0) := rfl
    simp only [ext_tuple, e0, e1, OP_some, bin_neq, decide_true, Bool.not_true, IfP_false]
    have hth : TH (h1 ++ [.arr 58 (tcells n (cmOf ps))]) (pt h1.length 0) n (cmOf ps) := ⟨h1.length, rfl, by simp [objCells]⟩
    refine C18 (k := n) hth hn6 hs ls ?_
    refine C18 (k := n) hth hn6 hu lu ?_
    rw [Lst_eq hn6 ls, Lst_eq hn6 lu]
    simp only [bin_eqlS, OP_some]
    refine ⟨?_, hx.push _⟩
    unfold equalV
    rw [hw]
    simp

/-- Pairs as they come in: a slice, or nil. -/
def PSl (h : Heap) (v : Value) (ps : List (Int × Int)) : Prop := (v = .slice none 0 0 ∧ ps = []) ∨ ∃ i, v = sl 26 i 0 ps.length ∧ (ps = [] ∨ objCells h i = some (pcells ps))

theorem PSl.mono {h h' : Heap} {v : Value} {ps : List (Int × Int)} (k : EX h h') (p : PSl h v ps) : PSl h' v ps :=
  p.imp id fun ⟨i, a, b⟩ => ⟨i, a, b.imp id fun b => k.cells b⟩

theorem pcells_take (ps : List (Int × Int)) (n : Nat) : (pcells ps).take (2 * n) = pcells (ps.take n) := by
  induction ps generalizing n with
  | nil => simp [pcells]
  | cons p ps ih =>
    cases n with
    | zero => simp [pcells]
    | succ n =>
      rw [show 2 * (n + 1) = 2 * n + 1 + 1 by omega]
      have := ih n
      simp only [pcells] at this ⊢
      simp [this]

end Go.Proofs.Ytipeennffbbglaa
