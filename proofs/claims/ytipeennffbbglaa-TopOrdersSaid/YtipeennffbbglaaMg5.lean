/-
  How many seams are equal to one: both sides; the law.
-/
import Derived.Test.YtipeennffbbglaaMg3
namespace Go.Proofs.Ytipeennffbbglaa
open Go.Sim

/-- How many seams are equal to one: each letter that can come first begins some. -/
def waysN (fr : UInt8 → UInt8 → Bool) : Nat → List UInt8 → Nat
  | 0, _ => 1
  | f + 1, s => ((List.range 6).map fun a => match firstAt fr (lt a) s 0 with | some i => waysN fr f (leastF fr 6 f (without s i)) | none => 0).sum

def waysT (fr : UInt8 → UInt8 → Bool) (f : Nat) (s : List UInt8) (a : Nat) : Nat := match firstAt fr (lt a) s 0 with | some i => waysN fr f (leastF fr 6 f (without s i)) | none => 0
def waysS (fr : UInt8 → UInt8 → Bool) (f : Nat) (s : List UInt8) (b : Nat) : Nat := ((List.range b).map (waysT fr f s)).sum

theorem waysN_succ (fr : UInt8 → UInt8 → Bool) (f : Nat) (s : List UInt8) : waysN fr (f + 1) s = waysS fr f s 6 := rfl
theorem waysS_succ (fr : UInt8 → UInt8 → Bool) (f : Nat) (s : List UInt8) (b : Nat) : waysS fr f s (b + 1) = waysS fr f s b + waysT fr f s b := by
  unfold waysS
  rw [List.range_succ, List.map_append, List.sum_append]
  simp

theorem sum_le {m : Nat} : ∀ {l : List Nat}, (∀ x ∈ l, x ≤ m) → l.sum ≤ l.length * m
  | [], _ => by simp
  | x :: l, h => by
    have := sum_le (l := l) fun y hy => h y (by simp [hy])
    have := h x (by simp)
    simp only [List.sum_cons, List.length_cons, Nat.add_mul]
    omega

theorem waysN_le (fr : UInt8 → UInt8 → Bool) : ∀ (f : Nat) (s : List UInt8), waysN fr f s ≤ 6 ^ f
  | 0, s => by simp [waysN]
  | f + 1, s => by
    have : waysN fr (f + 1) s ≤ ((List.range 6).map (waysT fr f s)).length * 6 ^ f := by
      rw [waysN_succ]
      refine sum_le ?_
      intro x hx
      obtain ⟨a, _, rfl⟩ := List.mem_map.1 hx
      unfold waysT
      split
      · exact waysN_le fr f _
      · exact Nat.zero_le _
    have h6 : 6 ^ (f + 1) = 6 * 6 ^ f := by rw [Nat.pow_succ, Nat.mul_comm]
    rw [h6]
    simpa using this

theorem waysS_le (fr : UInt8 → UInt8 → Bool) (f : Nat) (s : List UInt8) {b : Nat} (hb : b ≤ 6) : waysS fr f s b ≤ 6 * 6 ^ f := by
  have : waysS fr f s b ≤ ((List.range b).map (waysT fr f s)).length * 6 ^ f := by
    refine sum_le ?_
    intro x hx
    obtain ⟨a, _, rfl⟩ := List.mem_map.1 hx
    unfold waysT
    split
    · exact waysN_le fr f _
    · exact Nat.zero_le _
  rw [List.length_map, List.length_range] at this
  exact Nat.le_trans this (Nat.mul_le_mul_right _ hb)

theorem pow6 {f : Nat} (h : f ≤ 16) : 6 ^ f ≤ 2821109907456 := by
  have : 6 ^ f ≤ 6 ^ 16 := Nat.pow_le_pow_right (by omega) h
  simpa using this

/-! ### Maps -/

theorem findS_setS (k k' : ByteArray) (v : Value) : ∀ es : List (ByteArray × Value), findS k (setS k' v es) = if k = k' then some v else findS k es
  | [] => by
    simp only [setS, findS]
  | (k2, v2) :: es => by
    simp only [setS]
    by_cases h : k' = k2
    · subst h
      rw [if_pos rfl]
      simp only [findS]
      by_cases hk : k = k'
      · rw [if_pos hk, if_pos hk]
      · rw [if_neg hk, if_neg hk, if_neg hk]
    · rw [if_neg h]
      simp only [findS]
      rw [findS_setS k k' v es]
      by_cases hk : k = k2
      · subst hk
        rw [if_pos rfl, if_pos rfl, if_neg (fun he => h he.symm)]
      · rw [if_neg hk, if_neg hk]

/-- What is known is right. -/
def MG (fr : UInt8 → UInt8 → Bool) (es : List (ByteArray × Value)) : Prop := ∀ (l : List UInt8) v, findS ⟨l.toArray⟩ es = some v → v = I (waysN fr l.length l)

theorem key_inj {l m : List UInt8} (h : (⟨l.toArray⟩ : ByteArray) = ⟨m.toArray⟩) : l = m := by
  have := congrArg (fun b : ByteArray => b.data.toList) h
  simpa using this

theorem MG.set {fr : UInt8 → UInt8 → Bool} {es : List (ByteArray × Value)} (h : MG fr es) {s : List UInt8} {n : Nat} (hn : n = waysN fr s.length s) : MG fr (setS ⟨s.toArray⟩ (I n) es) := by
  intro l v hv
  rw [findS_setS] at hv
  split at hv
  · rename_i hk
    obtain rfl := key_inj hk
    rw [← hn]
    exact (Option.some.inj hv).symm
  · exact h l v hv

section
variable {ps : List (Int × Int)} {pv : Value} {h : Heap} {i : Nat}

/-- A heap with a map of its own contents at a place. -/
abbrev hmap (h : Heap) (i : Nat) (es : List (ByteArray × Value)) : Heap := h.set i (.smap es)

theorem hmap_get (hi : i < h.length) (es : List (ByteArray × Value)) : (hmap h i es)[i]? = some (.smap es) := by simp [hmap, hi]
theorem hmap_set (es es' : List (ByteArray × Value)) : (hmap h i es).set i (.smap es') = hmap h i es' := by simp [hmap]

theorem look_map (hi : i < h.length) (es : List (ByteArray × Value)) (s : List UInt8) : iLookup true (.int .i64 0) (hmap h i es) (.map (some i)) (S s) = some (.tuple #[(findS ⟨s.toArray⟩ es).getD (I 0), B (findS ⟨s.toArray⟩ es).isSome]) := by
  simp only [iLookup, S, hmap_get hi]
  rfl

theorem upd_map (hi : i < h.length) (es : List (ByteArray × Value)) (s : List UInt8) (v : Value) : oMupd (hmap h i es) (.map (some i)) (S s) v = some (undef, hmap h i (setS ⟨s.toArray⟩ v es)) := by
  simp only [oMupd, iMupd, S, hmap_get hi, hmap_set]
  rfl

theorem callVP_func {F : FuncId} {cap : Array Value} {args : List Value} {K : Value → Heap → Prop} (hF : callOk Try.prog F = true) (hc : CallP Try.prog F (args ++ cap.toList) h K) : CallVP Try.prog (.func (.func F) #[] cap) args h K := by
  rw [CallP_eq] at hc
  exact ⟨⟨hF, by simpa using hc⟩⟩

theorem ok83 : callOk Try.prog 16 = true := by kernel_rfl

theorem waysT_out {fr : UInt8 → UInt8 → Bool} {f n : Nat} {s : List UInt8} (ls : letters n s) (hn : n ≤ 6) {a : Nat} (ha : n ≤ a) (ha6 : a < 6) : waysT fr f s a = 0 := by
  unfold waysT
  cases h : firstAt fr (lt a) s 0 with
  | none => rfl
  | some i =>
    obtain ⟨b, hb, e⟩ := ls _ (first_mem ⟨i, h⟩)
    have := lt_inj (by omega) (by omega) e
    omega

theorem waysS_out {fr : UInt8 → UInt8 → Bool} {f n : Nat} {s : List UInt8} (ls : letters n s) (hn : n ≤ 6) : waysS fr f s n = waysS fr f s 6 := by
  have : ∀ k, n + k ≤ 6 → waysS fr f s (n + k) = waysS fr f s n := by
    intro k
    induction k with
    | zero => intro _; rfl
    | succ k ih =>
      intro hk
      rw [show n + (k + 1) = (n + k) + 1 by omega, waysS_succ, waysT_out ls hn (by omega) (by omega), ih (by omega)]
      rfl
  have := this (6 - n) (by omega)
  rw [show n + (6 - n) = 6 by omega] at this
  exact this.symm

theorem C16 {n kn tc w : Nat} {tv : Value} (hi : i < h.length) (hl1 : ∀ es, iLoad false 1 (hmap h i es) (pt kn 0) = some (.map (some i))) (hl2 : ∀ es, iLoad false 1 (hmap h i es) (pt tc 0) = some tv)
    (hl3 : ∀ es, iLoad false 1 (hmap h i es) (pt w 0) = some (.func (.func 16) #[] #[pt kn 0, pt tc 0, pt w 0])) (hth : ∀ es, TH (hmap h i es) tv n (cmOf ps)) (hn6 : n ≤ 6) :
    ∀ (f : Nat) {s : List UInt8} {es : List (ByteArray × Value)} {K : Value → Heap → Prop}, letters n s → s.length = f → f ≤ 16 → MG (freeP ps) es → findS ⟨#[]⟩ es ≠ none →
    (∀ es', MG (freeP ps) es' → findS ⟨#[]⟩ es' ≠ none → K (I (waysN (freeP ps) f s)) (hmap h i es')) → CallP Try.prog 16 [S s, pt kn 0, pt tc 0, pt w 0] (hmap h i es) K
  | f, s, es, K, ls, hs, h16, hm, hz, hk => by
    refine f16 ?_
    simp only [T16, hl1, OP_some, look_map hi, ext_tuple, pair0, pair1]
    cases hf : findS ⟨s.toArray⟩ es with
    | some v =>
      have := hm s v hf
      subst this
      simp only [Option.isSome_some, IfP_true, Option.getD_some]
      rw [hs]
      exact hk es hm hz
    | none =>
      simp only [Option.isSome_none, IfP_false, hl2, OP_some]
      match f, hs, h16, hk with
      | 0, hs, _, _ =>
        have : s = [] := List.length_eq_zero_iff.1 hs
        subst this
        exact absurd hf hz
      | f + 1, hs, h16, hk =>
        obtain ⟨ti, htv, hc⟩ := hth es
        have hld : iLoad false 1 (hmap h i es) (pt ti 0) = some (I n) := by simp [iLoad, hc, iPart, tcells]
        rw [htv]
        simp only [nilck_pt, OP_some, fadr_pt, Nat.zero_add, hld]
        refine loopL (σ := Nat × List (ByteArray × Value)) (fun p => [I (waysS (freeP ps) f s p.1), I p.1]) (fun p => hmap h i p.2) (fun p => p.1 ≤ n ∧ MG (freeP ps) p.2 ∧ findS ⟨#[]⟩ p.2 ≠ none) (fun p => n - p.1) (0, es) rfl rfl ⟨by simp, hm, hz⟩ ?_
        rintro ⟨b, es1⟩ ⟨hb, hm1, hz1⟩ L hL
        simp only at hb hm1 hz1 hL ⊢
        rw [q16z10]
        have hpow := pow6 (f := f) (by omega)
        have hS := waysS_le (freeP ps) f s (show b ≤ 6 by omega)
        simp only [bin_lss, OP_some, IfP_dec]
        refine ⟨fun hlt => ?_, fun hge => ?_⟩
        · have hlt' : b < n := by omega
          simp only [hl2, OP_some, conv_int, bin_add]
          rw [wrapU8 (n := (b : Int)) (by omega) (by omega), wrapU8 (by omega) (by omega)]
          have ecv : (.int .u8 (97 + (b : Int)) : Value) = cv (lt b) := by rw [cv_lt (by omega)]; congr 1
          rw [ecv]
          have s6 := letters_le hn6 ls
          refine C17 (hth es1) (by omega) s6 (by omega) ?_
          rw [firstAt_cm s6 (by omega)]
          have next : ∀ es2 (m : Nat), MG (freeP ps) es2 → findS ⟨#[]⟩ es2 ≠ none → m = waysT (freeP ps) f s b → p16z18 Try.prog K (S s) (pt kn 0) (pt tc 0) (pt w 0) (I ((waysS (freeP ps) f s b + m : Nat) : Int)) (I n) (I b) L (hmap h i es2) := by
            intro es2 m hm2 hz2 hn
            rw [q16z18]
            simp only [bin_add, OP_some, inc b (by omega), true_and]
            have := hL (b + 1, es2) ⟨by show b + 1 ≤ n; omega, hm2, hz2⟩ (by show n - (b + 1) < n - b; omega)
            rw [waysS_succ, ← hn] at this
            exact this
          have hT : waysT (freeP ps) f s b = match firstAt (freeP ps) (lt b) s 0 with | some i => waysN (freeP ps) f (leastF (freeP ps) 6 f (without s i)) | none => 0 := rfl
          simp only [bin_geq, OP_some]
          cases h1 : firstAt (freeP ps) (lt b) s 0 with
          | none =>
            rw [decide_eq_false (show ¬ (0 : Int) ≤ optI none by simp [optI])]
            simp only [IfP_false]
            rw [h1] at hT
            have := next es1 0 hm1 hz1 hT.symm
            simpa using this
          | some j =>
            rw [decide_eq_true (show (0 : Int) ≤ optI (some j) by simp [optI])]
            simp only [IfP_true, optI, hl3, hl2, OP_some, true_and]
            rw [h1] at hT
            simp only at hT
            have hj := (firstAt_lt h1).1
            have hw := without_length hj
            have hwl : (without s j).length = f := by omega
            refine C19 hj (by omega) ?_
            simp only [hl3, hl2, true_and]
            have lw := letters_without ls j
            refine C18 (k := n) (hth es1) hn6 (by omega) lw ?_
            rw [Lst_eq hn6 lw]
            have eL : Lst ps (without s j) = leastF (freeP ps) 6 f (without s j) := by unfold Lst; rw [hwl]
            obtain ⟨q1, q2⟩ := Lst_letters (ps := ps) (letters_le hn6 lw)
            have q3 := Lst_lettersN (ps := ps) hn6 lw
            rw [← eL] at hT
            simp only [hl3, true_and]
            refine callVP_func ok83 ?_
            refine C16 hi hl1 hl2 hl3 hth hn6 f q3 (by omega) (by omega) hm1 hz1 ?_
            intro es2 hm2 hz2
            simp only [bin_add, OP_some, true_and]
            have hN := waysN_le (freeP ps) f (Lst ps (without s j))
            have e : IntKind.wrap .i64 ((waysS (freeP ps) f s b : Int) + (waysN (freeP ps) f (Lst ps (without s j)) : Int)) = ((waysS (freeP ps) f s b + waysN (freeP ps) f (Lst ps (without s j)) : Nat) : Int) := by
              rw [wrap64 (by omega) (by omega)]; omega
            rw [e]
            exact next es2 _ hm2 hz2 hT.symm
        · have : b = n := by omega
          subst this
          simp only [q16z19, hl1, OP_some, upd_map hi, OH_some]
          rw [waysS_out ls hn6, ← waysN_succ]
          refine hk _ (hm1.set (by rw [hs])) ?_
          rw [findS_setS]
          split
          · simp
          · exact hz1
end

end Go.Proofs.Ytipeennffbbglaa

/-
  Ways, and its law.
-/
namespace Go.Proofs.Ytipeennffbbglaa
open Go.Sim

theorem store_last {h : Heap} {e : TypeId} {a v : Value} (h1 : noTuple v = true) (h2 : vcells v = [v]) : oStore 1 (h ++ [.arr e [a]]) (pt h.length 0) v = some (undef, h ++ [.arr e [v]]) := by
  simp [oStore, iStore, h1, h2, setAt]

def waysV (k : Int) (ps : List (Int × Int)) (s : List UInt8) : Value :=
  if whyE k ps [s] 16 = 0 then .tuple #[I (waysN (freeP ps) s.length (Lst ps s)), I 0] else .tuple #[I 0, I (whyE k ps [s] 16)]

theorem waysV_ren (k : Int) (ps : List (Int × Int)) (s : List UInt8) : Ren fun _ => waysV k ps s := by
  unfold waysV
  split <;> exact Ren.tuple (l := [fun _ => I _, fun _ => I _]) (.cons (Ren.scal rfl) (.cons (Ren.scal rfl) .nil))

theorem C5 {pv : Value} {ps : List (Int × Int)} {s : List UInt8} {k : Int} {h : Heap} {K : Value → Heap → Prop} (hp : PS h pv ps) (hl : ps.length ≤ 100) (hs : s.length ≤ 1000)
    (hk : K (waysV k ps s) h) : CallP Try.prog 5 [I k, pv, S s] h K := by
  refine callP_gc (v := waysV k ps s) (waysV_ren k ps s) ?_ hk
  refine f5 ?_
  simp only [T5, mkS1, OH_some]
  have hx : EX h (h ++ [.arr 9 [S s]]) := EX.append _ _
  have hss : SS (h ++ [.arr 9 [S s]]) (sl 9 h.length 0 1) [s] := SS.sl (ls := [s]) (by simp [objCells])
  have al : ∀ (e : TypeId) (z : Value) (g : Heap), iAlloc e [z] g = some (pt g.length 0, g ++ [.arr e [z]]) := fun _ _ _ => rfl
  refine C15 (most := 16) (hp.mono hx) hl hss (by simp) (by simp; exact hs) (fun hw => ?_) (fun hw => ?_)
  · simp only [ext_tuple, pair0, pair1, OP_some, al, OH_some, bin_neq, decide_eq_false hw, Bool.not_false]
    rw [store_last rfl rfl]
    simp only [OH_some, IfP_true]
    exact ⟨by unfold waysV; rw [if_neg hw], hx.push _⟩
  · obtain ⟨ht, hse⟩ := whyE_ok hw
    obtain ⟨n, rfl, hn1, hn6⟩ := threadsOk_k ht
    obtain ⟨hlen, hbad⟩ := seamsE_ok hse s (by simp)
    have ls := letters_of hbad
    generalize hh1 : h ++ [.arr 9 [S s]] = h1 at *
    simp only [ext_tuple, pair0, pair1, OP_some, al, OH_some, bin_neq, decide_true, Bool.not_true]
    have hth : TH (h1 ++ [.arr 58 (tcells n (cmOf ps))]) (pt h1.length 0) n (cmOf ps) := ⟨h1.length, rfl, by simp [objCells]⟩
    have x2 : EX h1 (h1 ++ [.arr 58 (tcells n (cmOf ps))]) := EX.append _ _
    generalize h1 ++ [IObj.arr 58 (tcells n (cmOf ps))] = h2 at hth x2 ⊢
    rw [store_last rfl rfl]
    simp only [OH_some, IfP_false]
    have x3 : EX h2 (h2 ++ [.arr 49 [pt h1.length 0]]) := EX.append _ _
    have l2 : iLoad false 1 (h2 ++ [.arr 49 [pt h1.length 0]]) (pt h2.length 0) = some (pt h1.length 0) := load_last rfl
    generalize hh3 : h2 ++ [IObj.arr 49 [pt h1.length 0]] = h3 at x3 l2 ⊢
    have mk : iMkMap h3 = some (.map (some h3.length), h3 ++ [.smap []]) := rfl
    simp only [mk, OH_some]
    have up : oMupd (h3 ++ [.smap []]) (.map (some h3.length)) (.string ⟨#[]⟩) (.int .i64 1) = some (undef, h3 ++ [.smap [(⟨#[]⟩, I 1)]]) := by
      simp [oMupd, iMupd, setS]
    simp only [up, OH_some, al]
    have hi4 : h3.length < (h3 ++ [IObj.smap [(⟨#[]⟩, I 1)]]).length := by simp
    generalize hh4 : h3 ++ [IObj.smap [(⟨#[]⟩, I 1)]] = h4 at hi4 ⊢
    have x4 : EX h3 h4 := by rw [← hh4]; exact EX.append _ _
    have g4 : h4[h3.length]? = some (.smap [(⟨#[]⟩, I 1)]) := by rw [← hh4]; exact get_last
    rw [store_last rfl rfl]
    simp only [OH_some]
    have l1 : iLoad false 1 (h4 ++ [.arr 52 [.map (some h3.length)]]) (pt h4.length 0) = some (.map (some h3.length)) := load_last rfl
    have x5 : EX h4 (h4 ++ [.arr 52 [.map (some h3.length)]]) := EX.append _ _
    generalize hh5 : h4 ++ [IObj.arr 52 [.map (some h3.length)]] = h5 at l1 x5 ⊢
    rw [store_last rfl rfl]
    simp only [OH_some]
    have l3 : iLoad false 1 (h5 ++ [.arr 53 [.func (.func 16) #[] #[pt h4.length 0, pt h2.length 0, pt h5.length 0]]]) (pt h5.length 0) = some (.func (.func 16) #[] #[pt h4.length 0, pt h2.length 0, pt h5.length 0]) := load_last rfl
    have x6 : EX h5 (h5 ++ [.arr 53 [.func (.func 16) #[] #[pt h4.length 0, pt h2.length 0, pt h5.length 0]]]) := EX.append _ _
    generalize hh6 : h5 ++ [IObj.arr 53 [.func (.func 16) #[] #[pt h4.length 0, pt h2.length 0, pt h5.length 0]]] = h6 at l3 x6 ⊢
    have l2 := EX.load ((x4.trans x5).trans x6) l2
    have l1 := EX.load x6 l1
    have hth := hth.mono (((x3.trans x4).trans x5).trans x6)
    have g6 := (x5.trans x6).get g4
    have hxx : EX h h6 := ((((hx.trans x2).trans x3).trans x4).trans x5).trans x6
    have hi6 : h3.length < h6.length := Nat.lt_of_lt_of_le hi4 (x5.trans x6).1
    have hh3l : h.length ≤ h3.length := ((hx.trans x2).trans x3).1
    have e6 : h6 = hmap h6 h3.length [(⟨#[]⟩, I 1)] := by
      unfold hmap
      apply List.ext_getElem?
      intro j
      by_cases hj : h3.length = j
      · subst hj; rw [g6]; simp [hi6]
      · rw [List.getElem?_set_ne hj]
    have ldset : ∀ (es : List (ByteArray × Value)) {agg : Bool} {m : Nat} {a v : Value}, iLoad agg m h6 a = some v → iLoad agg m (hmap h6 h3.length es) a = some v := by
      intro es agg m a v hv
      unfold iLoad at hv ⊢
      split at hv
      · rename_i j o
        have hj : h3.length ≠ j := by
          rintro rfl
          unfold objCells at hv
          rw [g6] at hv
          simp at hv
        have : objCells (hmap h6 h3.length es) j = objCells h6 j := by
          unfold objCells hmap
          rw [List.getElem?_set_ne hj]
        simp only [this]
        exact hv
      · cases hv
    have thset : ∀ es, TH (hmap h6 h3.length es) (pt h1.length 0) n (cmOf ps) := by
      intro es
      obtain ⟨ti, e1, e2⟩ := hth
      refine ⟨ti, e1, ?_⟩
      have hj : h3.length ≠ ti := by
        rintro rfl
        unfold objCells at e2
        rw [g6] at e2
        simp at e2
      unfold objCells hmap at *
      rw [List.getElem?_set_ne hj]
      exact e2
    simp only [l1, l2, l3, OP_some, true_and]
    refine C18 (k := n) hth hn6 hs ls ?_
    rw [Lst_eq hn6 ls]
    simp only [l3, true_and]
    refine callVP_func ok83 ?_
    obtain ⟨q1, q2⟩ := Lst_letters (ps := ps) (letters_le hn6 ls)
    have q3 := Lst_lettersN (ps := ps) hn6 ls
    have hm0 : MG (freeP ps) [(⟨#[]⟩, I 1)] := by
      intro l v hv
      simp only [findS] at hv
      split at hv
      · rename_i hkey
        have : l = [] := key_inj (l := l) (m := []) hkey
        subst this
        exact (Option.some.inj hv).symm
      · cases hv
    conv => arg 4; rw [e6]
    refine C16 (n := n) hi6 (fun es => ldset es l1) (fun es => ldset es l2) (fun es => ldset es l3) thset hn6 s.length q3 q2 hlen hm0 (by simp [findS]) ?_
    intro es' _ _
    exact ⟨by unfold waysV; rw [if_pos hw], hxx.set hh3l _⟩

end Go.Proofs.Ytipeennffbbglaa
