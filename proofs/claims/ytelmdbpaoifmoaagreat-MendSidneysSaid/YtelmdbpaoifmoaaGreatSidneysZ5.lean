/-
  Part 5 of the texts behind a statement of this seat: Zs2, Sq27, Zs3, ZU, ZN1, ZN2, Ct28, Ct29, Ct30, Ct31, Ct32, Ct33.
-/
import Derived.Test.YtelmdbpaoifmoaaGreatProg
import Derived.KernelRfl
import Derived.Test.YtelmdbpaoifmoaaGreatSidneysZ4
namespace Go.Proofs.YtelmdbpaoifmoaaGreat
open Go.Sim

theorem sumB_stop (f : Nat → Int) {s n : Nat} (hs : s < 2 ^ n) : ∀ k, sumB f s (n + k) = sumB f s n
  | 0 => rfl
  | k + 1 => by
    have hb : s.testBit (n + k) = false := by
      cases h : s.testBit (n + k) with
      | false => rfl
      | true => have := bit_lt hs h; omega
    rw [show n + (k + 1) = n + k + 1 from rfl]
    simp only [sumB, sumB_stop f hs k, hb]
    simp

theorem sumB_ten (f : Nat → Int) {s n : Nat} (hs : s < 2 ^ n) (hn : n ≤ 10) : sumB f s 10 = sumB f s n := by
  rw [show 10 = n + (10 - n) by omega]
  exact sumB_stop f hs _

theorem sumB_small {f : Nat → Int} (h : ∀ i, 0 ≤ f i ∧ f i ≤ 50) (s : Nat) : ∀ m : Nat, 0 ≤ sumB f s m ∧ sumB f s m ≤ 50 * m
  | 0 => by simp [sumB]
  | m + 1 => by
    have ih := sumB_small h s m
    have := h m
    simp only [sumB]
    split <;> omega

theorem bitAnd {s j : Nat} (hs : s < 1024) : iBin .and (.int .i64 ((s / 2 ^ j : Nat) : Int)) (.int .i64 1) = some (.int .i64 ((s / 2 ^ j &&& 1 : Nat) : Int)) :=
  andK skI (Nat.lt_of_le_of_lt (Nat.div_le_self _ _) hs) (show 1 < 1024 by decide)
theorem bit_one (s j : Nat) : decide (((s / 2 ^ j &&& 1 : Nat) : Int) = 1) = s.testBit j := by
  rw [Nat.testBit_eq_decide_div_mod_eq, bit_and, decide_eq_decide]; omega
theorem bit_nil (s j : Nat) : decide (((s / 2 ^ j &&& 1 : Nat) : Int) = 0) = !s.testBit j := by
  rw [Nat.testBit_eq_decide_div_mod_eq, bit_and, ← decide_not, decide_eq_decide]; omega

/-- Weights and lengths of a set. -/
theorem C36 {vj : Value} {js : List (Int × Int)} {s n : Nat} {h : Heap} {K : Value → Heap → Prop} (hj : PS h vj js) (hn : js.length = n) (h10 : n ≤ 10) (hsm : smallJ js) (hs : s < 2 ^ n) (hk : K (.tuple #[I (wS js s), I (lS js s)]) h) : CallP Tryz.prog 36 [vj, I s] h K := by
  have h2n : (2 : Nat) ^ n ≤ 2 ^ 10 := Nat.pow_le_pow_right (by decide) h10
  have e1 : wS js s = sumB (weiJ js) s n := sumB_ten _ hs h10
  have e2 : lS js s = sumB (lenJ js) s n := sumB_ten _ hs h10
  rw [e1, e2] at hk
  refine f36 ?_
  unfold T36
  refine loopL (σ := Nat) (fun j => [I (sumB (weiJ js) s j), I (sumB (lenJ js) s j), I j]) (fun _ => h) (fun j => j ≤ n) (fun j => n - j) 0 rfl rfl (Nat.zero_le _) ?_
  intro j hjn L hL
  rw [q36z6]
  simp only [hj.len, hn, OP_some, bin_lss, IfP_dec]
  refine ⟨fun hlt => ?_, fun hge => ?_⟩
  · have hjl : j < js.length := by omega
    have b1 := sumB_small (fun i => (hsm.all i).2) s j
    have b2 := sumB_small (fun i => (hsm.all i).1) s j
    have hjs := hsm.all j
    have nx : ∀ a b : Int, a = sumB (weiJ js) s (j + 1) → b = sumB (lenJ js) s (j + 1) → p36z12 Tryz.prog K vj (I s) (I a) (I b) (I j) L h := by
      intro a b ha hb
      subst ha hb
      rw [q36z12]
      simp only [bin_add, OP_some, inc j (by omega), true_and]
      exact hL (j + 1) (by omega) (by omega)
    simp only [shrK skI (show j < 16 by omega), OP_some, bitAnd (show s < 1024 by omega), bin_eql, bit_one]
    refine IfP_of (fun ht => ?_) fun ht => ?_
    · obtain ⟨b, o, r1, r2, r3, r4⟩ := PS.getD hj hjl
      have r2' : iLoad false 1 h (pt b o) = some (I (lenJ js j)) := r2
      have r3' : iLoad false 1 h (pt b (o + 1)) = some (I (weiJ js j)) := r3
      have w1 : IntKind.wrap .i64 (sumB (weiJ js) s j + weiJ js j) = sumB (weiJ js) s j + weiJ js j := wrap64 (by omega) (by omega)
      have w2 : IntKind.wrap .i64 (sumB (lenJ js) s j + lenJ js j) = sumB (lenJ js) s j + lenJ js j := wrap64 (by omega) (by omega)
      simp only [r1, OP_some, fadr_pt, Nat.add_zero, r2', r3', true_and, bin_add, w1, w2]
      exact nx _ _ (by simp only [sumB, ht, if_true]) (by simp only [sumB, ht, if_true])
    · exact nx _ _ (by simp only [sumB, ht]; simp) (by simp only [sumB, ht]; simp)
  · have hje : j = n := by omega
    subst hje
    rw [q36z13]
    exact hk

/-! ### Lists of lists -/

/-- Lists in memory. -/
structure LL (h : Heap) (v : Value) (ll : List (List Nat)) : Prop where
  len : iLenSl v = some (I ll.length)
  get : ∀ i (hi : i < ll.length), ∃ b o w, iAdrSl 1 v (I i) = some (pt b o) ∧ iLoad false 1 h (pt b o) = some w ∧ NS h w .i64 (ll[i].map fun i : Nat => (i : Int))

theorem LL.mono {h h' : Heap} {v : Value} {ll : List (List Nat)} (x : EX h h') (p : LL h v ll) : LL h' v ll :=
  ⟨p.len, fun i hi => let ⟨b, o, w, a, c, d⟩ := p.get i hi; ⟨b, o, w, a, EX.load x c, d.mono x⟩⟩

def isSl : Value → Bool
  | .slice _ _ _ => true
  | _ => false

/-- Lists in an array that is being made. -/
structure OL (b : Nat) (g : Heap) (v : Value) (ws : List Value) (ll : List (List Nat)) : Prop where
  own : OwnS b g 33 v ws
  len : ws.length = ll.length
  sls : ∀ w ∈ ws, isSl w = true
  get : ∀ (i : Nat) (w : Value) (l : List Nat), ws[i]? = some w → ll[i]? = some l → NS g w .i64 (l.map fun i : Nat => (i : Int))

theorem NS.keepN {g g' : Heap} {w : Value} {ns : List Int} (p : NS g w .i64 ns) (hk : ∀ b, b < g.length → (∃ o n, iLoad false 1 g (pt b o) = some (I n)) → g'[b]? = g[b]?) : NS g' w .i64 ns := by
  refine ⟨p.len, fun i hi => ?_, p.le⟩
  obtain ⟨b, o, h1, h2⟩ := p.get i hi
  have hb : b < g.length := by
    apply Classical.byContradiction
    intro hge
    simp only [iLoad, pt] at h2
    rw [objCells, List.getElem?_eq_none (by omega)] at h2
    cases h2
  refine ⟨b, o, h1, ?_⟩
  have := hk b hb ⟨o, _, h2⟩
  simp only [iLoad, pt, objCells, this] at h2 ⊢
  exact h2

theorem OL.keep {b : Nat} {g g' : Heap} {v w : Value} {ws : List Value} {ll : List (List Nat)} {ns : List Int} (o : OL b g v ws ll) (p : NS g w .i64 ns) (hold : ∀ d, d < g.length → (∀ n, v ≠ sl 33 d 0 n) → g'[d]? = g[d]?) : NS g' w .i64 ns := by
  refine NS.keepN p fun d hd ⟨o', n, hl⟩ => hold d hd fun m hv => ?_
  obtain ⟨_, _, h3⟩ := o.own.lt hv
  simp only [iLoad, pt, objCells, h3, Option.bind_some, iPart, Bool.false_eq_true, if_false] at hl
  have := o.sls _ (List.mem_of_getElem? hl)
  cases this

/-- One list more. -/
theorem OL.app {h0 hx : Heap} {v w : Value} {ws : List Value} {ll : List (List Nat)} {l : List Nat} {K : Value → Heap → Prop} (o : OL h0.length hx v ws ll) (hex : EX h0 hx) (hw : NS hx w .i64 (l.map fun i : Nat => (i : Int))) (hl : ws.length ≤ 1000)
    (hk : ∀ v' hx', EX h0 hx' → OL h0.length hx' v' (ws ++ [w]) (ll ++ [l]) → K v' hx') : OH (iMkSl 33 1 [(.slice none 0 0)] hx [(0, 1, w)]) fun a h2 => OH (iApp 33 1 24 h2 v a) K := by
  obtain ⟨t1, t2⟩ := slice_of_len hw.len
  have hsl : isSl w = true := by
    have := hw.len
    unfold iLenSl at this
    split at this
    · rfl
    · cases this
  refine app1p o.own (by omega) (by simp [maxLen]; omega) t1 t2 ?_
  intro w1 hx' _ hlen hold hnew
  simp only [OH_some]
  have key : ∀ {w' : Value} {ns : List Int}, NS hx w' .i64 ns → NS hx' w' .i64 ns := fun p => o.keep p hold
  refine hk _ _ ⟨by have := hex.1; omega, fun d hd => ?_⟩ ⟨.inr ⟨hx.length + 1, by have := hex.1; omega, by simp, hnew⟩, by simp [o.len], fun x hx => ?_, fun i x y hx hy => ?_⟩
  · rw [hold d (by have := hex.1; omega) fun n hv => ?_]
    · exact hex.2 d hd
    · have := (o.own.lt hv).1
      omega
  · rcases List.mem_append.1 hx with hx | hx
    · exact o.sls x hx
    · rw [List.mem_singleton.1 hx]; exact hsl
  · by_cases hi : i < ws.length
    · rw [List.getElem?_append_left hi] at hx
      rw [List.getElem?_append_left (by rw [← o.len]; exact hi)] at hy
      exact key (o.get i x y hx hy)
    · rw [List.getElem?_append_right (by omega)] at hx
      rw [List.getElem?_append_right (by rw [← o.len]; omega), ← o.len] at hy
      have h0 : i - ws.length = 0 := by
        have := (List.getElem?_eq_some_iff.1 hx).1
        simp at this; omega
      rw [h0] at hx hy
      simp only [List.getElem?_cons_zero, Option.some.injEq] at hx hy
      subst hx hy
      exact key hw

theorem OL.ll {b : Nat} {g : Heap} {v : Value} {ws : List Value} {ll : List (List Nat)} (o : OL b g v ws ll) : LL g v ll := by
  rcases o.own with ⟨rfl, h2⟩ | ⟨i, _, rfl, h3⟩
  · have hl := o.len
    rw [h2] at hl
    have : ll = [] := List.length_eq_zero_iff.1 hl.symm
    subst this
    exact ⟨rfl, fun i hi => by simp at hi⟩
  · refine ⟨by rw [← o.len]; rfl, fun j hj => ?_⟩
    have hjw : j < ws.length := by rw [o.len]; exact hj
    refine ⟨i, j, ws[j], adr_sl hjw, ?_, o.get j _ _ (List.getElem?_eq_getElem hjw) (List.getElem?_eq_getElem hj)⟩
    simp [iLoad, objCells, h3, iPart, hjw]

theorem OL.start (b : Nat) (g : Heap) : OL b g (.slice none 0 0) [] [] := ⟨.inl ⟨rfl, rfl⟩, rfl, fun w hw => by simp at hw, fun i w l h => by simp at h⟩

/-- The program's decomposition. -/
theorem C31 {vj vp : Value} {js ps : List (Int × Int)} {h : Heap} {K : Value → Heap → Prop} (hj : PS h vj js) (hp : PS h vp ps) (hjl : js.length ≤ 1000) (hpl : ps.length ≤ 1000)
    (hk0 : validB js ps = false → ∀ h', EX h h' → K (.tuple #[.slice none 0 0, I 1]) h')
    (hk : validB js ps = true → ∀ os v h', EX h h' → SidP (bsOf ps js.length) js js.length 0 os → LL h' v (os.map fun s => listS s 10) → K (.tuple #[v, I 0]) h') : CallP Tryz.prog 31 [vj, vp] h K := by
  refine f31 (C59v hj hp hjl hpl (fun hv p g xg => ?_) (fun v hv p g xg hplan => ?_))
  · simp only [ext_tuple, pair0, pair1, OP_some, un_not, Bool.not_false, IfP_true]
    exact hk0 hv g xg
  have hk := hk hv
  have two := v.two
  obtain ⟨os, hos⟩ := SidP.ex (bs := bsOf ps js.length) (js := js) (v.small.pos rfl) v.n10 v.is.lt (fullS js.length) 0 (Nat.pow_pos (by decide)) (by omega)
  have hlt := SidP.lt (Nat.pow_pos (by decide)) hos
  have hosl : os.length ≤ 1024 := by
    have key : ∀ {l : List Nat} {d : Nat}, d < 2 ^ js.length → SidP (bsOf ps js.length) js js.length d l → d + l.length ≤ fullS js.length := by
      intro l
      induction l with
      | nil => intro d _ h; have h' : d = fullS js.length := h; simp; omega
      | cons b l ih =>
        intro d hd h
        obtain ⟨h1, h2, _⟩ := h.1.step hd
        have := ih h2 h.2
        simp only [List.length_cons]
        omega
    have := key (Nat.pow_pos (by decide)) hos
    unfold fullS at this
    omega
  simp only [ext_tuple, pair0, pair1, OP_some, un_not, Bool.not_true, IfP_false]
  refine C73 (os := os) hplan rfl v.n1 v.n10 v.small v.is.len v.is.lt hos ?_
  have ls : iLenSl (sl 131 g.length 0 os.length) = some (I os.length) := rfl
  simp only [ls, OP_some]
  have x1 : EX g (g ++ [.arr 131 (os.map fun b : Nat => U b)]) := EX.append _ _
  have k1 : (g ++ [IObj.arr 131 (os.map fun b : Nat => U b)])[g.length]? = some (.arr 131 (os.map fun b : Nat => U b)) := get_last
  generalize g ++ [IObj.arr 131 (os.map fun b : Nat => U b)] = g1 at x1 k1 ⊢
  refine loopL (σ := Nat × Value × List Value × Heap) (fun q => [q.2.1, I q.1]) (fun q => q.2.2.2) (fun q => q.1 ≤ os.length ∧ EX g1 q.2.2.2 ∧ OL g1.length q.2.2.2 q.2.1 q.2.2.1 ((os.take q.1).map fun s => listS s 10)) (fun q => os.length - q.1)
    (0, .slice none 0 0, [], g1) rfl rfl ⟨Nat.zero_le _, EX.refl _, by simpa using OL.start g1.length g1⟩ ?_
  rintro ⟨i, vo, ws, g2⟩ ⟨hi, x2, hol⟩ L hL
  simp only at hi x2 hol hL ⊢
  rw [q31z10]
  simp only [bin_lss, OP_some, IfP_dec]
  refine ⟨fun hlt2 => ?_, fun hge => ?_⟩
  · have hil : i < os.length := by omega
    have ld : iLoad false 1 g2 (pt g.length i) = some (U os[i]) := by
      simp [iLoad, objCells, x2.get k1, iPart, hil]
    have hos1 : os[i] < 1024 := by have := hlt _ (List.getElem_mem hil); omega
    simp only [adr_sl hil, OP_some, ld]
    refine C74 hos1 ?_
    intro w g3 x3 hw
    have hol3 : OL g1.length g3 vo ws ((os.take i).map fun s => listS s 10) := ⟨OwnS.keep hol.own fun d n hv hd => x3.2 d (hol.own.lt hv).2.1, hol.len, hol.sls, fun j x y hx hy => (hol.get j x y hx hy).mono x3⟩
    have hwl : ws.length ≤ 1000 ∨ 1000 < ws.length := by omega
    have hwl' : ws.length = i := by have := hol.len; rw [List.length_map, List.length_take] at this; omega
    have hi1000 : i ≤ 1000 := by
      -- each set has a job of its own
      have key : ∀ {l : List Nat} {d : Nat}, d < 2 ^ js.length → SidP (bsOf ps js.length) js js.length d l → cardS d js.length + l.length ≤ js.length := by
        intro l
        induction l with
        | nil => intro d _ _; simpa using cardS_le d js.length
        | cons b l ih =>
          intro d hd h
          obtain ⟨h1, h2, _⟩ := h.1.step hd
          have := ih h2 h.2
          obtain ⟨j, hj⟩ := bit_of_ne h.1.1.1.ne
          have hjd : d.testBit j = false := by
            cases e : d.testBit j with
            | false => rfl
            | true =>
              have h9 : (d &&& b).testBit j = true := by rw [Nat.testBit_and, e, hj]; rfl
              rw [h.1.1.1.apart] at h9
              simp at h9
          have := cardS_lt (s := d) (t := d ||| b) (fun k hk => by rw [Nat.testBit_or, hk]; rfl) hjd (by rw [Nat.testBit_or, hj]; simp) (bit_lt h.1.1.1.lt hj)
          simp only [List.length_cons]
          omega
      have := key (Nat.pow_pos (by decide)) hos
      have := v.n10
      omega
    refine hol3.app (x2.trans x3) hw (by omega) ?_
    intro v' hx' x' ho'
    have hti : (os.take (i + 1)).map (fun s => listS s 10) = (os.take i).map (fun s => listS s 10) ++ [listS os[i] 10] := by
      rw [List.take_succ_eq_append_getElem hil, List.map_append]; rfl
    simp only [bin_add, OP_some, inc i (by omega), true_and]
    exact hL (i + 1, v', ws ++ [w], hx') ⟨by show i + 1 ≤ _; omega, x', by rw [hti]; exact ho'⟩ (by show os.length - (i + 1) < os.length - i; omega)
  · have hie : i = os.length := by omega
    rw [hie, List.take_length] at hol
    rw [q31z16]
    exact hk os vo g2 (xg.trans (x1.trans x2)) hos hol.ll

end Go.Proofs.YtelmdbpaoifmoaaGreat


namespace Go.Sim

/-- What is known when all sets below k were looked at: b has the greatest ratio, 'best' is the union of all that have it. -/
structure Gath (bs : List Nat) (js : List (Int × Int)) (n d k best b : Nat) : Prop where
  none : best = 0 → b = 0 ∧ ∀ m, m < k → ¬ Rel1 bs n d m
  rel : best ≠ 0 → (b < k ∧ Rel1 bs n d b) ∧ (∀ m, m < k → Rel1 bs n d m → wS js m * lS js b ≤ wS js b * lS js m) ∧ ∀ i, best.testBit i = true ↔ ∃ m, m < k ∧ Rel1 bs n d m ∧ wS js m * lS js b = wS js b * lS js m ∧ m.testBit i = true

section
variable {bs : List Nat} {js : List (Int × Int)} {n d k best b : Nat}

theorem Gath.start : Gath bs js n d 1 0 0 := ⟨fun _ => ⟨rfl, fun m hm h => h.ne (by omega)⟩, fun h => absurd rfl h⟩

theorem Gath.skip (g : Gath bs js n d k best b) (h : ¬ Rel1 bs n d k) : Gath bs js n d (k + 1) best b := by
  refine ⟨fun h0 => ⟨(g.none h0).1, fun m hm hr => ?_⟩, fun h0 => ?_⟩
  · by_cases e : m = k
    · subst e; exact h hr
    · exact (g.none h0).2 m (by omega) hr
  · obtain ⟨⟨a1, a2⟩, a3, a4⟩ := g.rel h0
    refine ⟨⟨by omega, a2⟩, fun m hm hr => ?_, fun i => ?_⟩
    · by_cases e : m = k
      · subst e; exact absurd hr h
      · exact a3 m (by omega) hr
    · rw [a4 i]
      constructor
      · rintro ⟨m, q1, q2, q3⟩; exact ⟨m, by omega, q2, q3⟩
      · rintro ⟨m, q1, q2, q3⟩
        by_cases e : m = k
        · subst e; exact absurd q2 h
        · exact ⟨m, by omega, q2, q3⟩

theorem Gath.take (P : PosJ js n) (hn : n ≤ 10) (g : Gath bs js n d k best b) (h : Rel1 bs n d k) (hb : best = 0 ∨ wS js b * lS js k < wS js k * lS js b) : Gath bs js n d (k + 1) k k := by
  refine ⟨fun h0 => absurd h0 h.ne, fun _ => ?_⟩
  have less : ∀ m, m < k → Rel1 bs n d m → wS js m * lS js k < wS js k * lS js m := by
    intro m hm hr
    rcases hb with hb | hb
    · exact absurd hr ((g.none hb).2 m hm)
    · have h0 : best ≠ 0 := by
        rintro rfl
        exact (g.none rfl).2 m hm hr
      obtain ⟨⟨a1, a2⟩, a3, _⟩ := g.rel h0
      have h1 := a3 m hm hr
      have p1 := lS_pos P hn hr.lt hr.ne
      have p2 := lS_pos P hn a2.lt a2.ne
      have p3 := lS_pos P hn h.lt h.ne
      apply Classical.byContradiction
      intro hc
      have := cross_trans p3 p1 p2 (show wS js k * lS js m ≤ wS js m * lS js k by omega) h1
      omega
  refine ⟨⟨by omega, h⟩, fun m hm hr => ?_, fun i => ?_⟩
  · by_cases e : m = k
    · subst e; exact Int.le_refl _
    · exact Int.le_of_lt (less m (by omega) hr)
  · constructor
    · intro hi; exact ⟨k, by omega, h, rfl, hi⟩
    · rintro ⟨m, q1, q2, q3, q4⟩
      by_cases e : m = k
      · subst e; exact q4
      · have := less m (by omega) q2
        omega

theorem Gath.join (g : Gath bs js n d k best b) (h : Rel1 bs n d k) (h0 : best ≠ 0) (hb : wS js k * lS js b = wS js b * lS js k) : Gath bs js n d (k + 1) (best ||| k) b := by
  have hne : best ||| k ≠ 0 := by
    intro e
    have : best ≤ best ||| k := Nat.left_le_or
    omega
  refine ⟨fun e => absurd e hne, fun _ => ?_⟩
  obtain ⟨⟨a1, a2⟩, a3, a4⟩ := g.rel h0
  refine ⟨⟨by omega, a2⟩, fun m hm hr => ?_, fun i => ?_⟩
  · by_cases e : m = k
    · subst e; omega
    · exact a3 m (by omega) hr
  · rw [Nat.testBit_or, Bool.or_eq_true, a4 i]
    constructor
    · rintro (⟨m, q1, q2⟩ | hi)
      · exact ⟨m, by omega, q2⟩
      · exact ⟨k, by omega, h, hb, hi⟩
    · rintro ⟨m, q1, q2, q3, q4⟩
      by_cases e : m = k
      · subst e; exact .inr q4
      · exact .inl ⟨m, by omega, q2, q3, q4⟩

theorem Gath.pass (g : Gath bs js n d k best b) (h0 : best ≠ 0) (hb : wS js k * lS js b < wS js b * lS js k) : Gath bs js n d (k + 1) best b := by
  refine ⟨fun e => absurd e h0, fun _ => ?_⟩
  obtain ⟨⟨a1, a2⟩, a3, a4⟩ := g.rel h0
  refine ⟨⟨by omega, a2⟩, fun m hm hr => ?_, fun i => ?_⟩
  · by_cases e : m = k
    · subst e; omega
    · exact a3 m (by omega) hr
  · rw [a4 i]
    constructor
    · rintro ⟨m, q1, q2⟩; exact ⟨m, by omega, q2⟩
    · rintro ⟨m, q1, q2, q3, q4⟩
      by_cases e : m = k
      · subst e; omega
      · exact ⟨m, by omega, q2, q3, q4⟩

/-- All sets were looked at. -/
theorem Gath.all (P : PosJ js n) (hn : n ≤ 10) (hb : ∀ b ∈ bs, b < 2 ^ n) (hd : d < fullS n) (g : Gath bs js n d (2 ^ n) best b) : IsSid bs js n d best := by
  obtain ⟨s, hs⟩ := IsSid.ex (js := js) P hn hb hd
  have h0 : best ≠ 0 := fun e => (g.none e).2 s hs.1.1.lt hs.1.1
  obtain ⟨⟨a1, a2⟩, a3, a4⟩ := g.rel h0
  have hmax : MaxR bs js n d b := ⟨a2, fun x hx => a3 x hx.lt hx⟩
  have e : best = s := by
    apply Nat.eq_of_testBit_eq
    intro i
    rw [Bool.eq_iff_iff, a4 i]
    constructor
    · rintro ⟨m, _, q2, q3, q4⟩
      have hm := hmax.same P hn q2 (Int.le_of_eq q3.symm)
      exact subB_iff.1 (hs.2 m hm) i q4
    · intro hi
      exact ⟨s, hs.1.1.lt, hs.1.1, Int.le_antisymm (a3 s hs.1.1.lt hs.1.1) (hs.1.2 b a2), hi⟩
  rw [e]
  exact hs
end

end Go.Sim


namespace Go.Proofs.YtelmdbpaoifmoaaGreat
open Go.Sim

theorem C35 {va vb : Value} {ll : List (List Nat)} {h : Heap} {K : Value → Heap → Prop} (ha : LL h va ll) (hb : LL h vb ll) (hl : ll.length ≤ 1000) (hin : ∀ l ∈ ll, l.length ≤ 1000) (hk : K (B true) h) : CallP Tryz.prog 35 [va, vb] h K := by
  refine f35 ?_
  unfold T35
  simp only [ha.len, hb.len, OP_some, bin_neq, decide_true, Bool.not_true, IfP_false]
  refine loopL (σ := Nat) (fun i => [I i]) (fun _ => h) (fun i => i ≤ ll.length) (fun i => ll.length - i) 0 rfl rfl (Nat.zero_le _) ?_
  intro i hi L hL
  rw [q35z8]
  simp only [ha.len, OP_some, bin_lss, IfP_dec]
  refine ⟨fun hlt => ?_, fun _ => hk⟩
  have hil : i < ll.length := by omega
  obtain ⟨b, o, w, g1, g2, g3⟩ := ha.get i hil
  obtain ⟨c, q, x, r1, r2, r3⟩ := hb.get i hil
  simp only [g1, g2, r1, r2, OP_some, true_and]
  refine C49 g3 r3 (by rw [List.length_map]; exact hin _ (List.getElem_mem hil)) ?_
  simp only [un_not, OP_some, Bool.not_true, IfP_false, bin_add, inc i (by omega), true_and]
  exact hL (i + 1) (by omega) (by omega)

theorem sid_len {bs : List Nat} {js : List (Int × Int)} {n : Nat} : ∀ {l : List Nat} {d : Nat}, d < 2 ^ n → SidP bs js n d l → cardS d n + l.length ≤ n
  | [], d, _, _ => by simpa using cardS_le d n
  | b :: l, d, hd, h => by
    obtain ⟨h1, h2, _⟩ := h.1.step hd
    have := sid_len h2 h.2
    obtain ⟨j, hj⟩ := bit_of_ne h.1.1.1.ne
    have hjd : d.testBit j = false := by
      cases e : d.testBit j with
      | false => rfl
      | true =>
        have h9 : (d &&& b).testBit j = true := by rw [Nat.testBit_and, e, hj]; rfl
        rw [h.1.1.1.apart] at h9
        simp at h9
    have := cardS_lt (s := d) (t := d ||| b) (fun k hk => by rw [Nat.testBit_or, hk]; rfl) hjd (by rw [Nat.testBit_or, hj]; simp) (bit_lt h.1.1.1.lt hj)
    simp only [List.length_cons]
    omega

theorem iU (a : Nat) : decide (((a : Nat) : Int) = 0) = decide (a = 0) := by rw [decide_eq_decide]; omega

set_option maxHeartbeats 1000000 in
/-- The document's decomposition. -/
theorem C34 {vj vp : Value} {js ps : List (Int × Int)} {bs : List Nat} {n : Nat} {h : Heap} {K : Value → Heap → Prop} (v : Vd js ps n bs) (hj : PS h vj js) (hp : PS h vp ps)
    (hk : ∀ os w h', EX h h' → SidP bs js n 0 os → LL h' w (os.map fun s => listS s 10) → K w h') : CallP Tryz.prog 34 [vj, vp] h K := by
  have hn := v.hn
  have h10 := v.n10
  have h1 := v.n1
  have hsm := v.small
  have two := v.two
  have P := hsm.pos hn
  have hpos : 0 < 2 ^ n := Nat.pow_pos (by decide)
  have hN2 : 2 ≤ 2 ^ n := by have := Nat.pow_le_pow_right (show 0 < 2 by decide) h1; simpa using this
  have hfs : fullS n + 1 = 2 ^ n := by unfold fullS; omega
  refine f34 ?_
  have m0 : iMkSl 33 0 [(.slice none 0 0)] h [] = some (sl 33 h.length 0 0, h ++ [.arr 33 []]) := rfl
  have sh : iBin .shl (.int .i64 1) (I n) = some (I (2 ^ n : Nat)) := shlK skI (show n < 11 by omega)
  have wf : IntKind.wrap .i64 (((2 ^ n : Nat) : Int) - 1) = ((difS (fullS n) 0 : Nat) : Int) := by
    have e : difS (fullS n) 0 = fullS n := by
      apply Nat.eq_of_testBit_eq
      intro i
      rw [difS_bit]; simp
    rw [e, wrap64 (by omega) (by omega)]; omega
  simp only [T34, hj.len, hn, OP_some, m0, OH_some, sh, bin_sub, wf]
  have x0 : EX h (h ++ [.arr 33 []]) := EX.append _ _
  have k0 : (h ++ [IObj.arr 33 []])[h.length]? = some (.arr 33 []) := get_last
  generalize h ++ [IObj.arr 33 []] = g0 at x0 k0 ⊢
  refine loopL (σ := Nat × List Nat × Value × List Value × Heap) (fun q => [q.2.2.1, I (difS (fullS n) q.1 : Nat)]) (fun q => q.2.2.2.2)
    (fun q => (q.1 < 2 ^ n ∧ clB bs n q.1 = true) ∧ (∀ r, SidP bs js n q.1 r → SidP bs js n 0 (q.2.1 ++ r)) ∧ EX h q.2.2.2.2 ∧ OL h.length q.2.2.2.2 q.2.2.1 q.2.2.2.1 (q.2.1.map fun s => listS s 10) ∧ q.2.1.length ≤ cardS q.1 n) (fun q => 2 ^ n - q.1)
    (0, [], sl 33 h.length 0 0, [], g0) rfl rfl ⟨⟨hpos, clB_zero bs n⟩, fun r hr => hr, x0, ⟨.inr ⟨h.length, Nat.le_refl _, rfl, k0⟩, rfl, fun w hw => by simp at hw, fun i w l hh => by simp at hh⟩, Nat.zero_le _⟩ ?_
  rintro ⟨d, os, vo, ws, g⟩ ⟨⟨hd, hcl⟩, hsid, xg, hol, hlen⟩ L1 hL1
  simp only at hd hcl hsid xg hol hlen hL1 ⊢
  have hdl : difS (fullS n) d < 2 ^ n := Nat.lt_of_le_of_lt (difS_le _ _) (fullS_lt n)
  rw [q34z6]
  have ed : decide ((0 : Int) < ((difS (fullS n) d : Nat) : Int)) = decide (d ≠ fullS n) := by
    rw [decide_eq_decide, ← difS_full hd]; omega
  simp only [bin_gtr, OP_some, ed]
  refine IfP_of (fun hne => ?_) fun heq => ?_
  rotate_left
  · have hde : d = fullS n := by simpa using heq
    rw [q34z61]
    have := hsid [] hde
    rw [List.append_nil] at this
    exact hk os vo g xg this hol.ll
  have hne : d ≠ fullS n := of_decide_eq_true hne
  have hdf : d < fullS n := by omega
  -- all sets, in rising order
  refine loopL (σ := Nat × Nat × Nat) (fun q => [I q.2.1, I (wS js q.2.2), I (lS js q.2.2), I q.1]) (fun _ => g) (fun q => (1 ≤ q.1 ∧ q.1 ≤ 2 ^ n) ∧ Gath bs js n d q.1 q.2.1 q.2.2 ∧ q.2.1 < 2 ^ n ∧ q.2.2 < 2 ^ n) (fun q => 2 ^ n - q.1)
    (1, 0, 0) (by
      have e1 : wS js 0 = 0 := sumB_zero _ _
      have e2 : lS js 0 = 0 := sumB_zero _ _
      rw [e1, e2]; rfl) rfl ⟨⟨Nat.le_refl _, by omega⟩, Gath.start, hpos, hpos⟩ ?_
  rintro ⟨s, best, b⟩ ⟨⟨hs1, hs⟩, hga, hbest, hb2⟩ L2 hL2
  simp only at hs1 hs hga hbest hb2 hL2 ⊢
  rw [q34z14]
  simp only [sh, OP_some, bin_lss, IfP_dec]
  refine ⟨fun hlt => ?_, fun hge => ?_⟩
  · have hslt : s < 2 ^ n := by omega
    have hs0 : s ≠ 0 := by omega
    have nx : ∀ best' b' : Nat, Gath bs js n d (s + 1) best' b' → best' < 2 ^ n → b' < 2 ^ n → p34z47 Tryz.prog K vj vp (I n) vo (I (difS (fullS n) d : Nat)) (I best') (I (wS js b')) (I (lS js b')) (I s) L1 L2 g := by
      intro best' b' hg' h1' h2'
      rw [q34z47]
      simp only [bin_add, OP_some, inc s (by omega), true_and]
      exact hL2 (s + 1, best', b') ⟨⟨by show 1 ≤ s + 1; omega, by show s + 1 ≤ 2 ^ n; omega⟩, hg', h1', h2'⟩ (by show 2 ^ n - (s + 1) < 2 ^ n - s; omega)
    simp only [andNotD skI (show s < 1024 by omega) (show difS (fullS n) d < 1024 by omega), OP_some, bin_eql, iU]
    refine loopL (σ := Nat) (fun j => [B (okN bs (difS (fullS n) d) s j), I j]) (fun _ => g) (fun j => j ≤ n) (fun j => n - j) 0 rfl rfl (Nat.zero_le _) ?_
    intro j hjn L3 hL3
    have after : ∀ ok : Bool, ok = okN bs (difS (fullS n) d) s n → p34z36 Tryz.prog K vj vp (I n) vo (I (difS (fullS n) d : Nat)) (I best) (I (wS js b)) (I (lS js b)) (I s) (B ok) L1 L2 g := by
      intro ok hok
      rw [q34z36]
      simp only [un_not, OP_some]
      cases ok with
      | false =>
        simp only [Bool.not_false, IfP_true]
        refine nx best b (hga.skip fun hr => ?_) hbest hb2
        rw [(okN_iff v.is.lt hd hcl hslt hs0).2 hr] at hok
        cases hok
      | true =>
        have hr := (okN_iff v.is.lt hd hcl hslt hs0).1 hok.symm
        simp only [Bool.not_true, IfP_false]
        refine C36 (hj.mono xg) hn h10 hsm hslt ?_
        have b1 := mul_le (wS_le hsm s) (lS_le hsm b)
        have b2 := mul_le (wS_le hsm b) (lS_le hsm s)
        have w1 : IntKind.wrap .i64 (wS js s * lS js b) = wS js s * lS js b := wrap64 (by omega) (by omega)
        have w2 : IntKind.wrap .i64 (wS js b * lS js s) = wS js b * lS js s := wrap64 (by omega) (by omega)
        simp only [ext_tuple, pair0, pair1, OP_some, bin_eql, iU]
        rw [q34z43]
        by_cases b0 : best = 0
        · rw [decide_eq_true b0]
          simp only [GdP_tf]
          rw [q34z45]
          simp only [iPick_t, OP_some, IfP_true]
          exact nx s s (hga.take P h10 hr (.inl b0)) hslt hslt
        rw [decide_eq_false b0]
        simp only [GdP_ff, bin_mul, OP_some, w1, w2, bin_gtr]
        rw [q34z45]
        by_cases c1 : wS js b * lS js s < wS js s * lS js b
        · rw [decide_eq_true c1]
          simp only [iPick_f, OP_some, IfP_true]
          exact nx s s (hga.take P h10 hr (.inr c1)) hslt hslt
        rw [decide_eq_false c1]
        simp only [iPick_f, OP_some, IfP_false, bin_mul, w1, w2, bin_eql]
        by_cases c2 : wS js s * lS js b = wS js b * lS js s
        · rw [decide_eq_true c2]
          simp only [IfP_true, orK skI (show best < 1024 by omega) (show s < 1024 by omega), OP_some]
          exact nx _ b (hga.join hr b0 c2) (Nat.or_lt_two_pow hbest hslt) hb2
        · rw [decide_eq_false c2]
          simp only [IfP_false]
          exact nx best b (hga.pass b0 (by omega)) hbest hb2
    rw [q34z23]
    simp only [bin_lss, OP_some]
    rw [q34z27]
    by_cases hlj : j < n
    rotate_left
    · rw [decide_eq_false (show ¬ (j : Int) < (n : Int) by omega)]
      simp only [GdP_ft]
      rw [q34z29]
      simp only [iPick_f, OP_some, IfP_false]
      exact after _ (by rw [show j = n by omega])
    rw [decide_eq_true (show (j : Int) < (n : Int) by omega)]
    simp only [GdP_tt]
    rw [q34z29]
    simp only [iPick_t, OP_some]
    cases hok : okN bs (difS (fullS n) d) s j with
    | false =>
      simp only [IfP_false]
      refine after false ?_
      cases h9 : okN bs (difS (fullS n) d) s n with
      | false => rfl
      | true => rw [okN_le (by omega) h9] at hok; cases hok
    | true =>
      simp only [IfP_true, shrK skI (show j < 16 by omega), OP_some, bitAnd (show s < 1024 by omega), bin_eql, bit_nil]
      rw [q34z33]
      have fin : ∀ c : Bool, c = okN bs (difS (fullS n) d) s (j + 1) → (OP (iBin .add (I j) (.int .i64 (1))) fun x43 =>
          True ∧ L3 [B c, x43] g) := by
        intro c hc
        subst hc
        simp only [bin_add, OP_some, inc j (by omega), true_and]
        exact hL3 (j + 1) (by omega) (by omega)
      cases ht : s.testBit j with
      | false =>
        simp only [Bool.not_false, GdP_tf]
        rw [q34z35]
        simp only [iPick_t, OP_some]
        exact fin true (by simp [okN, hok, ht])
      | true =>
        simp only [Bool.not_true, GdP_ff]
        refine C79 (hp.mono xg) (by have := v.p40; omega) v.pairs h10 hlj ?_
        rw [← v.eq]
        have hba := v.is.getD_lt j
        have hand : bs.getD j 0 &&& difS (fullS n) d < 1024 := Nat.lt_of_le_of_lt Nat.and_le_left (by omega)
        simp only [andK skI (show bs.getD j 0 < 1024 by omega) (show difS (fullS n) d < 1024 by omega), andNotD skI hand (show s < 1024 by omega), OP_some, bin_eql, iU]
        rw [q34z35]
        simp only [iPick_f, OP_some]
        exact fin (decide (difS (bs.getD j 0 &&& difS (fullS n) d) s = 0)) (by simp [okN, hok, ht])
  · have hse : s = 2 ^ n := by omega
    subst hse
    have hS := hga.all P h10 v.is.lt hdf
    obtain ⟨t1, t2, t3⟩ := hS.step hd
    rw [q34z48]
    have m1 : iMkSl 3 0 [(.int .i64 (0))] g [] = some (sl 3 g.length 0 0, g ++ [.arr 3 []]) := rfl
    simp only [m1, OH_some]
    have xa : EX g (g ++ [.arr 3 []]) := EX.append _ _
    have ka : (g ++ [IObj.arr 3 []])[g.length]? = some (.arr 3 []) := get_last
    generalize g ++ [IObj.arr 3 []] = ga at xa ka ⊢
    refine loopL (σ := Nat × Value × Heap) (fun q => [q.2.1, I q.1]) (fun q => q.2.2) (fun q => q.1 ≤ n ∧ EX g q.2.2 ∧ OwnS g.length q.2.2 3 q.2.1 ((listS best q.1).map fun i : Nat => I i)) (fun q => n - q.1)
      (0, sl 3 g.length 0 0, ga) rfl rfl ⟨Nat.zero_le _, xa, .inr ⟨g.length, Nat.le_refl _, rfl, ka⟩⟩ ?_
    rintro ⟨j, w, g2⟩ ⟨hj2, x2, own⟩ L3 hL3
    simp only at hj2 x2 own hL3 ⊢
    have hll := listS_len best j
    rw [q34z53]
    simp only [bin_lss, OP_some, IfP_dec]
    refine ⟨fun hlt => ?_, fun hge => ?_⟩
    · have hjn : j < n := by omega
      simp only [shrK skI (show j < 16 by omega), OP_some, bitAnd (show best < 1024 by omega), bin_eql, bit_one]
      refine IfP_of (fun ht => ?_) fun ht => ?_
      · refine app1 own x2 (by simp; omega) (by simp [maxLen]; omega) rfl rfl ?_
        intro w' g3 x3 own'
        rw [q34z59]
        simp only [bin_add, OP_some, inc j (by omega), true_and]
        exact hL3 (j + 1, w', g3) ⟨by show j + 1 ≤ n; omega, x3, by
          show OwnS g.length g3 3 w' ((listS best (j + 1)).map fun i : Nat => I i)
          simp only [listS, ht, if_true, List.map_append, List.map_cons, List.map_nil]
          exact own'⟩ (by show n - (j + 1) < n - j; omega)
      · rw [q34z59]
        simp only [bin_add, OP_some, inc j (by omega), true_and]
        exact hL3 (j + 1, w, g2) ⟨by show j + 1 ≤ n; omega, x2, by
          show OwnS g.length g2 3 w ((listS best (j + 1)).map fun i : Nat => I i)
          simp only [listS, ht, Bool.false_eq_true, if_false]
          exact own⟩ (by show n - (j + 1) < n - j; omega)
    · have hje : j = n := by omega
      subst hje
      have hlist : listS best j = listS best 10 := by
        have key : ∀ k, listS best (j + k) = listS best j := by
          intro k
          induction k with
          | zero => rfl
          | succ k ih =>
            have hb9 : best.testBit (j + k) = false := by
              cases e : best.testBit (j + k) with
              | false => rfl
              | true => have := bit_lt hbest e; omega
            rw [show j + (k + 1) = j + k + 1 from rfl]
            simp only [listS, ih, hb9]
            simp
        rw [show 10 = j + (10 - j) by omega, key]
      rw [hlist] at own
      rw [q34z60]
      have hw : NS g2 w .i64 ((listS best 10).map fun i : Nat => (i : Int)) := by
        have hl10 := listS_len best 10
        rcases own with ⟨e1, e2⟩ | ⟨a, _, e2, e3⟩
        · have : listS best 10 = [] := by simpa using e2
          rw [this, e1]
          exact NS.nil g2 .i64
        · rw [e2, List.length_map]
          have := NS.arr (k := .i64) (e := 3) (i := a) (ns := (listS best 10).map fun i : Nat => (i : Int)) (h := g2) (by rw [e3, List.map_map]; rfl) (by simp [maxLen]; omega)
          rw [List.length_map] at this
          exact this
      have hol2 : OL h.length g2 vo ws (os.map fun s => listS s 10) := ⟨OwnS.keep hol.own fun d' n' hv hd' => x2.2 d' (hol.own.lt hv).2.1, hol.len, hol.sls, fun i x y hx hy => (hol.get i x y hx hy).mono x2⟩
      have hwl : ws.length ≤ 10 := by
        have := hol.len
        have := cardS_le d j
        rw [List.length_map] at *
        omega
      refine hol2.app (xg.trans x2) hw (by omega) ?_
      intro v' g3 x3 ho'
      simp only [andNotD skI (show difS (fullS j) d < 1024 by omega) (show best < 1024 by omega), OP_some, true_and, left_or]
      refine hL1 (d ||| best, os ++ [best], v', ws ++ [w], g3) ⟨⟨t2, hS.1.1.cl⟩, fun r hr => ?_, x3, by simpa using ho', ?_⟩ (by show 2 ^ j - (d ||| best) < 2 ^ j - d; omega)
      · have := hsid (best :: r) ⟨hS, hr⟩
        simpa using this
      · show (os ++ [best]).length ≤ cardS (d ||| best) j
        obtain ⟨i, hi⟩ := bit_of_ne hS.1.1.ne
        have hid : d.testBit i = false := by
          cases e : d.testBit i with
          | false => rfl
          | true =>
            have h9 : (d &&& best).testBit i = true := by rw [Nat.testBit_and, e, hi]; rfl
            rw [hS.1.1.apart] at h9
            simp at h9
        have := cardS_lt (s := d) (t := d ||| best) (fun k hk => by rw [Nat.testBit_or, hk]; rfl) hid (by rw [Nat.testBit_or, hi]; simp) (bit_lt hS.1.1.lt hi)
        simp
        omega

end Go.Proofs.YtelmdbpaoifmoaaGreat


namespace Go.Proofs.YtelmdbpaoifmoaaGreat
open Go.Sim

section
variable {h : Heap} {id : Nat}

abbrev hb (h : Heap) (id : Nat) (xs : List UInt8) : Heap := h.set id (.arr 5 (xs.map cv))

theorem hb_get (hid : id < h.length) (xs : List UInt8) : (hb h id xs)[id]? = some (.arr 5 (xs.map cv)) := by simp [hb, hid]

theorem hb_load (hid : id < h.length) {xs : List UInt8} {j : Nat} {c : UInt8} (hj : xs[j]? = some c) : iLoad false 1 (hb h id xs) (pt id j) = some (cv c) := by
  simp [iLoad, objCells, hb_get hid, iPart, hj]

theorem hb_store (hid : id < h.length) {xs : List UInt8} {j : Nat} (c : UInt8) (hj : j < xs.length) : oStore 1 (hb h id xs) (pt id j) (cv c) = some (undef, hb h id (xs.set j c)) := by
  rw [store_at (hb_get hid xs) (by simpa using hj) rfl rfl]
  simp [hb, List.map_set]

end

end Go.Proofs.YtelmdbpaoifmoaaGreat


namespace Go.Proofs.YtelmdbpaoifmoaaGreat
open Go.Sim
variable (P : Program) (K : VK)
/-! F105: pommel/num.Of -/
noncomputable def c105z5 : ICode := .seq (.ops none [⟨(some 10), .p (.mv (.tmp 0))⟩,
 ⟨(some 11), .p (.bin .lss (.tmp 10) (.const (.int .i64 (0))))⟩,
 ⟨(some 12), .p (.mv (.tmp 3))⟩,
 ⟨(some 13), .p (.conv .u32 (.tmp 12))⟩,
 ⟨(some 14), .p (.mv (.tmp 3))⟩,
 ⟨(some 15), .p (.bin .shr (.tmp 14) (.const (.int .u64 (32))))⟩,
 ⟨(some 16), .p (.conv .u32 (.tmp 15))⟩,
 ⟨(some 17), .e (.mkSl 177 2 [(.int .u32 (0))] [(0, 1, (.tmp 13)), (1, 1, (.tmp 16))])⟩,
 ⟨(some 18), .call 118 [(.tmp 17)]⟩,
 ⟨(some 19), .call 117 [(.tmp 11), (.tmp 18)]⟩,
 ⟨none, .e (.store 2 (.tmp 2) (.tmp 19))⟩])
 (.ret)
noncomputable def c105 : ICode := .seq (.ops none [⟨(some 2), .e (.alloc 105 [(.bool false), (.slice none 0 0)])⟩])
 (.seq (.ops none [⟨(some 4), .p (.mv (.tmp 0))⟩,
 ⟨(some 5), .p (.conv .u64 (.tmp 4))⟩,
 ⟨(some 3), .p (.mv (.tmp 5))⟩])
 (.seq (.seq (.ops none [⟨(some 6), .p (.mv (.tmp 0))⟩,
 ⟨(some 7), .p (.bin .lss (.tmp 6) (.const (.int .i64 (0))))⟩])
 (.cond (.tmp 7) (.ops none [⟨(some 8), .p (.mv (.tmp 3))⟩,
 ⟨(some 9), .p (.un .neg (.tmp 8))⟩,
 ⟨(some 3), .p (.mv (.tmp 9))⟩])
 (.skip)))
 (.cut [0, 2, 3] c105z5)))
theorem k105 : compFn Tryz.prog 105 [[], [], [], [0, 2, 3], []] = some (20, c105, [.cell true 2 2]) := by kernel_rfl
def K105z0 (_P : Program) (K : VK) : Kont := bodyP [.cell true 2 2] K
def p105z5 (n0 x2 u3 : Value) (h : Heap) : Prop := CutP (iwpP P c105z5 (K105z0 P K)) [0, 2, 3] [n0, x2, u3] h
theorem q105z5 (n0 x2 u3 : Value) (h : Heap) : p105z5 P K n0 x2 u3 h =
 (OP (iBin .lss n0 (.int .i64 (0))) fun x11 =>
 OP (iConv .u32 u3) fun x13 =>
 OP (iBin .shr u3 (.int .u64 (32))) fun x15 =>
 OP (iConv .u32 x15) fun x16 =>
 OH (iMkSl 177 2 [(.int .u32 (0))] h [(0, 1, x13), (1, 1, x16)]) fun x17 h_1 =>
 CallP P 118 [x17] h_1 fun x18 h_2 =>
 CallP P 117 [x11, x18] h_2 fun x19 h_3 =>
 OH (oStore 2 h_3 x2 x19) fun _ h_4 =>
 OP (iLoad true 2 h_4 x2) fun r0 =>
 K r0 h_4) := (CutP_def _ _ _ _).trans (by kernel_rfl)
def T105 (n0 : Value) (h : Heap) : Prop :=
 OH (iAlloc 105 [(.bool false), (.slice none 0 0)] h) fun x2 h_1 =>
 OP (iConv .u64 n0) fun x5 =>
 OP (iBin .lss n0 (.int .i64 (0))) fun x7 =>
 IfP x7
 (OP (iUn .neg x5) fun x9 =>
 p105z5 P K n0 x2 x9 h_1)
 (p105z5 P K n0 x2 x5 h_1)
theorem e105 (n0 : Value) (h : Heap) : iwpP P c105 (bodyP [.cell true 2 2] K) (frame0 [n0]) h = T105 P K n0 h := by kernel_rfl
theorem f105 {K : VK} {n0 : Value} {h : Heap} (H : T105 Tryz.prog K n0 h) : CallP Tryz.prog 105 [n0] h K :=
 callP_intro k105 (Nat.le_of_ble_eq_true rfl) ((e105 Tryz.prog K n0 h).mpr H)
/-! F107: (pommel/num.Int).Mul -/
noncomputable def c107 : ICode := .seq (.ops none [⟨(some 2), .e (.box 105 (.tmp 0))⟩,
 ⟨(some 3), .e (.box 105 (.tmp 1))⟩,
 ⟨(some 4), .e (.alloc 105 [(.bool false), (.slice none 0 0)])⟩])
 (.seq (.dops [(none, [⟨(some 5), .p (.fadr 0 (.tmp 2)), 0⟩,
 ⟨(some 6), .l (.load false 1 (.tmp 5)), 1⟩,
 ⟨(some 7), .p (.fadr 0 (.tmp 3)), 0⟩,
 ⟨(some 8), .l (.load false 1 (.tmp 7)), 4⟩,
 ⟨(some 9), .p (.eqb true (.tmp 6) (.tmp 8)), 15⟩,
 ⟨(some 10), .p (.fadr 1 (.tmp 2)), 0⟩,
 ⟨(some 11), .l (.load false 1 (.tmp 10)), 32⟩,
 ⟨(some 12), .p (.fadr 1 (.tmp 3)), 0⟩,
 ⟨(some 13), .l (.load false 1 (.tmp 12)), 128⟩,
 ⟨(some 14), .call 122 [(.tmp 11), (.tmp 13)], 480⟩,
 ⟨(some 15), .call 117 [(.tmp 9), (.tmp 14)], 1023⟩,
 ⟨none, .e (.store 2 (.tmp 4) (.tmp 15)), 2047⟩])])
 (.ret))
theorem k107 : compFn Tryz.prog 107 [[], []] = some (16, c107, [.cell true 2 4]) := by kernel_rfl
def T107 (a0 b1 : Value) (h : Heap) : Prop :=
 OH (iBox 105 h a0) fun a2 h_1 =>
 OH (iBox 105 h_1 b1) fun b3 h_2 =>
 OH (iAlloc 105 [(.bool false), (.slice none 0 0)] h_2) fun x4 h_3 =>
 OP (iFadr 0 a2) fun x5 =>
 OP (iLoad false 1 h_3 x5) fun x6 =>
 (True) ∧
 OP (iFadr 0 b3) fun x7 =>
 OP (iLoad false 1 h_3 x7) fun x8 =>
 (True) ∧
 OP (iEqb true x6 x8) fun x9 =>
 OP (iFadr 1 a2) fun x10 =>
 OP (iLoad false 1 h_3 x10) fun x11 =>
 (True) ∧
 OP (iFadr 1 b3) fun x12 =>
 OP (iLoad false 1 h_3 x12) fun x13 =>
 (True) ∧
 CallP P 122 [x11, x13] h_3 fun x14 h_4 =>
 (iLoad false 1 h_4 x5 = some x6 ∧ iLoad false 1 h_4 x7 = some x8 ∧ True) ∧
 CallP P 117 [x9, x14] h_4 fun x15 h_5 =>
 (True) ∧
 OH (oStore 2 h_5 x4 x15) fun _ h_6 =>
 (True) ∧
 OP (iLoad true 2 h_6 x4) fun r0 =>
 K r0 h_6
theorem e107 (a0 b1 : Value) (h : Heap) : iwpP P c107 (bodyP [.cell true 2 4] K) (frame0 [a0, b1]) h = T107 P K a0 b1 h := by kernel_rfl
theorem f107 {K : VK} {a0 b1 : Value} {h : Heap} (H : T107 Tryz.prog K a0 b1 h) : CallP Tryz.prog 107 [a0, b1] h K :=
 callP_intro k107 (Nat.le_of_ble_eq_true rfl) ((e107 Tryz.prog K a0 b1 h).mpr H)
/-! F109: (pommel/num.Int).Sign -/
noncomputable def c109 : ICode := .seq (.ops none [⟨(some 1), .e (.box 105 (.tmp 0))⟩,
 ⟨(some 2), .p (.mv (.const (.int .i64 (0))))⟩])
 (.seq (.block 0 (.seq (.ops none [⟨(some 4), .p (.fadr 1 (.tmp 1))⟩,
 ⟨(some 5), .l (.load false 1 (.tmp 4))⟩,
 ⟨(some 6), .p (.lenSl (.tmp 5))⟩,
 ⟨(some 7), .p (.bin .eql (.tmp 6) (.const (.int .i64 (0))))⟩,
 ⟨(some 3), .p (.mv (.tmp 7))⟩])
 (.cond (.tmp 3) (.seq (.ops none [⟨(some 2), .p (.mv (.const (.int .i64 (0))))⟩])
 (.ret))
 (.seq (.ops none [⟨(some 9), .p (.fadr 0 (.tmp 1))⟩,
 ⟨(some 10), .l (.load false 1 (.tmp 9))⟩,
 ⟨(some 8), .p (.mv (.tmp 10))⟩])
 (.cond (.tmp 8) (.seq (.ops none [⟨(some 2), .p (.mv (.const (.int .i64 (-1))))⟩])
 (.ret))
 (.skip))))))
 (.seq (.ops none [⟨(some 2), .p (.mv (.const (.int .i64 (1))))⟩])
 (.ret)))
theorem k109 : compFn Tryz.prog 109 [[], [], [], [], [], [], []] = some (11, c109, [.tmp 2]) := by kernel_rfl
def T109 (P : Program) (K : VK) (a0 : Value) (h : Heap) : Prop :=
 OH (iBox 105 h a0) fun a1 h_1 =>
 OP (iFadr 1 a1) fun x4 =>
 OP (iLoad false 1 h_1 x4) fun x5 =>
 OP (iLenSl x5) fun x6 =>
 OP (iBin .eql x6 (.int .i64 (0))) fun x7 =>
 IfP x7
 (K (.int .i64 (0)) h_1)
 (OP (iFadr 0 a1) fun x9 =>
 OP (iLoad false 1 h_1 x9) fun x10 =>
 IfP x10
 (K (.int .i64 (-1)) h_1)
 (K (.int .i64 (1)) h_1))
theorem e109 (a0 : Value) (h : Heap) : iwpP P c109 (bodyP [.tmp 2] K) (frame0 [a0]) h = T109 P K a0 h := by kernel_rfl
theorem f109 {K : VK} {a0 : Value} {h : Heap} (H : T109 Tryz.prog K a0 h) : CallP Tryz.prog 109 [a0] h K :=
 callP_intro k109 (Nat.le_of_ble_eq_true rfl) ((e109 Tryz.prog K a0 h).mpr H)
/-! F111: (pommel/num.Int).Cmp -/
noncomputable def c111 : ICode := .seq (.ops none [⟨(some 2), .e (.box 105 (.tmp 0))⟩,
 ⟨(some 3), .e (.box 105 (.tmp 1))⟩,
 ⟨(some 4), .p (.mv (.const (.int .i64 (0))))⟩])
 (.seq (.ops none [⟨(some 5), .l (.load true 2 (.tmp 2))⟩,
 ⟨(some 6), .l (.load true 2 (.tmp 3))⟩,
 ⟨(some 7), .call 127 [(.tmp 5), (.tmp 6)]⟩,
 ⟨(some 8), .call 109 [(.tmp 7)]⟩,
 ⟨(some 4), .p (.mv (.tmp 8))⟩])
 (.ret))
theorem k111 : compFn Tryz.prog 111 [[], []] = some (9, c111, [.tmp 4]) := by kernel_rfl
def T111 (a0 b1 : Value) (h : Heap) : Prop :=
 OH (iBox 105 h a0) fun a2 h_1 =>
 OH (iBox 105 h_1 b1) fun b3 h_2 =>
 OP (iLoad true 2 h_2 a2) fun x5 =>
 OP (iLoad true 2 h_2 b3) fun x6 =>
 CallP P 127 [x5, x6] h_2 fun x7 h_3 =>
 CallP P 109 [x7] h_3 fun x8 h_4 =>
 K x8 h_4
theorem e111 (a0 b1 : Value) (h : Heap) : iwpP P c111 (bodyP [.tmp 4] K) (frame0 [a0, b1]) h = T111 P K a0 b1 h := by kernel_rfl
theorem f111 {K : VK} {a0 b1 : Value} {h : Heap} (H : T111 Tryz.prog K a0 b1 h) : CallP Tryz.prog 111 [a0, b1] h K :=
 callP_intro k111 (Nat.le_of_ble_eq_true rfl) ((e111 Tryz.prog K a0 b1 h).mpr H)
/-! F112: pommel/num.FromInt -/
/-! F113: (pommel/num.Int).Add -/
noncomputable def c113 : ICode := .seq (.ops none [⟨(some 2), .e (.box 105 (.tmp 0))⟩,
 ⟨(some 3), .e (.box 105 (.tmp 1))⟩,
 ⟨(some 4), .e (.alloc 105 [(.bool false), (.slice none 0 0)])⟩])
 (.seq (.block 0 (.seq (.ops none [⟨(some 6), .p (.fadr 0 (.tmp 2))⟩,
 ⟨(some 7), .l (.load false 1 (.tmp 6))⟩,
 ⟨(some 8), .p (.fadr 0 (.tmp 3))⟩,
 ⟨(some 9), .l (.load false 1 (.tmp 8))⟩,
 ⟨(some 10), .p (.eqb false (.tmp 7) (.tmp 9))⟩,
 ⟨(some 5), .p (.mv (.tmp 10))⟩])
 (.cond (.tmp 5) (.seq (.dops [(none, [⟨(some 11), .p (.fadr 0 (.tmp 2)), 0⟩,
 ⟨(some 12), .l (.load false 1 (.tmp 11)), 1⟩,
 ⟨(some 13), .p (.fadr 1 (.tmp 2)), 0⟩,
 ⟨(some 14), .l (.load false 1 (.tmp 13)), 4⟩,
 ⟨(some 15), .p (.fadr 1 (.tmp 3)), 0⟩,
 ⟨(some 16), .l (.load false 1 (.tmp 15)), 16⟩,
 ⟨(some 17), .call 128 [(.tmp 14), (.tmp 16)], 60⟩,
 ⟨(some 18), .call 117 [(.tmp 12), (.tmp 17)], 127⟩,
 ⟨none, .e (.store 2 (.tmp 4) (.tmp 18)), 255⟩])])
 (.ret))
 (.seq (.ops none [⟨(some 20), .p (.fadr 1 (.tmp 2))⟩,
 ⟨(some 21), .l (.load false 1 (.tmp 20))⟩,
 ⟨(some 22), .p (.fadr 1 (.tmp 3))⟩,
 ⟨(some 23), .l (.load false 1 (.tmp 22))⟩,
 ⟨(some 24), .call 126 [(.tmp 21), (.tmp 23)]⟩,
 ⟨(some 25), .p (.bin .geq (.tmp 24) (.const (.int .i64 (0))))⟩,
 ⟨(some 19), .p (.mv (.tmp 25))⟩])
 (.cond (.tmp 19) (.seq (.dops [(none, [⟨(some 26), .p (.fadr 0 (.tmp 2)), 0⟩,
 ⟨(some 27), .l (.load false 1 (.tmp 26)), 1⟩,
 ⟨(some 28), .p (.fadr 1 (.tmp 2)), 0⟩,
 ⟨(some 29), .l (.load false 1 (.tmp 28)), 4⟩,
 ⟨(some 30), .p (.fadr 1 (.tmp 3)), 0⟩,
 ⟨(some 31), .l (.load false 1 (.tmp 30)), 16⟩,
 ⟨(some 32), .call 129 [(.tmp 29), (.tmp 31)], 60⟩,
 ⟨(some 33), .call 117 [(.tmp 27), (.tmp 32)], 127⟩,
 ⟨none, .e (.store 2 (.tmp 4) (.tmp 33)), 255⟩])])
 (.ret))
 (.skip))))))
 (.seq (.dops [(none, [⟨(some 34), .p (.fadr 0 (.tmp 3)), 0⟩,
 ⟨(some 35), .l (.load false 1 (.tmp 34)), 1⟩,
 ⟨(some 36), .p (.fadr 1 (.tmp 3)), 0⟩,
 ⟨(some 37), .l (.load false 1 (.tmp 36)), 4⟩,
 ⟨(some 38), .p (.fadr 1 (.tmp 2)), 0⟩,
 ⟨(some 39), .l (.load false 1 (.tmp 38)), 16⟩,
 ⟨(some 40), .call 129 [(.tmp 37), (.tmp 39)], 60⟩,
 ⟨(some 41), .call 117 [(.tmp 35), (.tmp 40)], 127⟩,
 ⟨none, .e (.store 2 (.tmp 4) (.tmp 41)), 255⟩])])
 (.ret)))
theorem k113 : compFn Tryz.prog 113 [[], [], [], [], [], [], []] = some (42, c113, [.cell true 2 4]) := by kernel_rfl
def T113 (a0 b1 : Value) (h : Heap) : Prop :=
 OH (iBox 105 h a0) fun a2 h_1 =>
 OH (iBox 105 h_1 b1) fun b3 h_2 =>
 OH (iAlloc 105 [(.bool false), (.slice none 0 0)] h_2) fun x4 h_3 =>
 OP (iFadr 0 a2) fun x6 =>
 OP (iLoad false 1 h_3 x6) fun x7 =>
 OP (iFadr 0 b3) fun x8 =>
 OP (iLoad false 1 h_3 x8) fun x9 =>
 OP (iEqb false x7 x9) fun x10 =>
 IfP x10
 (OP (iFadr 0 a2) fun x11 =>
 OP (iLoad false 1 h_3 x11) fun x12 =>
 (True) ∧
 OP (iFadr 1 a2) fun x13 =>
 OP (iLoad false 1 h_3 x13) fun x14 =>
 (True) ∧
 OP (iFadr 1 b3) fun x15 =>
 OP (iLoad false 1 h_3 x15) fun x16 =>
 (True) ∧
 CallP P 128 [x14, x16] h_3 fun x17 h_4 =>
 (iLoad false 1 h_4 x11 = some x12 ∧ True) ∧
 CallP P 117 [x12, x17] h_4 fun x18 h_5 =>
 (True) ∧
 OH (oStore 2 h_5 x4 x18) fun _ h_6 =>
 (True) ∧
 OP (iLoad true 2 h_6 x4) fun r0 =>
 K r0 h_6)
 (OP (iFadr 1 a2) fun x20 =>
 OP (iLoad false 1 h_3 x20) fun x21 =>
 OP (iFadr 1 b3) fun x22 =>
 OP (iLoad false 1 h_3 x22) fun x23 =>
 CallP P 126 [x21, x23] h_3 fun x24 h_4 =>
 OP (iBin .geq x24 (.int .i64 (0))) fun x25 =>
 IfP x25
 (OP (iFadr 0 a2) fun x26 =>
 OP (iLoad false 1 h_4 x26) fun x27 =>
 (True) ∧
 OP (iFadr 1 a2) fun x28 =>
 OP (iLoad false 1 h_4 x28) fun x29 =>
 (True) ∧
 OP (iFadr 1 b3) fun x30 =>
 OP (iLoad false 1 h_4 x30) fun x31 =>
 (True) ∧
 CallP P 129 [x29, x31] h_4 fun x32 h_5 =>
 (iLoad false 1 h_5 x26 = some x27 ∧ True) ∧
 CallP P 117 [x27, x32] h_5 fun x33 h_6 =>
 (True) ∧
 OH (oStore 2 h_6 x4 x33) fun _ h_7 =>
 (True) ∧
 OP (iLoad true 2 h_7 x4) fun r0 =>
 K r0 h_7)
 (OP (iFadr 0 b3) fun x34 =>
 OP (iLoad false 1 h_4 x34) fun x35 =>
 (True) ∧
 OP (iFadr 1 b3) fun x36 =>
 OP (iLoad false 1 h_4 x36) fun x37 =>
 (True) ∧
 OP (iFadr 1 a2) fun x38 =>
 OP (iLoad false 1 h_4 x38) fun x39 =>
 (True) ∧
 CallP P 129 [x37, x39] h_4 fun x40 h_5 =>
 (iLoad false 1 h_5 x34 = some x35 ∧ True) ∧
 CallP P 117 [x35, x40] h_5 fun x41 h_6 =>
 (True) ∧
 OH (oStore 2 h_6 x4 x41) fun _ h_7 =>
 (True) ∧
 OP (iLoad true 2 h_7 x4) fun r0 =>
 K r0 h_7))
theorem e113 (a0 b1 : Value) (h : Heap) : iwpP P c113 (bodyP [.cell true 2 4] K) (frame0 [a0, b1]) h = T113 P K a0 b1 h := by kernel_rfl
theorem f113 {K : VK} {a0 b1 : Value} {h : Heap} (H : T113 Tryz.prog K a0 b1 h) : CallP Tryz.prog 113 [a0, b1] h K :=
 callP_intro k113 (Nat.le_of_ble_eq_true rfl) ((e113 Tryz.prog K a0 b1 h).mpr H)
/-! F114: pommel/num.byWord -/
noncomputable def c114z7 : ICode := .seq (.seq (.ops none [⟨(some 16), .p (.mv (.tmp 8))⟩,
 ⟨(some 17), .p (.bin .geq (.tmp 16) (.const (.int .i64 (0))))⟩])
 (.cond (.tmp 17) (.skip)
 (.exit 0)))
 (.seq (.block 1 (.seq (.ops none [⟨(some 20), .p (.mv (.tmp 7))⟩,
 ⟨(some 21), .p (.bin .shl (.tmp 20) (.const (.int .u64 (32))))⟩,
 ⟨(some 22), .p (.mv (.tmp 0))⟩,
 ⟨(some 23), .p (.mv (.tmp 8))⟩,
 ⟨(some 24), .p (.adrSl 1 (.tmp 22) (.tmp 23))⟩,
 ⟨(some 25), .l (.load false 1 (.tmp 24))⟩,
 ⟨(some 26), .p (.conv .u64 (.tmp 25))⟩,
 ⟨(some 27), .p (.bin .or (.tmp 21) (.tmp 26))⟩,
 ⟨(some 9), .p (.mv (.tmp 27))⟩])
 (.dops [(none, [⟨(some 28), .p (.mv (.tmp 6)), 0⟩,
 ⟨(some 29), .p (.mv (.tmp 8)), 0⟩,
 ⟨(some 30), .p (.mv (.tmp 9)), 0⟩,
 ⟨(some 31), .p (.mv (.tmp 1)), 0⟩,
 ⟨(some 32), .p (.conv .u64 (.tmp 31)), 8⟩,
 ⟨(some 33), .p (.bin .quo (.tmp 30) (.tmp 32)), 28⟩,
 ⟨(some 34), .p (.conv .u32 (.tmp 33)), 60⟩,
 ⟨(some 35), .p (.mv (.tmp 9)), 0⟩,
 ⟨(some 36), .p (.mv (.tmp 1)), 0⟩,
 ⟨(some 37), .p (.conv .u64 (.tmp 36)), 256⟩,
 ⟨(some 38), .p (.bin .rem (.tmp 35) (.tmp 37)), 896⟩,
 ⟨(some 39), .p (.adrSl 1 (.tmp 28) (.tmp 29)), 127⟩,
 ⟨none, .e (.store 1 (.tmp 39) (.tmp 34)), 2175⟩,
 ⟨(some 7), .p (.mv (.tmp 38)), 8191⟩])])))
 (.ops none [⟨(some 18), .p (.mv (.tmp 8))⟩,
 ⟨(some 19), .p (.bin .sub (.tmp 18) (.const (.int .i64 (1))))⟩,
 ⟨(some 8), .p (.mv (.tmp 19))⟩]))
noncomputable def c114z13 : ICode := .seq (.ops none [⟨(some 40), .p (.mv (.tmp 6))⟩,
 ⟨(some 41), .call 118 [(.tmp 40)]⟩,
 ⟨(some 42), .p (.mv (.tmp 7))⟩,
 ⟨(some 43), .p (.conv .u32 (.tmp 42))⟩,
 ⟨(some 4), .p (.mv (.tmp 41))⟩,
 ⟨(some 5), .p (.mv (.tmp 43))⟩])
 (.ret)
noncomputable def c114z4 : ICode := .cut [6, 7] c114z13
noncomputable def c114 : ICode := .seq (.ops none [⟨(some 4), .p (.mv (.const (.slice none 0 0)))⟩,
 ⟨(some 5), .p (.mv (.const (.int .u32 (0))))⟩])
 (.seq (.ops none [⟨(some 10), .p (.mv (.tmp 0))⟩,
 ⟨(some 11), .p (.lenSl (.tmp 10))⟩,
 ⟨(some 12), .e (.make 177 4 [(.int .u32 (0))] (.tmp 11) (.tmp 11))⟩,
 ⟨(some 6), .p (.mv (.tmp 12))⟩])
 (.seq (.ops none [⟨(some 7), .p (.mv (.const (.int .u64 (0))))⟩])
 (.seq (.seq (.ops none [⟨(some 13), .p (.mv (.tmp 0))⟩,
 ⟨(some 14), .p (.lenSl (.tmp 13))⟩,
 ⟨(some 15), .p (.bin .sub (.tmp 14) (.const (.int .i64 (1))))⟩,
 ⟨(some 8), .p (.mv (.tmp 15))⟩])
 (.block 0 (.loop [0, 1, 6] [7, 8] c114z7))) c114z4)))
theorem k114 : compFn Tryz.prog 114 [[], [], [], [], [0, 1, 6], [7, 8], [], [], [], [], [6, 7], []] = some (44, c114, [.tmp 4, .tmp 5]) := by kernel_rfl
def K114z0 (_P : Program) (K : VK) : Kont := bodyP [.tmp 4, .tmp 5] K
def K114z4 : Kont := thenK (iwpP P c114z4 (K114z0 P K)) (K114z0 P K)
def K114z6 : Kont := inBlockK 0 (K114z4 P K)
def K114z7 (a0 w1 out6 : Value) (L1 : LK) : Kont := thenK (fun f' h'' => (([0, 1, 6] : List Nat).map f' : List Value) = [a0, w1, out6] ∧ L1 (([7, 8] : List Nat).map f') h'') (K114z6 P K)
def p114z7 (a0 w1 out6 : Value) (L1 : LK) (xs : List Value) (h : Heap) : Prop := CutP (iwpP P c114z7 (K114z7 P K a0 w1 out6 L1)) ([0, 1, 6] ++ [7, 8]) ([a0, w1, out6] ++ xs) h
def p114z13 (out6 rest7 : Value) (h : Heap) : Prop := CutP (iwpP P c114z13 (K114z0 P K)) [6, 7] [out6, rest7] h
theorem q114z7 (a0 w1 out6 : Value) (L1 : LK) (rest7 i8 : Value) (h : Heap) : p114z7 P K a0 w1 out6 L1 [rest7, i8] h =
 (OP (iBin .geq i8 (.int .i64 (0))) fun x17 =>
 IfP x17
 (OP (iBin .shl rest7 (.int .u64 (32))) fun x21 =>
 OP (iAdrSl 1 a0 i8) fun x24 =>
 OP (iLoad false 1 h x24) fun x25 =>
 OP (iConv .u64 x25) fun x26 =>
 OP (iBin .or x21 x26) fun x27 =>
 OP (iConv .u64 w1) fun x32 =>
 OP (iBin .quo x27 x32) fun x33 =>
 OP (iConv .u32 x33) fun x34 =>
 OP (iConv .u64 w1) fun x37 =>
 OP (iBin .rem x27 x37) fun x38 =>
 OP (iAdrSl 1 out6 i8) fun x39 =>
 OH (oStore 1 h x39 x34) fun _ h_1 =>
 (True) ∧
 OP (iBin .sub i8 (.int .i64 (1))) fun x19 =>
 ([a0, w1, out6] : List Value) = [a0, w1, out6] ∧ L1 [x38, x19] h_1)
 (p114z13 P K out6 rest7 h)) := (CutP_def _ _ _ _).trans (by kernel_rfl)
theorem q114z13 (out6 rest7 : Value) (h : Heap) : p114z13 P K out6 rest7 h =
 (CallP P 118 [out6] h fun x41 h_1 =>
 OP (iConv .u32 rest7) fun x43 =>
 K (.tuple #[x41, x43]) h_1) := (CutP_def _ _ _ _).trans (by kernel_rfl)
def T114 (a0 w1 : Value) (h : Heap) : Prop :=
 OP (iLenSl a0) fun x11 =>
 OH (iMake 177 4 [(.int .u32 (0))] h x11 x11) fun x12 h_1 =>
 OP (iLenSl a0) fun x14 =>
 OP (iBin .sub x14 (.int .i64 (1))) fun x15 =>
 LoopP [(.int .u64 (0)), x15] h_1 fun L1 xs hx =>
 p114z7 P K a0 w1 x12 L1 xs hx
theorem e114 (a0 w1 : Value) (h : Heap) : iwpP P c114 (bodyP [.tmp 4, .tmp 5] K) (frame0 [a0, w1]) h = T114 P K a0 w1 h := by kernel_rfl
theorem f114 {K : VK} {a0 w1 : Value} {h : Heap} (H : T114 Tryz.prog K a0 w1 h) : CallP Tryz.prog 114 [a0, w1] h K :=
 callP_intro k114 (Nat.le_of_ble_eq_true rfl) ((e114 Tryz.prog K a0 w1 h).mpr H)
/-! F115: slices.Reverse[[]byte,byte] -/
noncomputable def c115z3 : ICode := .seq (.seq (.ops none [⟨(some 7), .p (.mv (.tmp 2))⟩,
 ⟨(some 8), .p (.mv (.tmp 3))⟩,
 ⟨(some 9), .p (.bin .lss (.tmp 7) (.tmp 8))⟩])
 (.cond (.tmp 9) (.skip)
 (.exit 0)))
 (.seq (.block 1 (.dops [(none, [⟨(some 14), .p (.mv (.tmp 0)), 0⟩,
 ⟨(some 15), .p (.mv (.tmp 2)), 0⟩,
 ⟨(some 16), .p (.mv (.tmp 0)), 0⟩,
 ⟨(some 17), .p (.mv (.tmp 3)), 0⟩,
 ⟨(some 18), .p (.mv (.tmp 0)), 0⟩,
 ⟨(some 19), .p (.mv (.tmp 3)), 0⟩,
 ⟨(some 20), .p (.adrSl 1 (.tmp 18) (.tmp 19)), 48⟩,
 ⟨(some 21), .l (.load false 1 (.tmp 20)), 112⟩,
 ⟨(some 22), .p (.mv (.tmp 0)), 0⟩,
 ⟨(some 23), .p (.mv (.tmp 2)), 0⟩,
 ⟨(some 24), .p (.adrSl 1 (.tmp 22) (.tmp 23)), 768⟩,
 ⟨(some 25), .l (.load false 1 (.tmp 24)), 1792⟩,
 ⟨(some 26), .p (.adrSl 1 (.tmp 14) (.tmp 15)), 4083⟩,
 ⟨none, .e (.store 1 (.tmp 26) (.tmp 21)), 8179⟩,
 ⟨(some 27), .p (.adrSl 1 (.tmp 16) (.tmp 17)), 16383⟩,
 ⟨none, .e (.store 1 (.tmp 27) (.tmp 25)), 32767⟩])]))
 (.ops none [⟨(some 10), .p (.mv (.tmp 2))⟩,
 ⟨(some 11), .p (.bin .add (.tmp 10) (.const (.int .i64 (1))))⟩,
 ⟨(some 12), .p (.mv (.tmp 3))⟩,
 ⟨(some 13), .p (.bin .sub (.tmp 12) (.const (.int .i64 (1))))⟩,
 ⟨(some 2), .p (.mv (.tmp 11))⟩,
 ⟨(some 3), .p (.mv (.tmp 13))⟩]))
noncomputable def c115 : ICode := .seq (.ops none [⟨(some 4), .p (.mv (.tmp 0))⟩,
 ⟨(some 5), .p (.lenSl (.tmp 4))⟩,
 ⟨(some 6), .p (.bin .sub (.tmp 5) (.const (.int .i64 (1))))⟩,
 ⟨(some 2), .p (.mv (.const (.int .i64 (0))))⟩,
 ⟨(some 3), .p (.mv (.tmp 6))⟩])
 (.block 0 (.loop [0] [2, 3] c115z3))
theorem k115 : compFn Tryz.prog 115 [[], [0], [2, 3], [], [], []] = some (28, c115, []) := by kernel_rfl
def K115z0 (_P : Program) (K : VK) : Kont := bodyP [] K
def K115z2 : Kont := inBlockK 0 (K115z0 P K)
def K115z3 (s0 : Value) (L1 : LK) : Kont := thenK (fun f' h'' => (([0] : List Nat).map f' : List Value) = [s0] ∧ L1 (([2, 3] : List Nat).map f') h'') (K115z2 P K)
def p115z3 (s0 : Value) (L1 : LK) (xs : List Value) (h : Heap) : Prop := CutP (iwpP P c115z3 (K115z3 P K s0 L1)) ([0] ++ [2, 3]) ([s0] ++ xs) h
theorem q115z3 (s0 : Value) (L1 : LK) (i2 j3 : Value) (h : Heap) : p115z3 P K s0 L1 [i2, j3] h =
 (OP (iBin .lss i2 j3) fun x9 =>
 IfP x9
 (OP (iAdrSl 1 s0 j3) fun x20 =>
 OP (iLoad false 1 h x20) fun x21 =>
 (True) ∧
 OP (iAdrSl 1 s0 i2) fun x24 =>
 OP (iLoad false 1 h x24) fun x25 =>
 (True) ∧
 OP (iAdrSl 1 s0 i2) fun x26 =>
 OH (oStore 1 h x26 x21) fun _ h_1 =>
 (True) ∧
 OP (iAdrSl 1 s0 j3) fun x27 =>
 OH (oStore 1 h_1 x27 x25) fun _ h_2 =>
 (True) ∧
 OP (iBin .add i2 (.int .i64 (1))) fun x11 =>
 OP (iBin .sub j3 (.int .i64 (1))) fun x13 =>
 ([s0] : List Value) = [s0] ∧ L1 [x11, x13] h_2)
 (K (.tuple #[]) h)) := (CutP_def _ _ _ _).trans (by kernel_rfl)
def T115 (s0 : Value) (h : Heap) : Prop :=
 OP (iLenSl s0) fun x5 =>
 OP (iBin .sub x5 (.int .i64 (1))) fun x6 =>
 LoopP [(.int .i64 (0)), x6] h fun L1 xs hx =>
 p115z3 P K s0 L1 xs hx
theorem e115 (s0 : Value) (h : Heap) : iwpP P c115 (bodyP [] K) (frame0 [s0]) h = T115 P K s0 h := by kernel_rfl
theorem f115 {K : VK} {s0 : Value} {h : Heap} (H : T115 Tryz.prog K s0 h) : CallP Tryz.prog 115 [s0] h K :=
 callP_intro k115 (Nat.le_of_ble_eq_true rfl) ((e115 Tryz.prog K s0 h).mpr H)
/-! F117: pommel/num.made -/
noncomputable def c117z6 : ICode := .ops none [⟨(some 10), .p (.pick (.tmp 6) (.tmp 9) (.const (.bool false)))⟩,
 ⟨(some 11), .p (.mv (.tmp 1))⟩,
 ⟨(some 12), .p (.build [(.bool false), (.slice none 0 0)] [(0, 1, (.tmp 10)), (1, 1, (.tmp 11))])⟩,
 ⟨none, .e (.store 2 (.tmp 4) (.tmp 12))⟩]
noncomputable def c117z4 : ICode := .seq (.ops (some (6, true)) [⟨(some 7), .p (.mv (.tmp 1))⟩,
 ⟨(some 8), .p (.lenSl (.tmp 7))⟩,
 ⟨(some 9), .p (.bin .gtr (.tmp 8) (.const (.int .i64 (0))))⟩])
 (.cut [1, 4, 6, 9] c117z6)
noncomputable def c117z2 : ICode := .ret
noncomputable def c117 : ICode := .seq (.ops none [⟨(some 4), .e (.alloc 105 [(.bool false), (.slice none 0 0)])⟩])
 (.seq (.seq (.ops none [⟨(some 5), .p (.mv (.tmp 0))⟩,
 ⟨(some 6), .p (.mv (.tmp 5))⟩])
 (.cut [1, 4, 6] c117z4)) c117z2)
theorem k117 : compFn Tryz.prog 117 [[], [1, 4, 6], [1, 4, 6, 9], []] = some (13, c117, [.cell true 2 4]) := by kernel_rfl
def K117z0 (_P : Program) (K : VK) : Kont := bodyP [.cell true 2 4] K
def K117z2 : Kont := thenK (iwpP P c117z2 (K117z0 P K)) (K117z0 P K)
def p117z4 (mag1 x4 x6 : Value) (h : Heap) : Prop := CutP (iwpP P c117z4 (K117z2 P K)) [1, 4, 6] [mag1, x4, x6] h
def p117z6 (mag1 x4 x6 x9 : Value) (h : Heap) : Prop := CutP (iwpP P c117z6 (K117z2 P K)) [1, 4, 6, 9] [mag1, x4, x6, x9] h
theorem q117z6 (mag1 x4 x6 x9 : Value) (h : Heap) : p117z6 P K mag1 x4 x6 x9 h =
 (OP (iPick x6 x9 (.bool false)) fun x10 =>
 OP (iBuild [(.bool false), (.slice none 0 0)] [(0, 1, x10), (1, 1, mag1)]) fun x12 =>
 OH (oStore 2 h x4 x12) fun _ h_1 =>
 OP (iLoad true 2 h_1 x4) fun r0 =>
 K r0 h_1) := (CutP_def _ _ _ _).trans (by kernel_rfl)
theorem q117z4 (mag1 x4 x6 : Value) (h : Heap) : p117z4 P K mag1 x4 x6 h =
 (GdP x6 true
 (OP (iLenSl mag1) fun x8 =>
 OP (iBin .gtr x8 (.int .i64 (0))) fun x9 =>
 p117z6 P K mag1 x4 x6 x9 h)
 (p117z6 P K mag1 x4 x6 undef h)) := (CutP_def _ _ _ _).trans (by kernel_rfl)
def T117 (neg0 mag1 : Value) (h : Heap) : Prop :=
 OH (iAlloc 105 [(.bool false), (.slice none 0 0)] h) fun x4 h_1 =>
 p117z4 P K mag1 x4 neg0 h_1
theorem e117 (neg0 mag1 : Value) (h : Heap) : iwpP P c117 (bodyP [.cell true 2 4] K) (frame0 [neg0, mag1]) h = T117 P K neg0 mag1 h := by kernel_rfl
theorem f117 {K : VK} {neg0 mag1 : Value} {h : Heap} (H : T117 Tryz.prog K neg0 mag1 h) : CallP Tryz.prog 117 [neg0, mag1] h K :=
 callP_intro k117 (Nat.le_of_ble_eq_true rfl) ((e117 Tryz.prog K neg0 mag1 h).mpr H)
/-! F118: pommel/num.trim -/
noncomputable def c118z10 : ICode := .ops none [⟨(some 14), .p (.pick (.tmp 6) (.tmp 13) (.const (.bool false)))⟩]
noncomputable def c118z8 : ICode := .seq (.ops (some (6, true)) [⟨(some 7), .p (.mv (.tmp 0))⟩,
 ⟨(some 8), .p (.mv (.tmp 0))⟩,
 ⟨(some 9), .p (.lenSl (.tmp 8))⟩,
 ⟨(some 10), .p (.bin .sub (.tmp 9) (.const (.int .i64 (1))))⟩,
 ⟨(some 11), .p (.adrSl 1 (.tmp 7) (.tmp 10))⟩,
 ⟨(some 12), .l (.load false 1 (.tmp 11))⟩,
 ⟨(some 13), .p (.bin .eql (.tmp 12) (.const (.int .u32 (0))))⟩])
 (.cut [0, 6, 13] c118z10)
noncomputable def c118z6 : ICode := .cond (.tmp 14) (.skip)
 (.exit 0)
noncomputable def c118z5 : ICode := .block 1 (.ops none [⟨(some 15), .p (.mv (.tmp 0))⟩,
 ⟨(some 16), .p (.mv (.tmp 0))⟩,
 ⟨(some 17), .p (.lenSl (.tmp 16))⟩,
 ⟨(some 18), .p (.bin .sub (.tmp 17) (.const (.int .i64 (1))))⟩,
 ⟨(some 19), .p (.slSl 177 1 (.tmp 15) none (some (.tmp 18)))⟩,
 ⟨(some 0), .p (.mv (.tmp 19))⟩])
noncomputable def c118z4 : ICode := .seq (.seq (.seq (.ops none [⟨(some 3), .p (.mv (.tmp 0))⟩,
 ⟨(some 4), .p (.lenSl (.tmp 3))⟩,
 ⟨(some 5), .p (.bin .gtr (.tmp 4) (.const (.int .i64 (0))))⟩,
 ⟨(some 6), .p (.mv (.tmp 5))⟩])
 (.cut [0, 6] c118z8)) c118z6) c118z5
noncomputable def c118z12 : ICode := .seq (.ops none [⟨(some 20), .p (.mv (.tmp 0))⟩,
 ⟨(some 2), .p (.mv (.tmp 20))⟩])
 (.ret)
noncomputable def c118z2 : ICode := .cut [0] c118z12
noncomputable def c118 : ICode := .seq (.ops none [⟨(some 2), .p (.mv (.const (.slice none 0 0)))⟩])
 (.seq (.block 0 (.loop [] [0] c118z4)) c118z2)
theorem k118 : compFn Tryz.prog 118 [[], [], [0], [0, 6], [0, 6, 13], [], [], [0], []] = some (21, c118, [.tmp 2]) := by kernel_rfl
def K118z0 (_P : Program) (K : VK) : Kont := bodyP [.tmp 2] K
def K118z2 : Kont := thenK (iwpP P c118z2 (K118z0 P K)) (K118z0 P K)
def K118z3 : Kont := inBlockK 0 (K118z2 P K)
def K118z4 (L1 : LK) : Kont := thenK (fun f' h'' => (([] : List Nat).map f' : List Value) = [] ∧ L1 (([0] : List Nat).map f') h'') (K118z3 P K)
def K118z5 (L1 : LK) : Kont := thenK (iwpP P c118z5 (K118z4 P K L1)) (K118z4 P K L1)
def K118z6 (L1 : LK) : Kont := thenK (iwpP P c118z6 (K118z5 P K L1)) (K118z5 P K L1)
def p118z4 (L1 : LK) (xs : List Value) (h : Heap) : Prop := CutP (iwpP P c118z4 (K118z4 P K L1)) ([] ++ [0]) ([] ++ xs) h
def p118z8 (x0 x6 : Value) (L1 : LK) (h : Heap) : Prop := CutP (iwpP P c118z8 (K118z6 P K L1)) [0, 6] [x0, x6] h
def p118z10 (x0 x6 x13 : Value) (L1 : LK) (h : Heap) : Prop := CutP (iwpP P c118z10 (K118z6 P K L1)) [0, 6, 13] [x0, x6, x13] h
def p118z12 (x0 : Value) (h : Heap) : Prop := CutP (iwpP P c118z12 (K118z0 P K)) [0] [x0] h
theorem q118z10 (x0 x6 x13 : Value) (L1 : LK) (h : Heap) : p118z10 P K x0 x6 x13 L1 h =
 (OP (iPick x6 x13 (.bool false)) fun x14 =>
 IfP x14
 (OP (iLenSl x0) fun x17 =>
 OP (iBin .sub x17 (.int .i64 (1))) fun x18 =>
 OP (iSlSl 177 1 x0 none (some x18)) fun x19 =>
 ([] : List Value) = [] ∧ L1 [x19] h)
 (p118z12 P K x0 h)) := (CutP_def _ _ _ _).trans (by kernel_rfl)
theorem q118z8 (x0 x6 : Value) (L1 : LK) (h : Heap) : p118z8 P K x0 x6 L1 h =
 (GdP x6 true
 (OP (iLenSl x0) fun x9 =>
 OP (iBin .sub x9 (.int .i64 (1))) fun x10 =>
 OP (iAdrSl 1 x0 x10) fun x11 =>
 OP (iLoad false 1 h x11) fun x12 =>
 OP (iBin .eql x12 (.int .u32 (0))) fun x13 =>
 p118z10 P K x0 x6 x13 L1 h)
 (p118z10 P K x0 x6 undef L1 h)) := (CutP_def _ _ _ _).trans (by kernel_rfl)
theorem q118z4 (L1 : LK) (x0 : Value) (h : Heap) : p118z4 P K L1 [x0] h =
 (OP (iLenSl x0) fun x4 =>
 OP (iBin .gtr x4 (.int .i64 (0))) fun x5 =>
 p118z8 P K x0 x5 L1 h) := (CutP_def _ _ _ _).trans (by kernel_rfl)
theorem q118z12 (x0 : Value) (h : Heap) : p118z12 P K x0 h =
 (K x0 h) := (CutP_def _ _ _ _).trans (by kernel_rfl)
def T118 (x0 : Value) (h : Heap) : Prop :=
 LoopP [x0] h fun L1 xs hx =>
 p118z4 P K L1 xs hx
theorem e118 (x0 : Value) (h : Heap) : iwpP P c118 (bodyP [.tmp 2] K) (frame0 [x0]) h = T118 P K x0 h := by kernel_rfl
theorem f118 {K : VK} {x0 : Value} {h : Heap} (H : T118 Tryz.prog K x0 h) : CallP Tryz.prog 118 [x0] h K :=
 callP_intro k118 (Nat.le_of_ble_eq_true rfl) ((e118 Tryz.prog K x0 h).mpr H)
/-! F119: (pommel/num.Int).Neg -/
noncomputable def c119 : ICode := .seq (.ops none [⟨(some 1), .e (.box 105 (.tmp 0))⟩,
 ⟨(some 2), .e (.alloc 105 [(.bool false), (.slice none 0 0)])⟩])
 (.seq (.ops none [⟨(some 3), .p (.fadr 0 (.tmp 1))⟩,
 ⟨(some 4), .l (.load false 1 (.tmp 3))⟩,
 ⟨(some 5), .p (.un .not (.tmp 4))⟩,
 ⟨(some 6), .p (.fadr 1 (.tmp 1))⟩,
 ⟨(some 7), .l (.load false 1 (.tmp 6))⟩,
 ⟨(some 8), .call 117 [(.tmp 5), (.tmp 7)]⟩,
 ⟨none, .e (.store 2 (.tmp 2) (.tmp 8))⟩])
 (.ret))
theorem k119 : compFn Tryz.prog 119 [[], []] = some (9, c119, [.cell true 2 2]) := by kernel_rfl
def T119 (a0 : Value) (h : Heap) : Prop :=
 OH (iBox 105 h a0) fun a1 h_1 =>
 OH (iAlloc 105 [(.bool false), (.slice none 0 0)] h_1) fun x2 h_2 =>
 OP (iFadr 0 a1) fun x3 =>
 OP (iLoad false 1 h_2 x3) fun x4 =>
 OP (iUn .not x4) fun x5 =>
 OP (iFadr 1 a1) fun x6 =>
 OP (iLoad false 1 h_2 x6) fun x7 =>
 CallP P 117 [x5, x7] h_2 fun x8 h_3 =>
 OH (oStore 2 h_3 x2 x8) fun _ h_4 =>
 OP (iLoad true 2 h_4 x2) fun r0 =>
 K r0 h_4
theorem e119 (a0 : Value) (h : Heap) : iwpP P c119 (bodyP [.cell true 2 2] K) (frame0 [a0]) h = T119 P K a0 h := by kernel_rfl
theorem f119 {K : VK} {a0 : Value} {h : Heap} (H : T119 Tryz.prog K a0 h) : CallP Tryz.prog 119 [a0] h K :=
 callP_intro k119 (Nat.le_of_ble_eq_true rfl) ((e119 Tryz.prog K a0 h).mpr H)
/-! F122: pommel/num.times -/
noncomputable def c122z16 : ICode := .seq (.ops none [⟨(some 28), .p (.bin .lss (.tmp 27) (.tmp 26))⟩])
 (.seq (.cond (.tmp 28) (.skip)
 (.exit 2))
 (.seq (.block 3 (.seq (.ops none [⟨(some 29), .p (.mv (.tmp 27))⟩,
 ⟨(some 30), .p (.adrSl 1 (.tmp 25) (.tmp 27))⟩,
 ⟨(some 31), .l (.load false 1 (.tmp 30))⟩,
 ⟨(some 9), .p (.mv (.tmp 29))⟩,
 ⟨(some 10), .p (.mv (.tmp 31))⟩])
 (.seq (.ops none [⟨(some 32), .p (.mv (.tmp 7))⟩,
 ⟨(some 33), .p (.conv .u64 (.tmp 32))⟩,
 ⟨(some 34), .p (.mv (.tmp 10))⟩,
 ⟨(some 35), .p (.conv .u64 (.tmp 34))⟩,
 ⟨(some 36), .p (.bin .mul (.tmp 33) (.tmp 35))⟩,
 ⟨(some 37), .p (.mv (.tmp 5))⟩,
 ⟨(some 38), .p (.mv (.tmp 6))⟩,
 ⟨(some 39), .p (.mv (.tmp 9))⟩,
 ⟨(some 40), .p (.bin .add (.tmp 38) (.tmp 39))⟩,
 ⟨(some 41), .p (.adrSl 1 (.tmp 37) (.tmp 40))⟩,
 ⟨(some 42), .l (.load false 1 (.tmp 41))⟩,
 ⟨(some 43), .p (.conv .u64 (.tmp 42))⟩,
 ⟨(some 44), .p (.bin .add (.tmp 36) (.tmp 43))⟩,
 ⟨(some 45), .p (.mv (.tmp 8))⟩,
 ⟨(some 46), .p (.bin .add (.tmp 44) (.tmp 45))⟩,
 ⟨(some 11), .p (.mv (.tmp 46))⟩])
 (.ops none [⟨(some 47), .p (.mv (.tmp 5))⟩,
 ⟨(some 48), .p (.mv (.tmp 6))⟩,
 ⟨(some 49), .p (.mv (.tmp 9))⟩,
 ⟨(some 50), .p (.bin .add (.tmp 48) (.tmp 49))⟩,
 ⟨(some 51), .p (.mv (.tmp 11))⟩,
 ⟨(some 52), .p (.conv .u32 (.tmp 51))⟩,
 ⟨(some 53), .p (.mv (.tmp 11))⟩,
 ⟨(some 54), .p (.bin .shr (.tmp 53) (.const (.int .u64 (32))))⟩,
 ⟨(some 55), .p (.adrSl 1 (.tmp 47) (.tmp 50))⟩,
 ⟨none, .e (.store 1 (.tmp 55) (.tmp 52))⟩,
 ⟨(some 8), .p (.mv (.tmp 54))⟩]))))
 (.ops none [⟨(some 56), .p (.bin .add (.tmp 27) (.const (.int .i64 (1))))⟩,
 ⟨(some 27), .p (.mv (.tmp 56))⟩])))
noncomputable def c122z23 : ICode := .ops none [⟨(some 57), .p (.mv (.tmp 5))⟩,
 ⟨(some 58), .p (.mv (.tmp 6))⟩,
 ⟨(some 59), .p (.mv (.tmp 1))⟩,
 ⟨(some 60), .p (.lenSl (.tmp 59))⟩,
 ⟨(some 61), .p (.bin .add (.tmp 58) (.tmp 60))⟩,
 ⟨(some 62), .p (.mv (.tmp 8))⟩,
 ⟨(some 63), .p (.conv .u32 (.tmp 62))⟩,
 ⟨(some 64), .p (.adrSl 1 (.tmp 57) (.tmp 61))⟩,
 ⟨none, .e (.store 1 (.tmp 64) (.tmp 63))⟩]
noncomputable def c122z13 : ICode := .cut [1, 5, 6, 8, 18, 19, 20] c122z23
noncomputable def c122z24 : ICode := .ops none [⟨(some 65), .p (.bin .add (.tmp 20) (.const (.int .i64 (1))))⟩,
 ⟨(some 20), .p (.mv (.tmp 65))⟩]
noncomputable def c122z9 : ICode := .cut [1, 5, 18, 19, 20] c122z24
noncomputable def c122z6 : ICode := .seq (.ops none [⟨(some 21), .p (.bin .lss (.tmp 20) (.tmp 19))⟩])
 (.seq (.cond (.tmp 21) (.skip)
 (.exit 0))
 (.seq (.block 1 (.seq (.ops none [⟨(some 22), .p (.mv (.tmp 20))⟩,
 ⟨(some 23), .p (.adrSl 1 (.tmp 18) (.tmp 20))⟩,
 ⟨(some 24), .l (.load false 1 (.tmp 23))⟩,
 ⟨(some 6), .p (.mv (.tmp 22))⟩,
 ⟨(some 7), .p (.mv (.tmp 24))⟩])
 (.seq (.ops none [⟨(some 8), .p (.mv (.const (.int .u64 (0))))⟩])
 (.seq (.seq (.ops none [⟨(some 25), .p (.mv (.tmp 1))⟩,
 ⟨(some 26), .p (.lenSl (.tmp 25))⟩,
 ⟨(some 27), .p (.mv (.const (.int .i64 (0))))⟩])
 (.block 2 (.loop [1, 5, 6, 7, 18, 19, 20, 25, 26] [8, 27] c122z16))) c122z13)))) c122z9))
noncomputable def c122z25 : ICode := .seq (.ops none [⟨(some 66), .p (.mv (.tmp 5))⟩,
 ⟨(some 67), .call 118 [(.tmp 66)]⟩,
 ⟨(some 4), .p (.mv (.tmp 67))⟩])
 (.ret)
noncomputable def c122z3 : ICode := .cut [5] c122z25
noncomputable def c122 : ICode := .seq (.ops none [⟨(some 4), .p (.mv (.const (.slice none 0 0)))⟩])
 (.seq (.ops none [⟨(some 12), .p (.mv (.tmp 0))⟩,
 ⟨(some 13), .p (.lenSl (.tmp 12))⟩,
 ⟨(some 14), .p (.mv (.tmp 1))⟩,
 ⟨(some 15), .p (.lenSl (.tmp 14))⟩,
 ⟨(some 16), .p (.bin .add (.tmp 13) (.tmp 15))⟩,
 ⟨(some 17), .e (.make 177 4 [(.int .u32 (0))] (.tmp 16) (.tmp 16))⟩,
 ⟨(some 5), .p (.mv (.tmp 17))⟩])
 (.seq (.seq (.ops none [⟨(some 18), .p (.mv (.tmp 0))⟩,
 ⟨(some 19), .p (.lenSl (.tmp 18))⟩,
 ⟨(some 20), .p (.mv (.const (.int .i64 (0))))⟩])
 (.block 0 (.loop [1, 5, 18, 19] [20] c122z6))) c122z3))
theorem k122 : compFn Tryz.prog 122 [[], [], [], [1, 5, 18, 19], [20], [], [], [], [], [], [1, 5, 6, 7, 18, 19, 20, 25, 26], [8, 27], [], [], [], [], [], [1, 5, 6, 8, 18, 19, 20], [1, 5, 18, 19, 20], [5], []] = some (68, c122, [.tmp 4]) := by kernel_rfl
def K122z0 (_P : Program) (K : VK) : Kont := bodyP [.tmp 4] K
def K122z3 : Kont := thenK (iwpP P c122z3 (K122z0 P K)) (K122z0 P K)
def K122z5 : Kont := inBlockK 0 (K122z3 P K)
def K122z6 (b1 out5 x18 x19 : Value) (L1 : LK) : Kont := thenK (fun f' h'' => (([1, 5, 18, 19] : List Nat).map f' : List Value) = [b1, out5, x18, x19] ∧ L1 (([20] : List Nat).map f') h'') (K122z5 P K)
def K122z9 (b1 out5 x18 x19 : Value) (L1 : LK) : Kont := thenK (iwpP P c122z9 (K122z6 P K b1 out5 x18 x19 L1)) (K122z6 P K b1 out5 x18 x19 L1)
def K122z10 (b1 out5 x18 x19 : Value) (L1 : LK) : Kont := inBlockK 1 (K122z9 P K b1 out5 x18 x19 L1)
def K122z13 (b1 out5 x18 x19 : Value) (L1 : LK) : Kont := thenK (iwpP P c122z13 (K122z10 P K b1 out5 x18 x19 L1)) (K122z10 P K b1 out5 x18 x19 L1)
def K122z15 (b1 out5 x18 x19 : Value) (L1 : LK) : Kont := inBlockK 2 (K122z13 P K b1 out5 x18 x19 L1)
def K122z16 (b1 out5 i6 x7 x18 x19 x20 x25 x26 : Value) (L1 L2 : LK) : Kont := thenK (fun f' h'' => (([1, 5, 6, 7, 18, 19, 20, 25, 26] : List Nat).map f' : List Value) = [b1, out5, i6, x7, x18, x19, x20, x25, x26] ∧ L2 (([8, 27] : List Nat).map f') h'') (K122z15 P K b1 out5 x18 x19 L1)
def p122z6 (b1 out5 x18 x19 : Value) (L1 : LK) (xs : List Value) (h : Heap) : Prop := CutP (iwpP P c122z6 (K122z6 P K b1 out5 x18 x19 L1)) ([1, 5, 18, 19] ++ [20]) ([b1, out5, x18, x19] ++ xs) h
def p122z16 (b1 out5 i6 x7 x18 x19 x20 x25 x26 : Value) (L1 L2 : LK) (xs : List Value) (h : Heap) : Prop := CutP (iwpP P c122z16 (K122z16 P K b1 out5 i6 x7 x18 x19 x20 x25 x26 L1 L2)) ([1, 5, 6, 7, 18, 19, 20, 25, 26] ++ [8, 27]) ([b1, out5, i6, x7, x18, x19, x20, x25, x26] ++ xs) h
def p122z23 (b1 out5 i6 carry8 x18 x19 x20 : Value) (L1 : LK) (h : Heap) : Prop := CutP (iwpP P c122z23 (K122z10 P K b1 out5 x18 x19 L1)) [1, 5, 6, 8, 18, 19, 20] [b1, out5, i6, carry8, x18, x19, x20] h
def p122z24 (b1 out5 x18 x19 x20 : Value) (L1 : LK) (h : Heap) : Prop := CutP (iwpP P c122z24 (K122z6 P K b1 out5 x18 x19 L1)) [1, 5, 18, 19, 20] [b1, out5, x18, x19, x20] h
def p122z25 (out5 : Value) (h : Heap) : Prop := CutP (iwpP P c122z25 (K122z0 P K)) [5] [out5] h
theorem q122z16 (b1 out5 i6 x7 x18 x19 x20 x25 x26 : Value) (L1 L2 : LK) (carry8 x27 : Value) (h : Heap) : p122z16 P K b1 out5 i6 x7 x18 x19 x20 x25 x26 L1 L2 [carry8, x27] h =
 (OP (iBin .lss x27 x26) fun x28 =>
 IfP x28
 (OP (iAdrSl 1 x25 x27) fun x30 =>
 OP (iLoad false 1 h x30) fun x31 =>
 OP (iConv .u64 x7) fun x33 =>
 OP (iConv .u64 x31) fun x35 =>
 OP (iBin .mul x33 x35) fun x36 =>
 OP (iBin .add i6 x27) fun x40 =>
 OP (iAdrSl 1 out5 x40) fun x41 =>
 OP (iLoad false 1 h x41) fun x42 =>
 OP (iConv .u64 x42) fun x43 =>
 OP (iBin .add x36 x43) fun x44 =>
 OP (iBin .add x44 carry8) fun x46 =>
 OP (iBin .add i6 x27) fun x50 =>
 OP (iConv .u32 x46) fun x52 =>
 OP (iBin .shr x46 (.int .u64 (32))) fun x54 =>
 OP (iAdrSl 1 out5 x50) fun x55 =>
 OH (oStore 1 h x55 x52) fun _ h_1 =>
 OP (iBin .add x27 (.int .i64 (1))) fun x56 =>
 ([b1, out5, i6, x7, x18, x19, x20, x25, x26] : List Value) = [b1, out5, i6, x7, x18, x19, x20, x25, x26] ∧ L2 [x54, x56] h_1)
 (p122z23 P K b1 out5 i6 carry8 x18 x19 x20 L1 h)) := (CutP_def _ _ _ _).trans (by kernel_rfl)
theorem q122z23 (b1 out5 i6 carry8 x18 x19 x20 : Value) (L1 : LK) (h : Heap) : p122z23 P K b1 out5 i6 carry8 x18 x19 x20 L1 h =
 (OP (iLenSl b1) fun x60 =>
 OP (iBin .add i6 x60) fun x61 =>
 OP (iConv .u32 carry8) fun x63 =>
 OP (iAdrSl 1 out5 x61) fun x64 =>
 OH (oStore 1 h x64 x63) fun _ h_1 =>
 p122z24 P K b1 out5 x18 x19 x20 L1 h_1) := (CutP_def _ _ _ _).trans (by kernel_rfl)
theorem q122z24 (b1 out5 x18 x19 x20 : Value) (L1 : LK) (h : Heap) : p122z24 P K b1 out5 x18 x19 x20 L1 h =
 (OP (iBin .add x20 (.int .i64 (1))) fun x65 =>
 ([b1, out5, x18, x19] : List Value) = [b1, out5, x18, x19] ∧ L1 [x65] h) := (CutP_def _ _ _ _).trans (by kernel_rfl)
theorem q122z6 (b1 out5 x18 x19 : Value) (L1 : LK) (x20 : Value) (h : Heap) : p122z6 P K b1 out5 x18 x19 L1 [x20] h =
 (OP (iBin .lss x20 x19) fun x21 =>
 IfP x21
 (OP (iAdrSl 1 x18 x20) fun x23 =>
 OP (iLoad false 1 h x23) fun x24 =>
 OP (iLenSl b1) fun x26 =>
 LoopP [(.int .u64 (0)), (.int .i64 (0))] h fun L2 xs hx =>
 p122z16 P K b1 out5 x20 x24 x18 x19 x20 b1 x26 L1 L2 xs hx)
 (p122z25 P K out5 h)) := (CutP_def _ _ _ _).trans (by kernel_rfl)
theorem q122z25 (out5 : Value) (h : Heap) : p122z25 P K out5 h =
 (CallP P 118 [out5] h fun x67 h_1 =>
 K x67 h_1) := (CutP_def _ _ _ _).trans (by kernel_rfl)
def T122 (a0 b1 : Value) (h : Heap) : Prop :=
 OP (iLenSl a0) fun x13 =>
 OP (iLenSl b1) fun x15 =>
 OP (iBin .add x13 x15) fun x16 =>
 OH (iMake 177 4 [(.int .u32 (0))] h x16 x16) fun x17 h_1 =>
 OP (iLenSl a0) fun x19 =>
 LoopP [(.int .i64 (0))] h_1 fun L1 xs hx =>
 p122z6 P K b1 x17 a0 x19 L1 xs hx
theorem e122 (a0 b1 : Value) (h : Heap) : iwpP P c122 (bodyP [.tmp 4] K) (frame0 [a0, b1]) h = T122 P K a0 b1 h := by kernel_rfl
theorem f122 {K : VK} {a0 b1 : Value} {h : Heap} (H : T122 Tryz.prog K a0 b1 h) : CallP Tryz.prog 122 [a0, b1] h K :=
 callP_intro k122 (Nat.le_of_ble_eq_true rfl) ((e122 Tryz.prog K a0 b1 h).mpr H)
/-! F126: pommel/num.compare -/
noncomputable def c126z11 : ICode := .seq (.seq (.ops none [⟨(some 19), .p (.mv (.tmp 5))⟩,
 ⟨(some 20), .p (.bin .geq (.tmp 19) (.const (.int .i64 (0))))⟩])
 (.cond (.tmp 20) (.skip)
 (.exit 0)))
 (.seq (.block 1 (.seq (.dops [(none, [⟨(some 23), .p (.mv (.tmp 0)), 0⟩,
 ⟨(some 24), .p (.mv (.tmp 5)), 0⟩,
 ⟨(some 25), .p (.adrSl 1 (.tmp 23) (.tmp 24)), 3⟩,
 ⟨(some 26), .l (.load false 1 (.tmp 25)), 7⟩,
 ⟨(some 27), .p (.mv (.tmp 1)), 0⟩,
 ⟨(some 28), .p (.mv (.tmp 5)), 0⟩,
 ⟨(some 29), .p (.adrSl 1 (.tmp 27) (.tmp 28)), 48⟩,
 ⟨(some 30), .l (.load false 1 (.tmp 29)), 112⟩,
 ⟨(some 31), .p (.bin .neq (.tmp 26) (.tmp 30)), 255⟩])])
 (.cond (.tmp 31) (.seq (.seq (.dops [(none, [⟨(some 32), .p (.mv (.tmp 0)), 0⟩,
 ⟨(some 33), .p (.mv (.tmp 5)), 0⟩,
 ⟨(some 34), .p (.adrSl 1 (.tmp 32) (.tmp 33)), 3⟩,
 ⟨(some 35), .l (.load false 1 (.tmp 34)), 7⟩,
 ⟨(some 36), .p (.mv (.tmp 1)), 0⟩,
 ⟨(some 37), .p (.mv (.tmp 5)), 0⟩,
 ⟨(some 38), .p (.adrSl 1 (.tmp 36) (.tmp 37)), 48⟩,
 ⟨(some 39), .l (.load false 1 (.tmp 38)), 112⟩,
 ⟨(some 40), .p (.bin .lss (.tmp 35) (.tmp 39)), 255⟩])])
 (.cond (.tmp 40) (.seq (.ops none [⟨(some 4), .p (.mv (.const (.int .i64 (-1))))⟩])
 (.ret))
 (.skip)))
 (.seq (.ops none [⟨(some 4), .p (.mv (.const (.int .i64 (1))))⟩])
 (.ret)))
 (.skip))))
 (.ops none [⟨(some 21), .p (.mv (.tmp 5))⟩,
 ⟨(some 22), .p (.bin .sub (.tmp 21) (.const (.int .i64 (1))))⟩,
 ⟨(some 5), .p (.mv (.tmp 22))⟩]))
noncomputable def c126z8 : ICode := .seq (.ops none [⟨(some 4), .p (.mv (.const (.int .i64 (0))))⟩])
 (.ret)
noncomputable def c126 : ICode := .seq (.ops none [⟨(some 4), .p (.mv (.const (.int .i64 (0))))⟩])
 (.seq (.seq (.ops none [⟨(some 6), .p (.mv (.tmp 0))⟩,
 ⟨(some 7), .p (.lenSl (.tmp 6))⟩,
 ⟨(some 8), .p (.mv (.tmp 1))⟩,
 ⟨(some 9), .p (.lenSl (.tmp 8))⟩,
 ⟨(some 10), .p (.bin .neq (.tmp 7) (.tmp 9))⟩])
 (.cond (.tmp 10) (.seq (.seq (.ops none [⟨(some 11), .p (.mv (.tmp 0))⟩,
 ⟨(some 12), .p (.lenSl (.tmp 11))⟩,
 ⟨(some 13), .p (.mv (.tmp 1))⟩,
 ⟨(some 14), .p (.lenSl (.tmp 13))⟩,
 ⟨(some 15), .p (.bin .lss (.tmp 12) (.tmp 14))⟩])
 (.cond (.tmp 15) (.seq (.ops none [⟨(some 4), .p (.mv (.const (.int .i64 (-1))))⟩])
 (.ret))
 (.skip)))
 (.seq (.ops none [⟨(some 4), .p (.mv (.const (.int .i64 (1))))⟩])
 (.ret)))
 (.skip)))
 (.seq (.seq (.ops none [⟨(some 16), .p (.mv (.tmp 0))⟩,
 ⟨(some 17), .p (.lenSl (.tmp 16))⟩,
 ⟨(some 18), .p (.bin .sub (.tmp 17) (.const (.int .i64 (1))))⟩,
 ⟨(some 5), .p (.mv (.tmp 18))⟩])
 (.block 0 (.loop [0, 1] [5] c126z11))) c126z8))
theorem k126 : compFn Tryz.prog 126 [[], [], [], [], [], [], [], [], [0, 1], [5], [], [], [], [], [], [], [], [], [], []] = some (41, c126, [.tmp 4]) := by kernel_rfl
def K126z0 (_P : Program) (K : VK) : Kont := bodyP [.tmp 4] K
def K126z8 : Kont := thenK (iwpP P c126z8 (K126z0 P K)) (K126z0 P K)
def K126z10 : Kont := inBlockK 0 (K126z8 P K)
def K126z11 (a0 b1 : Value) (L1 : LK) : Kont := thenK (fun f' h'' => (([0, 1] : List Nat).map f' : List Value) = [a0, b1] ∧ L1 (([5] : List Nat).map f') h'') (K126z10 P K)
def p126z11 (a0 b1 : Value) (L1 : LK) (xs : List Value) (h : Heap) : Prop := CutP (iwpP P c126z11 (K126z11 P K a0 b1 L1)) ([0, 1] ++ [5]) ([a0, b1] ++ xs) h
theorem q126z11 (a0 b1 : Value) (L1 : LK) (i5 : Value) (h : Heap) : p126z11 P K a0 b1 L1 [i5] h =
 (OP (iBin .geq i5 (.int .i64 (0))) fun x20 =>
 IfP x20
 (OP (iAdrSl 1 a0 i5) fun x25 =>
 OP (iLoad false 1 h x25) fun x26 =>
 (True) ∧
 OP (iAdrSl 1 b1 i5) fun x29 =>
 OP (iLoad false 1 h x29) fun x30 =>
 (True) ∧
 OP (iBin .neq x26 x30) fun x31 =>
 IfP x31
 (OP (iAdrSl 1 a0 i5) fun x34 =>
 OP (iLoad false 1 h x34) fun x35 =>
 (True) ∧
 OP (iAdrSl 1 b1 i5) fun x38 =>
 OP (iLoad false 1 h x38) fun x39 =>
 (True) ∧
 OP (iBin .lss x35 x39) fun x40 =>
 IfP x40
 (K (.int .i64 (-1)) h)
 (K (.int .i64 (1)) h))
 (OP (iBin .sub i5 (.int .i64 (1))) fun x22 =>
 ([a0, b1] : List Value) = [a0, b1] ∧ L1 [x22] h))
 (K (.int .i64 (0)) h)) := (CutP_def _ _ _ _).trans (by kernel_rfl)
def T126 (a0 b1 : Value) (h : Heap) : Prop :=
 OP (iLenSl a0) fun x7 =>
 OP (iLenSl b1) fun x9 =>
 OP (iBin .neq x7 x9) fun x10 =>
 IfP x10
 (OP (iLenSl a0) fun x12 =>
 OP (iLenSl b1) fun x14 =>
 OP (iBin .lss x12 x14) fun x15 =>
 IfP x15
 (K (.int .i64 (-1)) h)
 (K (.int .i64 (1)) h))
 (OP (iLenSl a0) fun x17 =>
 OP (iBin .sub x17 (.int .i64 (1))) fun x18 =>
 LoopP [x18] h fun L1 xs hx =>
 p126z11 P K a0 b1 L1 xs hx)
theorem e126 (a0 b1 : Value) (h : Heap) : iwpP P c126 (bodyP [.tmp 4] K) (frame0 [a0, b1]) h = T126 P K a0 b1 h := by kernel_rfl
theorem f126 {K : VK} {a0 b1 : Value} {h : Heap} (H : T126 Tryz.prog K a0 b1 h) : CallP Tryz.prog 126 [a0, b1] h K :=
 callP_intro k126 (Nat.le_of_ble_eq_true rfl) ((e126 Tryz.prog K a0 b1 h).mpr H)
/-! F127: (pommel/num.Int).Sub -/
noncomputable def c127 : ICode := .seq (.ops none [⟨(some 2), .e (.box 105 (.tmp 0))⟩,
 ⟨(some 3), .e (.box 105 (.tmp 1))⟩,
 ⟨(some 4), .e (.alloc 105 [(.bool false), (.slice none 0 0)])⟩])
 (.seq (.dops [(none, [⟨(some 5), .l (.load true 2 (.tmp 2)), 0⟩,
 ⟨(some 6), .l (.load true 2 (.tmp 3)), 0⟩,
 ⟨(some 7), .call 119 [(.tmp 6)], 2⟩,
 ⟨(some 8), .call 113 [(.tmp 5), (.tmp 7)], 7⟩,
 ⟨none, .e (.store 2 (.tmp 4) (.tmp 8)), 15⟩])])
 (.ret))
theorem k127 : compFn Tryz.prog 127 [[], []] = some (9, c127, [.cell true 2 4]) := by kernel_rfl
def T127 (a0 b1 : Value) (h : Heap) : Prop :=
 OH (iBox 105 h a0) fun a2 h_1 =>
 OH (iBox 105 h_1 b1) fun b3 h_2 =>
 OH (iAlloc 105 [(.bool false), (.slice none 0 0)] h_2) fun x4 h_3 =>
 OP (iLoad true 2 h_3 a2) fun x5 =>
 (True) ∧
 OP (iLoad true 2 h_3 b3) fun x6 =>
 (True) ∧
 CallP P 119 [x6] h_3 fun x7 h_4 =>
 (iLoad true 2 h_4 a2 = some x5 ∧ True) ∧
 CallP P 113 [x5, x7] h_4 fun x8 h_5 =>
 (True) ∧
 OH (oStore 2 h_5 x4 x8) fun _ h_6 =>
 (True) ∧
 OP (iLoad true 2 h_6 x4) fun r0 =>
 K r0 h_6
theorem e127 (a0 b1 : Value) (h : Heap) : iwpP P c127 (bodyP [.cell true 2 4] K) (frame0 [a0, b1]) h = T127 P K a0 b1 h := by kernel_rfl
theorem f127 {K : VK} {a0 b1 : Value} {h : Heap} (H : T127 Tryz.prog K a0 b1 h) : CallP Tryz.prog 127 [a0, b1] h K :=
 callP_intro k127 (Nat.le_of_ble_eq_true rfl) ((e127 Tryz.prog K a0 b1 h).mpr H)
/-! F128: pommel/num.plus -/
noncomputable def c128z19 : ICode := .ops none [⟨(some 34), .p (.mv (.tmp 5))⟩,
 ⟨(some 35), .p (.mv (.tmp 7))⟩,
 ⟨(some 36), .p (.mv (.tmp 0))⟩,
 ⟨(some 37), .p (.mv (.tmp 7))⟩,
 ⟨(some 38), .p (.adrSl 1 (.tmp 36) (.tmp 37))⟩,
 ⟨(some 39), .l (.load false 1 (.tmp 38))⟩,
 ⟨(some 40), .p (.mv (.tmp 8))⟩,
 ⟨(some 41), .p (.mv (.tmp 6))⟩,
 ⟨(some 42), .call 133 [(.tmp 39), (.tmp 40), (.tmp 41)]⟩,
 ⟨(some 33), .p (.mv (.tmp 42))⟩,
 ⟨(some 43), .p (.ext (.tmp 33) 0)⟩,
 ⟨(some 44), .p (.ext (.tmp 33) 1)⟩,
 ⟨(some 45), .p (.adrSl 1 (.tmp 34) (.tmp 35))⟩,
 ⟨none, .e (.store 1 (.tmp 45) (.tmp 43))⟩,
 ⟨(some 6), .p (.mv (.tmp 44))⟩]
noncomputable def c128z20 : ICode := .ops none [⟨(some 46), .p (.bin .add (.tmp 22) (.const (.int .i64 (1))))⟩,
 ⟨(some 22), .p (.mv (.tmp 46))⟩]
noncomputable def c128z13 : ICode := .cut [0, 1, 5, 6, 21, 22] c128z20
noncomputable def c128z10 : ICode := .seq (.ops none [⟨(some 23), .p (.bin .lss (.tmp 22) (.tmp 21))⟩])
 (.seq (.cond (.tmp 23) (.skip)
 (.exit 0))
 (.seq (.block 1 (.seq (.ops none [⟨(some 24), .p (.mv (.tmp 22))⟩,
 ⟨(some 7), .p (.mv (.tmp 24))⟩])
 (.seq (.ops none [⟨(some 8), .p (.mv (.const (.int .u32 (0))))⟩])
 (.seq (.seq (.ops none [⟨(some 25), .p (.mv (.tmp 7))⟩,
 ⟨(some 26), .p (.mv (.tmp 1))⟩,
 ⟨(some 27), .p (.lenSl (.tmp 26))⟩,
 ⟨(some 28), .p (.bin .lss (.tmp 25) (.tmp 27))⟩])
 (.cond (.tmp 28) (.ops none [⟨(some 29), .p (.mv (.tmp 1))⟩,
 ⟨(some 30), .p (.mv (.tmp 7))⟩,
 ⟨(some 31), .p (.adrSl 1 (.tmp 29) (.tmp 30))⟩,
 ⟨(some 32), .l (.load false 1 (.tmp 31))⟩,
 ⟨(some 8), .p (.mv (.tmp 32))⟩])
 (.skip)))
 (.cut [0, 1, 5, 6, 7, 8, 21, 22] c128z19))))) c128z13))
noncomputable def c128z21 : ICode := .seq (.ops none [⟨(some 47), .p (.mv (.tmp 5))⟩,
 ⟨(some 48), .p (.mv (.tmp 0))⟩,
 ⟨(some 49), .p (.lenSl (.tmp 48))⟩,
 ⟨(some 50), .p (.mv (.tmp 6))⟩,
 ⟨(some 51), .p (.adrSl 1 (.tmp 47) (.tmp 49))⟩,
 ⟨none, .e (.store 1 (.tmp 51) (.tmp 50))⟩])
 (.seq (.ops none [⟨(some 52), .p (.mv (.tmp 5))⟩,
 ⟨(some 53), .call 118 [(.tmp 52)]⟩,
 ⟨(some 4), .p (.mv (.tmp 53))⟩])
 (.ret))
noncomputable def c128z7 : ICode := .cut [0, 5, 6] c128z21
noncomputable def c128z4 : ICode := .seq (.ops none [⟨(some 16), .p (.mv (.tmp 0))⟩,
 ⟨(some 17), .p (.lenSl (.tmp 16))⟩,
 ⟨(some 18), .p (.bin .add (.tmp 17) (.const (.int .i64 (1))))⟩,
 ⟨(some 19), .e (.make 177 4 [(.int .u32 (0))] (.tmp 18) (.tmp 18))⟩,
 ⟨(some 5), .p (.mv (.tmp 19))⟩])
 (.seq (.ops none [⟨(some 6), .p (.mv (.const (.int .u32 (0))))⟩])
 (.seq (.seq (.ops none [⟨(some 20), .p (.mv (.tmp 0))⟩,
 ⟨(some 21), .p (.lenSl (.tmp 20))⟩,
 ⟨(some 22), .p (.mv (.const (.int .i64 (0))))⟩])
 (.block 0 (.loop [0, 1, 5, 21] [6, 22] c128z10))) c128z7))
noncomputable def c128 : ICode := .seq (.ops none [⟨(some 4), .p (.mv (.const (.slice none 0 0)))⟩])
 (.seq (.seq (.ops none [⟨(some 9), .p (.mv (.tmp 0))⟩,
 ⟨(some 10), .p (.lenSl (.tmp 9))⟩,
 ⟨(some 11), .p (.mv (.tmp 1))⟩,
 ⟨(some 12), .p (.lenSl (.tmp 11))⟩,
 ⟨(some 13), .p (.bin .lss (.tmp 10) (.tmp 12))⟩])
 (.cond (.tmp 13) (.ops none [⟨(some 14), .p (.mv (.tmp 1))⟩,
 ⟨(some 15), .p (.mv (.tmp 0))⟩,
 ⟨(some 0), .p (.mv (.tmp 14))⟩,
 ⟨(some 1), .p (.mv (.tmp 15))⟩])
 (.skip)))
 (.cut [0, 1] c128z4))
theorem k128 : compFn Tryz.prog 128 [[], [], [0, 1], [], [], [], [0, 1, 5, 21], [6, 22], [], [], [], [], [], [0, 1, 5, 6, 7, 8, 21, 22], [0, 1, 5, 6, 21, 22], [0, 5, 6], [], []] = some (54, c128, [.tmp 4]) := by kernel_rfl
def K128z0 (_P : Program) (K : VK) : Kont := bodyP [.tmp 4] K
def K128z7 : Kont := thenK (iwpP P c128z7 (K128z0 P K)) (K128z0 P K)
def K128z9 : Kont := inBlockK 0 (K128z7 P K)
def K128z10 (a0 b1 out5 x21 : Value) (L1 : LK) : Kont := thenK (fun f' h'' => (([0, 1, 5, 21] : List Nat).map f' : List Value) = [a0, b1, out5, x21] ∧ L1 (([6, 22] : List Nat).map f') h'') (K128z9 P K)
def K128z13 (a0 b1 out5 x21 : Value) (L1 : LK) : Kont := thenK (iwpP P c128z13 (K128z10 P K a0 b1 out5 x21 L1)) (K128z10 P K a0 b1 out5 x21 L1)
def K128z14 (a0 b1 out5 x21 : Value) (L1 : LK) : Kont := inBlockK 1 (K128z13 P K a0 b1 out5 x21 L1)
def p128z4 (a0 b1 : Value) (h : Heap) : Prop := CutP (iwpP P c128z4 (K128z0 P K)) [0, 1] [a0, b1] h
def p128z10 (a0 b1 out5 x21 : Value) (L1 : LK) (xs : List Value) (h : Heap) : Prop := CutP (iwpP P c128z10 (K128z10 P K a0 b1 out5 x21 L1)) ([0, 1, 5, 21] ++ [6, 22]) ([a0, b1, out5, x21] ++ xs) h
def p128z19 (a0 b1 out5 carry6 i7 y8 x21 x22 : Value) (L1 : LK) (h : Heap) : Prop := CutP (iwpP P c128z19 (K128z14 P K a0 b1 out5 x21 L1)) [0, 1, 5, 6, 7, 8, 21, 22] [a0, b1, out5, carry6, i7, y8, x21, x22] h
def p128z20 (a0 b1 out5 carry6 x21 x22 : Value) (L1 : LK) (h : Heap) : Prop := CutP (iwpP P c128z20 (K128z10 P K a0 b1 out5 x21 L1)) [0, 1, 5, 6, 21, 22] [a0, b1, out5, carry6, x21, x22] h
def p128z21 (a0 out5 carry6 : Value) (h : Heap) : Prop := CutP (iwpP P c128z21 (K128z0 P K)) [0, 5, 6] [a0, out5, carry6] h
theorem q128z19 (a0 b1 out5 carry6 i7 y8 x21 x22 : Value) (L1 : LK) (h : Heap) : p128z19 P K a0 b1 out5 carry6 i7 y8 x21 x22 L1 h =
 (OP (iAdrSl 1 a0 i7) fun x38 =>
 OP (iLoad false 1 h x38) fun x39 =>
 CallP P 133 [x39, y8, carry6] h fun x42 h_1 =>
 OP (iExt 0 x42) fun x43 =>
 OP (iExt 1 x42) fun x44 =>
 OP (iAdrSl 1 out5 i7) fun x45 =>
 OH (oStore 1 h_1 x45 x43) fun _ h_2 =>
 p128z20 P K a0 b1 out5 x44 x21 x22 L1 h_2) := (CutP_def _ _ _ _).trans (by kernel_rfl)
theorem q128z20 (a0 b1 out5 carry6 x21 x22 : Value) (L1 : LK) (h : Heap) : p128z20 P K a0 b1 out5 carry6 x21 x22 L1 h =
 (OP (iBin .add x22 (.int .i64 (1))) fun x46 =>
 ([a0, b1, out5, x21] : List Value) = [a0, b1, out5, x21] ∧ L1 [carry6, x46] h) := (CutP_def _ _ _ _).trans (by kernel_rfl)
theorem q128z10 (a0 b1 out5 x21 : Value) (L1 : LK) (carry6 x22 : Value) (h : Heap) : p128z10 P K a0 b1 out5 x21 L1 [carry6, x22] h =
 (OP (iBin .lss x22 x21) fun x23 =>
 IfP x23
 (OP (iLenSl b1) fun x27 =>
 OP (iBin .lss x22 x27) fun x28 =>
 IfP x28
 (OP (iAdrSl 1 b1 x22) fun x31 =>
 OP (iLoad false 1 h x31) fun x32 =>
 p128z19 P K a0 b1 out5 carry6 x22 x32 x21 x22 L1 h)
 (p128z19 P K a0 b1 out5 carry6 x22 (.int .u32 (0)) x21 x22 L1 h))
 (p128z21 P K a0 out5 carry6 h)) := (CutP_def _ _ _ _).trans (by kernel_rfl)
theorem q128z21 (a0 out5 carry6 : Value) (h : Heap) : p128z21 P K a0 out5 carry6 h =
 (OP (iLenSl a0) fun x49 =>
 OP (iAdrSl 1 out5 x49) fun x51 =>
 OH (oStore 1 h x51 carry6) fun _ h_1 =>
 CallP P 118 [out5] h_1 fun x53 h_2 =>
 K x53 h_2) := (CutP_def _ _ _ _).trans (by kernel_rfl)
theorem q128z4 (a0 b1 : Value) (h : Heap) : p128z4 P K a0 b1 h =
 (OP (iLenSl a0) fun x17 =>
 OP (iBin .add x17 (.int .i64 (1))) fun x18 =>
 OH (iMake 177 4 [(.int .u32 (0))] h x18 x18) fun x19 h_1 =>
 OP (iLenSl a0) fun x21 =>
 LoopP [(.int .u32 (0)), (.int .i64 (0))] h_1 fun L1 xs hx =>
 p128z10 P K a0 b1 x19 x21 L1 xs hx) := (CutP_def _ _ _ _).trans (by kernel_rfl)
def T128 (a0 b1 : Value) (h : Heap) : Prop :=
 OP (iLenSl a0) fun x10 =>
 OP (iLenSl b1) fun x12 =>
 OP (iBin .lss x10 x12) fun x13 =>
 IfP x13
 (p128z4 P K b1 a0 h)
 (p128z4 P K a0 b1 h)
theorem e128 (a0 b1 : Value) (h : Heap) : iwpP P c128 (bodyP [.tmp 4] K) (frame0 [a0, b1]) h = T128 P K a0 b1 h := by kernel_rfl
theorem f128 {K : VK} {a0 b1 : Value} {h : Heap} (H : T128 Tryz.prog K a0 b1 h) : CallP Tryz.prog 128 [a0, b1] h K :=
 callP_intro k128 (Nat.le_of_ble_eq_true rfl) ((e128 Tryz.prog K a0 b1 h).mpr H)
/-! F129: pommel/num.minus -/
noncomputable def c129z16 : ICode := .ops none [⟨(some 26), .p (.mv (.tmp 5))⟩,
 ⟨(some 27), .p (.mv (.tmp 7))⟩,
 ⟨(some 28), .p (.mv (.tmp 0))⟩,
 ⟨(some 29), .p (.mv (.tmp 7))⟩,
 ⟨(some 30), .p (.adrSl 1 (.tmp 28) (.tmp 29))⟩,
 ⟨(some 31), .l (.load false 1 (.tmp 30))⟩,
 ⟨(some 32), .p (.mv (.tmp 8))⟩,
 ⟨(some 33), .p (.mv (.tmp 6))⟩,
 ⟨(some 34), .call 134 [(.tmp 31), (.tmp 32), (.tmp 33)]⟩,
 ⟨(some 25), .p (.mv (.tmp 34))⟩,
 ⟨(some 35), .p (.ext (.tmp 25) 0)⟩,
 ⟨(some 36), .p (.ext (.tmp 25) 1)⟩,
 ⟨(some 37), .p (.adrSl 1 (.tmp 26) (.tmp 27))⟩,
 ⟨none, .e (.store 1 (.tmp 37) (.tmp 35))⟩,
 ⟨(some 6), .p (.mv (.tmp 36))⟩]
noncomputable def c129z17 : ICode := .ops none [⟨(some 38), .p (.bin .add (.tmp 14) (.const (.int .i64 (1))))⟩,
 ⟨(some 14), .p (.mv (.tmp 38))⟩]
noncomputable def c129z10 : ICode := .cut [0, 1, 5, 6, 13, 14] c129z17
noncomputable def c129z7 : ICode := .seq (.ops none [⟨(some 15), .p (.bin .lss (.tmp 14) (.tmp 13))⟩])
 (.seq (.cond (.tmp 15) (.skip)
 (.exit 0))
 (.seq (.block 1 (.seq (.ops none [⟨(some 16), .p (.mv (.tmp 14))⟩,
 ⟨(some 7), .p (.mv (.tmp 16))⟩])
 (.seq (.ops none [⟨(some 8), .p (.mv (.const (.int .u32 (0))))⟩])
 (.seq (.seq (.ops none [⟨(some 17), .p (.mv (.tmp 7))⟩,
 ⟨(some 18), .p (.mv (.tmp 1))⟩,
 ⟨(some 19), .p (.lenSl (.tmp 18))⟩,
 ⟨(some 20), .p (.bin .lss (.tmp 17) (.tmp 19))⟩])
 (.cond (.tmp 20) (.ops none [⟨(some 21), .p (.mv (.tmp 1))⟩,
 ⟨(some 22), .p (.mv (.tmp 7))⟩,
 ⟨(some 23), .p (.adrSl 1 (.tmp 21) (.tmp 22))⟩,
 ⟨(some 24), .l (.load false 1 (.tmp 23))⟩,
 ⟨(some 8), .p (.mv (.tmp 24))⟩])
 (.skip)))
 (.cut [0, 1, 5, 6, 7, 8, 13, 14] c129z16))))) c129z10))
noncomputable def c129z18 : ICode := .seq (.ops none [⟨(some 39), .p (.mv (.tmp 5))⟩,
 ⟨(some 40), .call 118 [(.tmp 39)]⟩,
 ⟨(some 4), .p (.mv (.tmp 40))⟩])
 (.ret)
noncomputable def c129z4 : ICode := .cut [5] c129z18
noncomputable def c129 : ICode := .seq (.ops none [⟨(some 4), .p (.mv (.const (.slice none 0 0)))⟩])
 (.seq (.ops none [⟨(some 9), .p (.mv (.tmp 0))⟩,
 ⟨(some 10), .p (.lenSl (.tmp 9))⟩,
 ⟨(some 11), .e (.make 177 4 [(.int .u32 (0))] (.tmp 10) (.tmp 10))⟩,
 ⟨(some 5), .p (.mv (.tmp 11))⟩])
 (.seq (.ops none [⟨(some 6), .p (.mv (.const (.int .u32 (0))))⟩])
 (.seq (.seq (.ops none [⟨(some 12), .p (.mv (.tmp 0))⟩,
 ⟨(some 13), .p (.lenSl (.tmp 12))⟩,
 ⟨(some 14), .p (.mv (.const (.int .i64 (0))))⟩])
 (.block 0 (.loop [0, 1, 5, 13] [6, 14] c129z7))) c129z4)))
theorem k129 : compFn Tryz.prog 129 [[], [], [], [], [0, 1, 5, 13], [6, 14], [], [], [], [], [], [0, 1, 5, 6, 7, 8, 13, 14], [0, 1, 5, 6, 13, 14], [5], []] = some (41, c129, [.tmp 4]) := by kernel_rfl
def K129z0 (_P : Program) (K : VK) : Kont := bodyP [.tmp 4] K
def K129z4 : Kont := thenK (iwpP P c129z4 (K129z0 P K)) (K129z0 P K)
def K129z6 : Kont := inBlockK 0 (K129z4 P K)
def K129z7 (a0 b1 out5 x13 : Value) (L1 : LK) : Kont := thenK (fun f' h'' => (([0, 1, 5, 13] : List Nat).map f' : List Value) = [a0, b1, out5, x13] ∧ L1 (([6, 14] : List Nat).map f') h'') (K129z6 P K)
def K129z10 (a0 b1 out5 x13 : Value) (L1 : LK) : Kont := thenK (iwpP P c129z10 (K129z7 P K a0 b1 out5 x13 L1)) (K129z7 P K a0 b1 out5 x13 L1)
def K129z11 (a0 b1 out5 x13 : Value) (L1 : LK) : Kont := inBlockK 1 (K129z10 P K a0 b1 out5 x13 L1)
def p129z7 (a0 b1 out5 x13 : Value) (L1 : LK) (xs : List Value) (h : Heap) : Prop := CutP (iwpP P c129z7 (K129z7 P K a0 b1 out5 x13 L1)) ([0, 1, 5, 13] ++ [6, 14]) ([a0, b1, out5, x13] ++ xs) h
def p129z16 (a0 b1 out5 borrow6 i7 y8 x13 x14 : Value) (L1 : LK) (h : Heap) : Prop := CutP (iwpP P c129z16 (K129z11 P K a0 b1 out5 x13 L1)) [0, 1, 5, 6, 7, 8, 13, 14] [a0, b1, out5, borrow6, i7, y8, x13, x14] h
def p129z17 (a0 b1 out5 borrow6 x13 x14 : Value) (L1 : LK) (h : Heap) : Prop := CutP (iwpP P c129z17 (K129z7 P K a0 b1 out5 x13 L1)) [0, 1, 5, 6, 13, 14] [a0, b1, out5, borrow6, x13, x14] h
def p129z18 (out5 : Value) (h : Heap) : Prop := CutP (iwpP P c129z18 (K129z0 P K)) [5] [out5] h
theorem q129z16 (a0 b1 out5 borrow6 i7 y8 x13 x14 : Value) (L1 : LK) (h : Heap) : p129z16 P K a0 b1 out5 borrow6 i7 y8 x13 x14 L1 h =
 (OP (iAdrSl 1 a0 i7) fun x30 =>
 OP (iLoad false 1 h x30) fun x31 =>
 CallP P 134 [x31, y8, borrow6] h fun x34 h_1 =>
 OP (iExt 0 x34) fun x35 =>
 OP (iExt 1 x34) fun x36 =>
 OP (iAdrSl 1 out5 i7) fun x37 =>
 OH (oStore 1 h_1 x37 x35) fun _ h_2 =>
 p129z17 P K a0 b1 out5 x36 x13 x14 L1 h_2) := (CutP_def _ _ _ _).trans (by kernel_rfl)
theorem q129z17 (a0 b1 out5 borrow6 x13 x14 : Value) (L1 : LK) (h : Heap) : p129z17 P K a0 b1 out5 borrow6 x13 x14 L1 h =
 (OP (iBin .add x14 (.int .i64 (1))) fun x38 =>
 ([a0, b1, out5, x13] : List Value) = [a0, b1, out5, x13] ∧ L1 [borrow6, x38] h) := (CutP_def _ _ _ _).trans (by kernel_rfl)
theorem q129z7 (a0 b1 out5 x13 : Value) (L1 : LK) (borrow6 x14 : Value) (h : Heap) : p129z7 P K a0 b1 out5 x13 L1 [borrow6, x14] h =
 (OP (iBin .lss x14 x13) fun x15 =>
 IfP x15
 (OP (iLenSl b1) fun x19 =>
 OP (iBin .lss x14 x19) fun x20 =>
 IfP x20
 (OP (iAdrSl 1 b1 x14) fun x23 =>
 OP (iLoad false 1 h x23) fun x24 =>
 p129z16 P K a0 b1 out5 borrow6 x14 x24 x13 x14 L1 h)
 (p129z16 P K a0 b1 out5 borrow6 x14 (.int .u32 (0)) x13 x14 L1 h))
 (p129z18 P K out5 h)) := (CutP_def _ _ _ _).trans (by kernel_rfl)
theorem q129z18 (out5 : Value) (h : Heap) : p129z18 P K out5 h =
 (CallP P 118 [out5] h fun x40 h_1 =>
 K x40 h_1) := (CutP_def _ _ _ _).trans (by kernel_rfl)
def T129 (a0 b1 : Value) (h : Heap) : Prop :=
 OP (iLenSl a0) fun x10 =>
 OH (iMake 177 4 [(.int .u32 (0))] h x10 x10) fun x11 h_1 =>
 OP (iLenSl a0) fun x13 =>
 LoopP [(.int .u32 (0)), (.int .i64 (0))] h_1 fun L1 xs hx =>
 p129z7 P K a0 b1 x11 x13 L1 xs hx
theorem e129 (a0 b1 : Value) (h : Heap) : iwpP P c129 (bodyP [.tmp 4] K) (frame0 [a0, b1]) h = T129 P K a0 b1 h := by kernel_rfl
theorem f129 {K : VK} {a0 b1 : Value} {h : Heap} (H : T129 Tryz.prog K a0 b1 h) : CallP Tryz.prog 129 [a0, b1] h K :=
 callP_intro k129 (Nat.le_of_ble_eq_true rfl) ((e129 Tryz.prog K a0 b1 h).mpr H)
/-! F133: math/bits.Add32 -/
noncomputable def c133 : ICode := .seq (.ops none [⟨(some 6), .p (.mv (.const (.int .u32 (0))))⟩,
 ⟨(some 7), .p (.mv (.const (.int .u32 (0))))⟩])
 (.seq (.ops none [⟨(some 9), .p (.mv (.tmp 0))⟩,
 ⟨(some 10), .p (.conv .u64 (.tmp 9))⟩,
 ⟨(some 11), .p (.mv (.tmp 1))⟩,
 ⟨(some 12), .p (.conv .u64 (.tmp 11))⟩,
 ⟨(some 13), .p (.bin .add (.tmp 10) (.tmp 12))⟩,
 ⟨(some 14), .p (.mv (.tmp 2))⟩,
 ⟨(some 15), .p (.conv .u64 (.tmp 14))⟩,
 ⟨(some 16), .p (.bin .add (.tmp 13) (.tmp 15))⟩,
 ⟨(some 8), .p (.mv (.tmp 16))⟩])
 (.seq (.ops none [⟨(some 17), .p (.mv (.tmp 8))⟩,
 ⟨(some 18), .p (.conv .u32 (.tmp 17))⟩,
 ⟨(some 6), .p (.mv (.tmp 18))⟩])
 (.seq (.ops none [⟨(some 19), .p (.mv (.tmp 8))⟩,
 ⟨(some 20), .p (.bin .shr (.tmp 19) (.const (.int .u64 (32))))⟩,
 ⟨(some 21), .p (.conv .u32 (.tmp 20))⟩,
 ⟨(some 7), .p (.mv (.tmp 21))⟩])
 (.ret))))
theorem k133 : compFn Tryz.prog 133 [[], [], [], []] = some (22, c133, [.tmp 6, .tmp 7]) := by kernel_rfl
def T133 (P : Program) (K : VK) (x0 y1 carry2 : Value) (h : Heap) : Prop :=
 OP (iConv .u64 x0) fun x10 =>
 OP (iConv .u64 y1) fun x12 =>
 OP (iBin .add x10 x12) fun x13 =>
 OP (iConv .u64 carry2) fun x15 =>
 OP (iBin .add x13 x15) fun x16 =>
 OP (iConv .u32 x16) fun x18 =>
 OP (iBin .shr x16 (.int .u64 (32))) fun x20 =>
 OP (iConv .u32 x20) fun x21 =>
 K (.tuple #[x18, x21]) h
theorem e133 (x0 y1 carry2 : Value) (h : Heap) : iwpP P c133 (bodyP [.tmp 6, .tmp 7] K) (frame0 [x0, y1, carry2]) h = T133 P K x0 y1 carry2 h := by kernel_rfl
theorem f133 {K : VK} {x0 y1 carry2 : Value} {h : Heap} (H : T133 Tryz.prog K x0 y1 carry2 h) : CallP Tryz.prog 133 [x0, y1, carry2] h K :=
 callP_intro k133 (Nat.le_of_ble_eq_true rfl) ((e133 Tryz.prog K x0 y1 carry2 h).mpr H)
/-! F134: math/bits.Sub32 -/
noncomputable def c134 : ICode := .seq (.ops none [⟨(some 6), .p (.mv (.const (.int .u32 (0))))⟩,
 ⟨(some 7), .p (.mv (.const (.int .u32 (0))))⟩])
 (.seq (.ops none [⟨(some 8), .p (.mv (.tmp 0))⟩,
 ⟨(some 9), .p (.mv (.tmp 1))⟩,
 ⟨(some 10), .p (.bin .sub (.tmp 8) (.tmp 9))⟩,
 ⟨(some 11), .p (.mv (.tmp 2))⟩,
 ⟨(some 12), .p (.bin .sub (.tmp 10) (.tmp 11))⟩,
 ⟨(some 6), .p (.mv (.tmp 12))⟩])
 (.seq (.ops none [⟨(some 13), .p (.mv (.tmp 0))⟩,
 ⟨(some 14), .p (.un .xor (.tmp 13))⟩,
 ⟨(some 15), .p (.mv (.tmp 1))⟩,
 ⟨(some 16), .p (.bin .and (.tmp 14) (.tmp 15))⟩,
 ⟨(some 17), .p (.mv (.tmp 0))⟩,
 ⟨(some 18), .p (.mv (.tmp 1))⟩,
 ⟨(some 19), .p (.bin .xor (.tmp 17) (.tmp 18))⟩,
 ⟨(some 20), .p (.un .xor (.tmp 19))⟩,
 ⟨(some 21), .p (.mv (.tmp 6))⟩,
 ⟨(some 22), .p (.bin .and (.tmp 20) (.tmp 21))⟩,
 ⟨(some 23), .p (.bin .or (.tmp 16) (.tmp 22))⟩,
 ⟨(some 24), .p (.bin .shr (.tmp 23) (.const (.int .u64 (31))))⟩,
 ⟨(some 7), .p (.mv (.tmp 24))⟩])
 (.ret)))
theorem k134 : compFn Tryz.prog 134 [[], [], []] = some (25, c134, [.tmp 6, .tmp 7]) := by kernel_rfl
def T134 (P : Program) (K : VK) (x0 y1 borrow2 : Value) (h : Heap) : Prop :=
 OP (iBin .sub x0 y1) fun x10 =>
 OP (iBin .sub x10 borrow2) fun x12 =>
 OP (iUn .xor x0) fun x14 =>
 OP (iBin .and x14 y1) fun x16 =>
 OP (iBin .xor x0 y1) fun x19 =>
 OP (iUn .xor x19) fun x20 =>
 OP (iBin .and x20 x12) fun x22 =>
 OP (iBin .or x16 x22) fun x23 =>
 OP (iBin .shr x23 (.int .u64 (31))) fun x24 =>
 K (.tuple #[x12, x24]) h
theorem e134 (x0 y1 borrow2 : Value) (h : Heap) : iwpP P c134 (bodyP [.tmp 6, .tmp 7] K) (frame0 [x0, y1, borrow2]) h = T134 P K x0 y1 borrow2 h := by kernel_rfl
theorem f134 {K : VK} {x0 y1 borrow2 : Value} {h : Heap} (H : T134 Tryz.prog K x0 y1 borrow2 h) : CallP Tryz.prog 134 [x0, y1, borrow2] h K :=
 callP_intro k134 (Nat.le_of_ble_eq_true rfl) ((e134 Tryz.prog K x0 y1 borrow2 h).mpr H)
end Go.Proofs.YtelmdbpaoifmoaaGreat

namespace Go.Proofs.YtelmdbpaoifmoaaGreat
open Go.Sim
variable (P : Program) (K : VK)
/-! F45: (pommel/num.Rat).Num -/
noncomputable def c45z8 : ICode := .seq (.seq (.ops none [⟨(some 18), .l (.load true 4 (.tmp 1))⟩,
 ⟨(some 19), .call 90 [(.tmp 18)]⟩])
 (.cond (.tmp 19) (.seq (.ops none [⟨(some 20), .p (.mv (.tmp 4))⟩,
 ⟨(some 2), .p (.mv (.tmp 20))⟩,
 ⟨(some 3), .p (.mv (.const (.int .i64 (0))))⟩])
 (.ret))
 (.skip)))
 (.seq (.ops none [⟨(some 21), .p (.fadr 2 (.tmp 1))⟩,
 ⟨(some 22), .p (.fadr 1 (.tmp 21))⟩,
 ⟨(some 23), .l (.load false 1 (.tmp 22))⟩,
 ⟨(some 24), .call 89 [(.tmp 23)]⟩,
 ⟨(some 5), .p (.mv (.tmp 24))⟩])
 (.seq (.seq (.ops none [⟨(some 25), .p (.mv (.tmp 5))⟩,
 ⟨(some 26), .p (.lenS (.tmp 25))⟩,
 ⟨(some 27), .p (.bin .gtr (.tmp 26) (.const (.int .i64 (4000))))⟩])
 (.cond (.tmp 27) (.seq (.ops none [⟨(some 2), .p (.mv (.const (.string ⟨#[]⟩)))⟩,
 ⟨(some 3), .p (.mv (.const (.int .i64 (4))))⟩])
 (.ret))
 (.skip)))
 (.seq (.ops none [⟨(some 28), .p (.mv (.tmp 4))⟩,
 ⟨(some 29), .p (.bin .add (.tmp 28) (.const (.string ⟨#[47]⟩)))⟩,
 ⟨(some 30), .p (.mv (.tmp 5))⟩,
 ⟨(some 31), .p (.bin .add (.tmp 29) (.tmp 30))⟩,
 ⟨(some 2), .p (.mv (.tmp 31))⟩,
 ⟨(some 3), .p (.mv (.const (.int .i64 (0))))⟩])
 (.ret))))
noncomputable def c45 : ICode := .seq (.ops none [⟨(some 1), .e (.box 107 (.tmp 0))⟩,
 ⟨(some 2), .p (.mv (.const (.string ⟨#[]⟩)))⟩,
 ⟨(some 3), .p (.mv (.const (.int .i64 (0))))⟩])
 (.seq (.ops none [⟨(some 6), .p (.fadr 0 (.tmp 1))⟩,
 ⟨(some 7), .p (.fadr 1 (.tmp 6))⟩,
 ⟨(some 8), .l (.load false 1 (.tmp 7))⟩,
 ⟨(some 9), .call 89 [(.tmp 8)]⟩,
 ⟨(some 4), .p (.mv (.tmp 9))⟩])
 (.seq (.seq (.ops none [⟨(some 10), .p (.mv (.tmp 4))⟩,
 ⟨(some 11), .p (.lenS (.tmp 10))⟩,
 ⟨(some 12), .p (.bin .gtr (.tmp 11) (.const (.int .i64 (4000))))⟩])
 (.cond (.tmp 12) (.seq (.ops none [⟨(some 2), .p (.mv (.const (.string ⟨#[]⟩)))⟩,
 ⟨(some 3), .p (.mv (.const (.int .i64 (4))))⟩])
 (.ret))
 (.skip)))
 (.seq (.seq (.ops none [⟨(some 13), .p (.fadr 0 (.tmp 1))⟩,
 ⟨(some 14), .p (.fadr 0 (.tmp 13))⟩,
 ⟨(some 15), .l (.load false 1 (.tmp 14))⟩])
 (.cond (.tmp 15) (.ops none [⟨(some 16), .p (.mv (.tmp 4))⟩,
 ⟨(some 17), .p (.bin .add (.const (.string ⟨#[45]⟩)) (.tmp 16))⟩,
 ⟨(some 4), .p (.mv (.tmp 17))⟩])
 (.skip)))
 (.cut [1, 4] c45z8))))
theorem k45 : compFn Tryz.prog 45 [[], [], [], [], [], [], [1, 4], [], [], [], [], [], [], [], []] = some (32, c45, [.tmp 2, .tmp 3]) := by kernel_rfl
def K45z0 (_P : Program) (K : VK) : Kont := bodyP [.tmp 2, .tmp 3] K
def p45z8 (a1 s4 : Value) (h : Heap) : Prop := CutP (iwpP P c45z8 (K45z0 P K)) [1, 4] [a1, s4] h
theorem q45z8 (a1 s4 : Value) (h : Heap) : p45z8 P K a1 s4 h =
 (OP (iLoad true 4 h a1) fun x18 =>
 CallP P 90 [x18] h fun x19 h_1 =>
 IfP x19
 (K (.tuple #[s4, (.int .i64 (0))]) h_1)
 (OP (iFadr 2 a1) fun x21 =>
 OP (iFadr 1 x21) fun x22 =>
 OP (iLoad false 1 h_1 x22) fun x23 =>
 CallP P 89 [x23] h_1 fun x24 h_2 =>
 OP (iLenS x24) fun x26 =>
 OP (iBin .gtr x26 (.int .i64 (4000))) fun x27 =>
 IfP x27
 (K (.tuple #[(.string ⟨#[]⟩), (.int .i64 (4))]) h_2)
 (OP (iBin .add s4 (.string ⟨#[47]⟩)) fun x29 =>
 OP (iBin .add x29 x24) fun x31 =>
 K (.tuple #[x31, (.int .i64 (0))]) h_2))) := (CutP_def _ _ _ _).trans (by kernel_rfl)
def T45 (a0 : Value) (h : Heap) : Prop :=
 OH (iBox 107 h a0) fun a1 h_1 =>
 OP (iFadr 0 a1) fun x6 =>
 OP (iFadr 1 x6) fun x7 =>
 OP (iLoad false 1 h_1 x7) fun x8 =>
 CallP P 89 [x8] h_1 fun x9 h_2 =>
 OP (iLenS x9) fun x11 =>
 OP (iBin .gtr x11 (.int .i64 (4000))) fun x12 =>
 IfP x12
 (K (.tuple #[(.string ⟨#[]⟩), (.int .i64 (4))]) h_2)
 (OP (iFadr 0 a1) fun x13 =>
 OP (iFadr 0 x13) fun x14 =>
 OP (iLoad false 1 h_2 x14) fun x15 =>
 IfP x15
 (OP (iBin .add (.string ⟨#[45]⟩) x9) fun x17 =>
 p45z8 P K a1 x17 h_2)
 (p45z8 P K a1 x9 h_2))
theorem e45 (a0 : Value) (h : Heap) : iwpP P c45 (bodyP [.tmp 2, .tmp 3] K) (frame0 [a0]) h = T45 P K a0 h := by kernel_rfl
theorem f45 {K : VK} {a0 : Value} {h : Heap} (H : T45 Tryz.prog K a0 h) : CallP Tryz.prog 45 [a0] h K :=
 callP_intro k45 (Nat.le_of_ble_eq_true rfl) ((e45 Tryz.prog K a0 h).mpr H)
/-! F75: pommel/num.Whole -/
noncomputable def c75 : ICode := .seq (.ops none [⟨(some 2), .e (.alloc 107 [(.bool false), (.slice none 0 0), (.bool false), (.slice none 0 0)])⟩])
 (.seq (.ops none [⟨(some 3), .p (.mv (.tmp 0))⟩,
 ⟨(some 4), .call 105 [(.tmp 3)]⟩,
 ⟨(some 5), .call 105 [(.const (.int .i64 (1)))]⟩,
 ⟨(some 6), .p (.build [(.bool false), (.slice none 0 0), (.bool false), (.slice none 0 0)] [(0, 2, (.tmp 4)), (2, 2, (.tmp 5))])⟩,
 ⟨none, .e (.store 4 (.tmp 2) (.tmp 6))⟩])
 (.ret))
theorem k75 : compFn Tryz.prog 75 [[], []] = some (7, c75, [.cell true 4 2]) := by kernel_rfl
def T75 (n0 : Value) (h : Heap) : Prop :=
 OH (iAlloc 107 [(.bool false), (.slice none 0 0), (.bool false), (.slice none 0 0)] h) fun x2 h_1 =>
 CallP P 105 [n0] h_1 fun x4 h_2 =>
 CallP P 105 [(.int .i64 (1))] h_2 fun x5 h_3 =>
 OP (iBuild [(.bool false), (.slice none 0 0), (.bool false), (.slice none 0 0)] [(0, 2, x4), (2, 2, x5)]) fun x6 =>
 OH (oStore 4 h_3 x2 x6) fun _ h_4 =>
 OP (iLoad true 4 h_4 x2) fun r0 =>
 K r0 h_4
theorem e75 (n0 : Value) (h : Heap) : iwpP P c75 (bodyP [.cell true 4 2] K) (frame0 [n0]) h = T75 P K n0 h := by kernel_rfl
theorem f75 {K : VK} {n0 : Value} {h : Heap} (H : T75 Tryz.prog K n0 h) : CallP Tryz.prog 75 [n0] h K :=
 callP_intro k75 (Nat.le_of_ble_eq_true rfl) ((e75 Tryz.prog K n0 h).mpr H)
/-! F77: (pommel/num.Rat).Div -/
noncomputable def c77 : ICode := .seq (.ops none [⟨(some 2), .e (.box 107 (.tmp 0))⟩,
 ⟨(some 3), .e (.box 107 (.tmp 1))⟩,
 ⟨(some 4), .e (.alloc 107 [(.bool false), (.slice none 0 0), (.bool false), (.slice none 0 0)])⟩])
 (.seq (.dops [(none, [⟨(some 5), .p (.fadr 0 (.tmp 2)), 0⟩,
 ⟨(some 6), .l (.load true 2 (.tmp 5)), 1⟩,
 ⟨(some 7), .p (.fadr 2 (.tmp 3)), 0⟩,
 ⟨(some 8), .l (.load true 2 (.tmp 7)), 4⟩,
 ⟨(some 9), .call 107 [(.tmp 6), (.tmp 8)], 15⟩,
 ⟨(some 10), .p (.fadr 2 (.tmp 2)), 0⟩,
 ⟨(some 11), .l (.load true 2 (.tmp 10)), 32⟩,
 ⟨(some 12), .p (.fadr 0 (.tmp 3)), 0⟩,
 ⟨(some 13), .l (.load true 2 (.tmp 12)), 128⟩,
 ⟨(some 14), .call 107 [(.tmp 11), (.tmp 13)], 511⟩,
 ⟨(some 15), .call 106 [(.tmp 9), (.tmp 14)], 1023⟩,
 ⟨none, .e (.store 4 (.tmp 4) (.tmp 15)), 2047⟩])])
 (.ret))
theorem k77 : compFn Tryz.prog 77 [[], []] = some (16, c77, [.cell true 4 4]) := by kernel_rfl
def T77 (a0 b1 : Value) (h : Heap) : Prop :=
 OH (iBox 107 h a0) fun a2 h_1 =>
 OH (iBox 107 h_1 b1) fun b3 h_2 =>
 OH (iAlloc 107 [(.bool false), (.slice none 0 0), (.bool false), (.slice none 0 0)] h_2) fun x4 h_3 =>
 OP (iFadr 0 a2) fun x5 =>
 OP (iLoad true 2 h_3 x5) fun x6 =>
 (True) ∧
 OP (iFadr 2 b3) fun x7 =>
 OP (iLoad true 2 h_3 x7) fun x8 =>
 (True) ∧
 CallP P 107 [x6, x8] h_3 fun x9 h_4 =>
 (True) ∧
 OP (iFadr 2 a2) fun x10 =>
 OP (iLoad true 2 h_4 x10) fun x11 =>
 (iLoad true 2 h_3 x10 = some x11 ∧ True) ∧
 OP (iFadr 0 b3) fun x12 =>
 OP (iLoad true 2 h_4 x12) fun x13 =>
 (iLoad true 2 h_3 x12 = some x13 ∧ True) ∧
 CallP P 107 [x11, x13] h_4 fun x14 h_5 =>
 (True) ∧
 CallP P 106 [x9, x14] h_5 fun x15 h_6 =>
 (True) ∧
 OH (oStore 4 h_6 x4 x15) fun _ h_7 =>
 (True) ∧
 OP (iLoad true 4 h_7 x4) fun r0 =>
 K r0 h_7
theorem e77 (a0 b1 : Value) (h : Heap) : iwpP P c77 (bodyP [.cell true 4 4] K) (frame0 [a0, b1]) h = T77 P K a0 b1 h := by kernel_rfl
theorem f77 {K : VK} {a0 b1 : Value} {h : Heap} (H : T77 Tryz.prog K a0 b1 h) : CallP Tryz.prog 77 [a0, b1] h K :=
 callP_intro k77 (Nat.le_of_ble_eq_true rfl) ((e77 Tryz.prog K a0 b1 h).mpr H)
/-! F78: pommel/linear.Nums -/
noncomputable def c78z6 : ICode := .seq (.ops none [⟨(some 12), .p (.bin .lss (.tmp 11) (.tmp 10))⟩])
 (.seq (.cond (.tmp 12) (.skip)
 (.exit 0))
 (.seq (.block 1 (.seq (.ops none [⟨(some 13), .p (.adrSl 4 (.tmp 9) (.tmp 11))⟩,
 ⟨(some 14), .l (.load true 4 (.tmp 13))⟩,
 ⟨(some 6), .e (.alloc 107 [(.bool false), (.slice none 0 0), (.bool false), (.slice none 0 0)])⟩,
 ⟨none, .e (.store 4 (.tmp 6) (.tmp 14))⟩])
 (.seq (.ops none [⟨(some 16), .l (.load true 4 (.tmp 6))⟩,
 ⟨(some 17), .call 45 [(.tmp 16)]⟩,
 ⟨(some 15), .p (.mv (.tmp 17))⟩,
 ⟨(some 18), .p (.ext (.tmp 15) 0)⟩,
 ⟨(some 19), .p (.ext (.tmp 15) 1)⟩,
 ⟨(some 7), .p (.mv (.tmp 18))⟩,
 ⟨(some 8), .p (.mv (.tmp 19))⟩])
 (.seq (.seq (.ops none [⟨(some 20), .p (.mv (.tmp 8))⟩,
 ⟨(some 21), .p (.bin .neq (.tmp 20) (.const (.int .i64 (0))))⟩])
 (.cond (.tmp 21) (.seq (.ops none [⟨(some 22), .p (.mv (.tmp 8))⟩,
 ⟨(some 2), .p (.mv (.const (.slice none 0 0)))⟩,
 ⟨(some 3), .p (.mv (.tmp 22))⟩])
 (.ret))
 (.skip)))
 (.ops none [⟨(some 23), .p (.mv (.tmp 4))⟩,
 ⟨(some 24), .p (.mv (.tmp 7))⟩,
 ⟨(some 25), .e (.mkSl 27 1 [(.string ⟨#[]⟩)] [(0, 1, (.tmp 24))])⟩,
 ⟨(some 26), .e (.app 27 1 16 (.tmp 23) (.tmp 25))⟩,
 ⟨(some 4), .p (.mv (.tmp 26))⟩])))))
 (.ops none [⟨(some 27), .p (.bin .add (.tmp 11) (.const (.int .i64 (1))))⟩,
 ⟨(some 11), .p (.mv (.tmp 27))⟩])))
noncomputable def c78z16 : ICode := .seq (.ops none [⟨(some 28), .p (.mv (.tmp 4))⟩,
 ⟨(some 2), .p (.mv (.tmp 28))⟩,
 ⟨(some 3), .p (.mv (.const (.int .i64 (0))))⟩])
 (.ret)
noncomputable def c78z3 : ICode := .cut [4] c78z16
noncomputable def c78 : ICode := .seq (.ops none [⟨(some 2), .p (.mv (.const (.slice none 0 0)))⟩,
 ⟨(some 3), .p (.mv (.const (.int .i64 (0))))⟩])
 (.seq (.ops none [⟨(some 4), .p (.mv (.const (.slice none 0 0)))⟩])
 (.seq (.seq (.ops none [⟨(some 9), .p (.mv (.tmp 0))⟩,
 ⟨(some 10), .p (.lenSl (.tmp 9))⟩,
 ⟨(some 11), .p (.mv (.const (.int .i64 (0))))⟩])
 (.block 0 (.loop [9, 10] [4, 11] c78z6))) c78z3))
theorem k78 : compFn Tryz.prog 78 [[], [], [], [9, 10], [4, 11], [], [], [], [], [], [], [], [], [4], []] = some (29, c78, [.tmp 2, .tmp 3]) := by kernel_rfl
def K78z0 (_P : Program) (K : VK) : Kont := bodyP [.tmp 2, .tmp 3] K
def K78z3 : Kont := thenK (iwpP P c78z3 (K78z0 P K)) (K78z0 P K)
def K78z5 : Kont := inBlockK 0 (K78z3 P K)
def K78z6 (x9 x10 : Value) (L1 : LK) : Kont := thenK (fun f' h'' => (([9, 10] : List Nat).map f' : List Value) = [x9, x10] ∧ L1 (([4, 11] : List Nat).map f') h'') (K78z5 P K)
def p78z6 (x9 x10 : Value) (L1 : LK) (xs : List Value) (h : Heap) : Prop := CutP (iwpP P c78z6 (K78z6 P K x9 x10 L1)) ([9, 10] ++ [4, 11]) ([x9, x10] ++ xs) h
def p78z16 (out4 : Value) (h : Heap) : Prop := CutP (iwpP P c78z16 (K78z0 P K)) [4] [out4] h
theorem q78z6 (x9 x10 : Value) (L1 : LK) (out4 x11 : Value) (h : Heap) : p78z6 P K x9 x10 L1 [out4, x11] h =
 (OP (iBin .lss x11 x10) fun x12 =>
 IfP x12
 (OP (iAdrSl 4 x9 x11) fun x13 =>
 OP (iLoad true 4 h x13) fun x14 =>
 OH (iAlloc 107 [(.bool false), (.slice none 0 0), (.bool false), (.slice none 0 0)] h) fun x6 h_1 =>
 OH (oStore 4 h_1 x6 x14) fun _ h_2 =>
 OP (iLoad true 4 h_2 x6) fun x16 =>
 CallP P 45 [x16] h_2 fun x17 h_3 =>
 OP (iExt 0 x17) fun x18 =>
 OP (iExt 1 x17) fun x19 =>
 OP (iBin .neq x19 (.int .i64 (0))) fun x21 =>
 IfP x21
 (K (.tuple #[(.slice none 0 0), x19]) h_3)
 (OH (iMkSl 27 1 [(.string ⟨#[]⟩)] h_3 [(0, 1, x18)]) fun x25 h_4 =>
 OH (iApp 27 1 16 h_4 out4 x25) fun x26 h_5 =>
 OP (iBin .add x11 (.int .i64 (1))) fun x27 =>
 ([x9, x10] : List Value) = [x9, x10] ∧ L1 [x26, x27] h_5))
 (p78z16 P K out4 h)) := (CutP_def _ _ _ _).trans (by kernel_rfl)
theorem q78z16 (out4 : Value) (h : Heap) : p78z16 P K out4 h =
 (K (.tuple #[out4, (.int .i64 (0))]) h) := (CutP_def _ _ _ _).trans (by kernel_rfl)
def T78 (l0 : Value) (h : Heap) : Prop :=
 OP (iLenSl l0) fun x10 =>
 LoopP [(.slice none 0 0), (.int .i64 (0))] h fun L1 xs hx =>
 p78z6 P K l0 x10 L1 xs hx
theorem e78 (l0 : Value) (h : Heap) : iwpP P c78 (bodyP [.tmp 2, .tmp 3] K) (frame0 [l0]) h = T78 P K l0 h := by kernel_rfl
theorem f78 {K : VK} {l0 : Value} {h : Heap} (H : T78 Tryz.prog K l0 h) : CallP Tryz.prog 78 [l0] h K :=
 callP_intro k78 (Nat.le_of_ble_eq_true rfl) ((e78 Tryz.prog K l0 h).mpr H)
/-! F89: pommel/num.text -/
noncomputable def c89z26 : ICode := .ops none [⟨(some 28), .p (.pick (.tmp 20) (.tmp 27) (.const (.bool false)))⟩]
noncomputable def c89z24 : ICode := .seq (.ops (some (20, true)) [⟨(some 27), .p (.pick (.tmp 24) (.const (.bool true)) (.tmp 26))⟩])
 (.cut [3, 4, 5, 6, 20, 27] c89z26)
noncomputable def c89z22 : ICode := .seq (.ops (some (24, false)) [⟨(some 25), .p (.mv (.tmp 5))⟩,
 ⟨(some 26), .p (.bin .gtr (.tmp 25) (.const (.int .u32 (0))))⟩])
 (.cut [3, 4, 5, 6, 20, 24, 26] c89z24)
noncomputable def c89z20 : ICode := .seq (.ops (some (20, true)) [⟨(some 21), .p (.mv (.tmp 4))⟩,
 ⟨(some 22), .p (.lenSl (.tmp 21))⟩,
 ⟨(some 23), .p (.bin .gtr (.tmp 22) (.const (.int .i64 (0))))⟩,
 ⟨(some 24), .p (.mv (.tmp 23))⟩])
 (.cut [3, 4, 5, 6, 20, 24] c89z22)
noncomputable def c89z18 : ICode := .cond (.tmp 28) (.skip)
 (.exit 2)
noncomputable def c89z17 : ICode := .seq (.block 3 (.seq (.ops none [⟨(some 31), .p (.mv (.tmp 3))⟩,
 ⟨(some 32), .p (.mv (.tmp 5))⟩,
 ⟨(some 33), .p (.bin .rem (.tmp 32) (.const (.int .u32 (10))))⟩,
 ⟨(some 34), .p (.bin .add (.const (.int .u32 (48))) (.tmp 33))⟩,
 ⟨(some 35), .p (.conv .u8 (.tmp 34))⟩,
 ⟨(some 36), .e (.mkSl 5 1 [(.int .u8 (0))] [(0, 1, (.tmp 35))])⟩,
 ⟨(some 37), .e (.app 5 1 1 (.tmp 31) (.tmp 36))⟩,
 ⟨(some 3), .p (.mv (.tmp 37))⟩])
 (.ops none [⟨(some 38), .p (.mv (.tmp 5))⟩,
 ⟨(some 39), .p (.bin .quo (.tmp 38) (.const (.int .u32 (10))))⟩,
 ⟨(some 5), .p (.mv (.tmp 39))⟩])))
 (.ops none [⟨(some 29), .p (.mv (.tmp 6))⟩,
 ⟨(some 30), .p (.bin .add (.tmp 29) (.const (.int .i64 (1))))⟩,
 ⟨(some 6), .p (.mv (.tmp 30))⟩])
noncomputable def c89z16 : ICode := .seq (.seq (.seq (.ops none [⟨(some 18), .p (.mv (.tmp 6))⟩,
 ⟨(some 19), .p (.bin .lss (.tmp 18) (.const (.int .i64 (9))))⟩,
 ⟨(some 20), .p (.mv (.tmp 19))⟩])
 (.cut [3, 4, 5, 6, 20] c89z20)) c89z18) c89z17
noncomputable def c89z30 : ICode := .ops none [⟨(some 40), .p (.mv (.tmp 4))⟩,
 ⟨(some 0), .p (.mv (.tmp 40))⟩]
noncomputable def c89z13 : ICode := .cut [3, 4] c89z30
noncomputable def c89z8 : ICode := .seq (.seq (.ops none [⟨(some 10), .p (.mv (.tmp 0))⟩,
 ⟨(some 11), .p (.lenSl (.tmp 10))⟩,
 ⟨(some 12), .p (.bin .gtr (.tmp 11) (.const (.int .i64 (0))))⟩])
 (.cond (.tmp 12) (.skip)
 (.exit 0)))
 (.block 1 (.seq (.ops none [⟨(some 14), .p (.mv (.tmp 0))⟩,
 ⟨(some 15), .call 114 [(.tmp 14), (.const (.int .u32 (1000000000)))]⟩,
 ⟨(some 13), .p (.mv (.tmp 15))⟩,
 ⟨(some 16), .p (.ext (.tmp 13) 0)⟩,
 ⟨(some 17), .p (.ext (.tmp 13) 1)⟩,
 ⟨(some 4), .p (.mv (.tmp 16))⟩,
 ⟨(some 5), .p (.mv (.tmp 17))⟩])
 (.seq (.seq (.ops none [⟨(some 6), .p (.mv (.const (.int .i64 (0))))⟩])
 (.block 2 (.loop [4] [3, 5, 6] c89z16))) c89z13)))
noncomputable def c89z31 : ICode := .seq (.ops none [⟨(some 41), .p (.mv (.tmp 3))⟩,
 ⟨(some 42), .call 115 [(.tmp 41)]⟩])
 (.seq (.ops none [⟨(some 43), .p (.mv (.tmp 3))⟩,
 ⟨(some 44), .l (.b2s (.tmp 43))⟩,
 ⟨(some 2), .p (.mv (.tmp 44))⟩])
 (.ret))
noncomputable def c89z6 : ICode := .cut [3] c89z31
noncomputable def c89 : ICode := .seq (.ops none [⟨(some 2), .p (.mv (.const (.string ⟨#[]⟩)))⟩])
 (.seq (.seq (.ops none [⟨(some 7), .p (.mv (.tmp 0))⟩,
 ⟨(some 8), .p (.lenSl (.tmp 7))⟩,
 ⟨(some 9), .p (.bin .eql (.tmp 8) (.const (.int .i64 (0))))⟩])
 (.cond (.tmp 9) (.seq (.ops none [⟨(some 2), .p (.mv (.const (.string ⟨#[48]⟩)))⟩])
 (.ret))
 (.skip)))
 (.seq (.ops none [⟨(some 3), .p (.mv (.const (.slice none 0 0)))⟩])
 (.seq (.block 0 (.loop [] [0, 3] c89z8)) c89z6)))
theorem k89 : compFn Tryz.prog 89 [[], [], [], [], [], [], [0, 3], [], [], [], [], [4], [3, 5, 6], [3, 4, 5, 6, 20], [3, 4, 5, 6, 20, 24], [3, 4, 5, 6, 20, 24, 26], [3, 4, 5, 6, 20, 27], [], [], [], [], [3, 4], [3], [], []] = some (45, c89, [.tmp 2]) := by kernel_rfl
def K89z0 (_P : Program) (K : VK) : Kont := bodyP [.tmp 2] K
def K89z6 : Kont := thenK (iwpP P c89z6 (K89z0 P K)) (K89z0 P K)
def K89z7 : Kont := inBlockK 0 (K89z6 P K)
def K89z8 (L1 : LK) : Kont := thenK (fun f' h'' => (([] : List Nat).map f' : List Value) = [] ∧ L1 (([0, 3] : List Nat).map f') h'') (K89z7 P K)
def K89z11 (L1 : LK) : Kont := inBlockK 1 (K89z8 P K L1)
def K89z13 (L1 : LK) : Kont := thenK (iwpP P c89z13 (K89z11 P K L1)) (K89z11 P K L1)
def K89z15 (L1 : LK) : Kont := inBlockK 2 (K89z13 P K L1)
def K89z16 (q4 : Value) (L1 L2 : LK) : Kont := thenK (fun f' h'' => (([4] : List Nat).map f' : List Value) = [q4] ∧ L2 (([3, 5, 6] : List Nat).map f') h'') (K89z15 P K L1)
def K89z17 (q4 : Value) (L1 L2 : LK) : Kont := thenK (iwpP P c89z17 (K89z16 P K q4 L1 L2)) (K89z16 P K q4 L1 L2)
def K89z18 (q4 : Value) (L1 L2 : LK) : Kont := thenK (iwpP P c89z18 (K89z17 P K q4 L1 L2)) (K89z17 P K q4 L1 L2)
def p89z8 (L1 : LK) (xs : List Value) (h : Heap) : Prop := CutP (iwpP P c89z8 (K89z8 P K L1)) ([] ++ [0, 3]) ([] ++ xs) h
def p89z16 (q4 : Value) (L1 L2 : LK) (xs : List Value) (h : Heap) : Prop := CutP (iwpP P c89z16 (K89z16 P K q4 L1 L2)) ([4] ++ [3, 5, 6]) ([q4] ++ xs) h
def p89z20 (b3 q4 r5 i6 x20 : Value) (L1 L2 : LK) (h : Heap) : Prop := CutP (iwpP P c89z20 (K89z18 P K q4 L1 L2)) [3, 4, 5, 6, 20] [b3, q4, r5, i6, x20] h
def p89z22 (b3 q4 r5 i6 x20 x24 : Value) (L1 L2 : LK) (h : Heap) : Prop := CutP (iwpP P c89z22 (K89z18 P K q4 L1 L2)) [3, 4, 5, 6, 20, 24] [b3, q4, r5, i6, x20, x24] h
def p89z24 (b3 q4 r5 i6 x20 x24 x26 : Value) (L1 L2 : LK) (h : Heap) : Prop := CutP (iwpP P c89z24 (K89z18 P K q4 L1 L2)) [3, 4, 5, 6, 20, 24, 26] [b3, q4, r5, i6, x20, x24, x26] h
def p89z26 (b3 q4 r5 i6 x20 x27 : Value) (L1 L2 : LK) (h : Heap) : Prop := CutP (iwpP P c89z26 (K89z18 P K q4 L1 L2)) [3, 4, 5, 6, 20, 27] [b3, q4, r5, i6, x20, x27] h
def p89z30 (b3 q4 : Value) (L1 : LK) (h : Heap) : Prop := CutP (iwpP P c89z30 (K89z11 P K L1)) [3, 4] [b3, q4] h
def p89z31 (b3 : Value) (h : Heap) : Prop := CutP (iwpP P c89z31 (K89z0 P K)) [3] [b3] h
theorem q89z26 (b3 q4 r5 i6 x20 x27 : Value) (L1 L2 : LK) (h : Heap) : p89z26 P K b3 q4 r5 i6 x20 x27 L1 L2 h =
 (OP (iPick x20 x27 (.bool false)) fun x28 =>
 IfP x28
 (OP (iBin .rem r5 (.int .u32 (10))) fun x33 =>
 OP (iBin .add (.int .u32 (48)) x33) fun x34 =>
 OP (iConv .u8 x34) fun x35 =>
 OH (iMkSl 5 1 [(.int .u8 (0))] h [(0, 1, x35)]) fun x36 h_1 =>
 OH (iApp 5 1 1 h_1 b3 x36) fun x37 h_2 =>
 OP (iBin .quo r5 (.int .u32 (10))) fun x39 =>
 OP (iBin .add i6 (.int .i64 (1))) fun x30 =>
 ([q4] : List Value) = [q4] ∧ L2 [x37, x39, x30] h_2)
 (p89z30 P K b3 q4 L1 h)) := (CutP_def _ _ _ _).trans (by kernel_rfl)
theorem q89z24 (b3 q4 r5 i6 x20 x24 x26 : Value) (L1 L2 : LK) (h : Heap) : p89z24 P K b3 q4 r5 i6 x20 x24 x26 L1 L2 h =
 (GdP x20 true
 (OP (iPick x24 (.bool true) x26) fun x27 =>
 p89z26 P K b3 q4 r5 i6 x20 x27 L1 L2 h)
 (p89z26 P K b3 q4 r5 i6 x20 undef L1 L2 h)) := (CutP_def _ _ _ _).trans (by kernel_rfl)
theorem q89z22 (b3 q4 r5 i6 x20 x24 : Value) (L1 L2 : LK) (h : Heap) : p89z22 P K b3 q4 r5 i6 x20 x24 L1 L2 h =
 (GdP x24 false
 (OP (iBin .gtr r5 (.int .u32 (0))) fun x26 =>
 p89z24 P K b3 q4 r5 i6 x20 x24 x26 L1 L2 h)
 (p89z24 P K b3 q4 r5 i6 x20 x24 undef L1 L2 h)) := (CutP_def _ _ _ _).trans (by kernel_rfl)
theorem q89z20 (b3 q4 r5 i6 x20 : Value) (L1 L2 : LK) (h : Heap) : p89z20 P K b3 q4 r5 i6 x20 L1 L2 h =
 (GdP x20 true
 (OP (iLenSl q4) fun x22 =>
 OP (iBin .gtr x22 (.int .i64 (0))) fun x23 =>
 p89z22 P K b3 q4 r5 i6 x20 x23 L1 L2 h)
 (p89z22 P K b3 q4 r5 i6 x20 undef L1 L2 h)) := (CutP_def _ _ _ _).trans (by kernel_rfl)
theorem q89z16 (q4 : Value) (L1 L2 : LK) (b3 r5 i6 : Value) (h : Heap) : p89z16 P K q4 L1 L2 [b3, r5, i6] h =
 (OP (iBin .lss i6 (.int .i64 (9))) fun x19 =>
 p89z20 P K b3 q4 r5 i6 x19 L1 L2 h) := (CutP_def _ _ _ _).trans (by kernel_rfl)
theorem q89z30 (b3 q4 : Value) (L1 : LK) (h : Heap) : p89z30 P K b3 q4 L1 h =
 (([] : List Value) = [] ∧ L1 [q4, b3] h) := (CutP_def _ _ _ _).trans (by kernel_rfl)
theorem q89z8 (L1 : LK) (x0 b3 : Value) (h : Heap) : p89z8 P K L1 [x0, b3] h =
 (OP (iLenSl x0) fun x11 =>
 OP (iBin .gtr x11 (.int .i64 (0))) fun x12 =>
 IfP x12
 (CallP P 114 [x0, (.int .u32 (1000000000))] h fun x15 h_1 =>
 OP (iExt 0 x15) fun x16 =>
 OP (iExt 1 x15) fun x17 =>
 LoopP [b3, x17, (.int .i64 (0))] h_1 fun L2 xs hx =>
 p89z16 P K x16 L1 L2 xs hx)
 (p89z31 P K b3 h)) := (CutP_def _ _ _ _).trans (by kernel_rfl)
theorem q89z31 (b3 : Value) (h : Heap) : p89z31 P K b3 h =
 (CallP P 115 [b3] h fun x42 h_1 =>
 OP (iB2s h_1 b3) fun x44 =>
 K x44 h_1) := (CutP_def _ _ _ _).trans (by kernel_rfl)
def T89 (x0 : Value) (h : Heap) : Prop :=
 OP (iLenSl x0) fun x8 =>
 OP (iBin .eql x8 (.int .i64 (0))) fun x9 =>
 IfP x9
 (K (.string ⟨#[48]⟩) h)
 (LoopP [x0, (.slice none 0 0)] h fun L1 xs hx =>
 p89z8 P K L1 xs hx)
theorem e89 (x0 : Value) (h : Heap) : iwpP P c89 (bodyP [.tmp 2] K) (frame0 [x0]) h = T89 P K x0 h := by kernel_rfl
theorem f89 {K : VK} {x0 : Value} {h : Heap} (H : T89 Tryz.prog K x0 h) : CallP Tryz.prog 89 [x0] h K :=
 callP_intro k89 (Nat.le_of_ble_eq_true rfl) ((e89 Tryz.prog K x0 h).mpr H)
/-! F90: (pommel/num.Rat).Integer -/
noncomputable def c90z6 : ICode := .ops none [⟨(some 15), .p (.pick (.tmp 8) (.tmp 14) (.const (.bool false)))⟩,
 ⟨(some 2), .p (.mv (.tmp 15))⟩]
noncomputable def c90z4 : ICode := .seq (.ops (some (8, true)) [⟨(some 9), .p (.fadr 2 (.tmp 1))⟩,
 ⟨(some 10), .p (.fadr 1 (.tmp 9))⟩,
 ⟨(some 11), .l (.load false 1 (.tmp 10))⟩,
 ⟨(some 12), .p (.adrSl 1 (.tmp 11) (.const (.int .i64 (0))))⟩,
 ⟨(some 13), .l (.load false 1 (.tmp 12))⟩,
 ⟨(some 14), .p (.bin .eql (.tmp 13) (.const (.int .u32 (1))))⟩])
 (.cut [8, 14] c90z6)
noncomputable def c90z2 : ICode := .ret
noncomputable def c90 : ICode := .seq (.ops none [⟨(some 1), .e (.box 107 (.tmp 0))⟩,
 ⟨(some 2), .p (.mv (.const (.bool false)))⟩])
 (.seq (.seq (.ops none [⟨(some 3), .p (.fadr 2 (.tmp 1))⟩,
 ⟨(some 4), .p (.fadr 1 (.tmp 3))⟩,
 ⟨(some 5), .l (.load false 1 (.tmp 4))⟩,
 ⟨(some 6), .p (.lenSl (.tmp 5))⟩,
 ⟨(some 7), .p (.bin .eql (.tmp 6) (.const (.int .i64 (1))))⟩,
 ⟨(some 8), .p (.mv (.tmp 7))⟩])
 (.cut [1, 8] c90z4)) c90z2)
theorem k90 : compFn Tryz.prog 90 [[], [1, 8], [8, 14], []] = some (16, c90, [.tmp 2]) := by kernel_rfl
def K90z0 (_P : Program) (K : VK) : Kont := bodyP [.tmp 2] K
def K90z2 : Kont := thenK (iwpP P c90z2 (K90z0 P K)) (K90z0 P K)
def p90z4 (a1 x8 : Value) (h : Heap) : Prop := CutP (iwpP P c90z4 (K90z2 P K)) [1, 8] [a1, x8] h
def p90z6 (x8 x14 : Value) (h : Heap) : Prop := CutP (iwpP P c90z6 (K90z2 P K)) [8, 14] [x8, x14] h
theorem q90z6 (x8 x14 : Value) (h : Heap) : p90z6 P K x8 x14 h =
 (OP (iPick x8 x14 (.bool false)) fun x15 =>
 K x15 h) := (CutP_def _ _ _ _).trans (by kernel_rfl)
theorem q90z4 (a1 x8 : Value) (h : Heap) : p90z4 P K a1 x8 h =
 (GdP x8 true
 (OP (iFadr 2 a1) fun x9 =>
 OP (iFadr 1 x9) fun x10 =>
 OP (iLoad false 1 h x10) fun x11 =>
 OP (iAdrSl 1 x11 (.int .i64 (0))) fun x12 =>
 OP (iLoad false 1 h x12) fun x13 =>
 OP (iBin .eql x13 (.int .u32 (1))) fun x14 =>
 p90z6 P K x8 x14 h)
 (p90z6 P K x8 undef h)) := (CutP_def _ _ _ _).trans (by kernel_rfl)
def T90 (a0 : Value) (h : Heap) : Prop :=
 OH (iBox 107 h a0) fun a1 h_1 =>
 OP (iFadr 2 a1) fun x3 =>
 OP (iFadr 1 x3) fun x4 =>
 OP (iLoad false 1 h_1 x4) fun x5 =>
 OP (iLenSl x5) fun x6 =>
 OP (iBin .eql x6 (.int .i64 (1))) fun x7 =>
 p90z4 P K a1 x7 h_1
theorem e90 (a0 : Value) (h : Heap) : iwpP P c90 (bodyP [.tmp 2] K) (frame0 [a0]) h = T90 P K a0 h := by kernel_rfl
theorem f90 {K : VK} {a0 : Value} {h : Heap} (H : T90 Tryz.prog K a0 h) : CallP Tryz.prog 90 [a0] h K :=
 callP_intro k90 (Nat.le_of_ble_eq_true rfl) ((e90 Tryz.prog K a0 h).mpr H)
/-! F106: pommel/num.Ratio -/
noncomputable def c106z4 : ICode := .seq (.ops none [⟨(some 16), .l (.load true 2 (.tmp 2))⟩,
 ⟨(some 17), .l (.load true 2 (.tmp 3))⟩,
 ⟨(some 18), .call 120 [(.tmp 16), (.tmp 17)]⟩,
 ⟨(some 5), .e (.alloc 105 [(.bool false), (.slice none 0 0)])⟩,
 ⟨none, .e (.store 2 (.tmp 5) (.tmp 18))⟩])
 (.seq (.seq (.dops [(none, [⟨(some 19), .l (.load true 2 (.tmp 5)), 0⟩,
 ⟨(some 20), .call 105 [(.const (.int .i64 (1)))], 0⟩,
 ⟨(some 21), .call 111 [(.tmp 19), (.tmp 20)], 3⟩,
 ⟨(some 22), .p (.bin .eql (.tmp 21) (.const (.int .i64 (0)))), 7⟩])])
 (.cond (.tmp 22) (.seq (.ops none [⟨(some 23), .l (.load true 2 (.tmp 2))⟩,
 ⟨(some 24), .l (.load true 2 (.tmp 3))⟩,
 ⟨(some 25), .p (.build [(.bool false), (.slice none 0 0), (.bool false), (.slice none 0 0)] [(0, 2, (.tmp 23)), (2, 2, (.tmp 24))])⟩,
 ⟨none, .e (.store 4 (.tmp 4) (.tmp 25))⟩])
 (.ret))
 (.skip)))
 (.seq (.ops none [⟨(some 27), .l (.load true 2 (.tmp 2))⟩,
 ⟨(some 28), .l (.load true 2 (.tmp 5))⟩,
 ⟨(some 29), .call 121 [(.tmp 27), (.tmp 28)]⟩,
 ⟨(some 26), .p (.mv (.tmp 29))⟩,
 ⟨(some 30), .p (.ext (.tmp 26) 0)⟩,
 ⟨(some 31), .p (.ext (.tmp 26) 1)⟩,
 ⟨(some 6), .e (.alloc 105 [(.bool false), (.slice none 0 0)])⟩,
 ⟨(some 7), .e (.alloc 105 [(.bool false), (.slice none 0 0)])⟩,
 ⟨none, .e (.store 2 (.tmp 6) (.tmp 30))⟩,
 ⟨none, .e (.store 2 (.tmp 7) (.tmp 31))⟩])
 (.seq (.ops none [⟨(some 33), .l (.load true 2 (.tmp 3))⟩,
 ⟨(some 34), .l (.load true 2 (.tmp 5))⟩,
 ⟨(some 35), .call 121 [(.tmp 33), (.tmp 34)]⟩,
 ⟨(some 32), .p (.mv (.tmp 35))⟩,
 ⟨(some 36), .p (.ext (.tmp 32) 0)⟩,
 ⟨(some 37), .p (.ext (.tmp 32) 1)⟩,
 ⟨(some 8), .e (.alloc 105 [(.bool false), (.slice none 0 0)])⟩,
 ⟨(some 9), .e (.alloc 105 [(.bool false), (.slice none 0 0)])⟩,
 ⟨none, .e (.store 2 (.tmp 8) (.tmp 36))⟩,
 ⟨none, .e (.store 2 (.tmp 9) (.tmp 37))⟩])
 (.seq (.ops none [⟨(some 38), .l (.load true 2 (.tmp 6))⟩,
 ⟨(some 39), .l (.load true 2 (.tmp 8))⟩,
 ⟨(some 40), .p (.build [(.bool false), (.slice none 0 0), (.bool false), (.slice none 0 0)] [(0, 2, (.tmp 38)), (2, 2, (.tmp 39))])⟩,
 ⟨none, .e (.store 4 (.tmp 4) (.tmp 40))⟩])
 (.ret)))))
noncomputable def c106 : ICode := .seq (.ops none [⟨(some 2), .e (.box 105 (.tmp 0))⟩,
 ⟨(some 3), .e (.box 105 (.tmp 1))⟩,
 ⟨(some 4), .e (.alloc 107 [(.bool false), (.slice none 0 0), (.bool false), (.slice none 0 0)])⟩])
 (.seq (.seq (.ops none [⟨(some 10), .p (.fadr 0 (.tmp 3))⟩,
 ⟨(some 11), .l (.load false 1 (.tmp 10))⟩])
 (.cond (.tmp 11) (.dops [(none, [⟨(some 12), .l (.load true 2 (.tmp 2)), 0⟩,
 ⟨(some 13), .call 119 [(.tmp 12)], 1⟩,
 ⟨(some 14), .l (.load true 2 (.tmp 3)), 0⟩,
 ⟨(some 15), .call 119 [(.tmp 14)], 7⟩,
 ⟨none, .e (.store 2 (.tmp 2) (.tmp 13)), 15⟩,
 ⟨none, .e (.store 2 (.tmp 3) (.tmp 15)), 31⟩])])
 (.skip)))
 (.cut [2, 3, 4] c106z4))
theorem k106 : compFn Tryz.prog 106 [[], [], [2, 3, 4], [], [], [], [], [], [], []] = some (41, c106, [.cell true 4 4]) := by kernel_rfl
def K106z0 (_P : Program) (K : VK) : Kont := bodyP [.cell true 4 4] K
def p106z4 (num2 den3 x4 : Value) (h : Heap) : Prop := CutP (iwpP P c106z4 (K106z0 P K)) [2, 3, 4] [num2, den3, x4] h
theorem q106z4 (num2 den3 x4 : Value) (h : Heap) : p106z4 P K num2 den3 x4 h =
 (OP (iLoad true 2 h num2) fun x16 =>
 OP (iLoad true 2 h den3) fun x17 =>
 CallP P 120 [x16, x17] h fun x18 h_1 =>
 OH (iAlloc 105 [(.bool false), (.slice none 0 0)] h_1) fun g5 h_2 =>
 OH (oStore 2 h_2 g5 x18) fun _ h_3 =>
 OP (iLoad true 2 h_3 g5) fun x19 =>
 (True) ∧
 CallP P 105 [(.int .i64 (1))] h_3 fun x20 h_4 =>
 (iLoad true 2 h_4 g5 = some x19 ∧ True) ∧
 CallP P 111 [x19, x20] h_4 fun x21 h_5 =>
 (True) ∧
 OP (iBin .eql x21 (.int .i64 (0))) fun x22 =>
 IfP x22
 (OP (iLoad true 2 h_5 num2) fun x23 =>
 OP (iLoad true 2 h_5 den3) fun x24 =>
 OP (iBuild [(.bool false), (.slice none 0 0), (.bool false), (.slice none 0 0)] [(0, 2, x23), (2, 2, x24)]) fun x25 =>
 OH (oStore 4 h_5 x4 x25) fun _ h_6 =>
 OP (iLoad true 4 h_6 x4) fun r0 =>
 K r0 h_6)
 (OP (iLoad true 2 h_5 num2) fun x27 =>
 OP (iLoad true 2 h_5 g5) fun x28 =>
 CallP P 121 [x27, x28] h_5 fun x29 h_6 =>
 OP (iExt 0 x29) fun x30 =>
 OP (iExt 1 x29) fun x31 =>
 OH (iAlloc 105 [(.bool false), (.slice none 0 0)] h_6) fun n6 h_7 =>
 OH (iAlloc 105 [(.bool false), (.slice none 0 0)] h_7) fun x7 h_8 =>
 OH (oStore 2 h_8 n6 x30) fun _ h_9 =>
 OH (oStore 2 h_9 x7 x31) fun _ h_10 =>
 OP (iLoad true 2 h_10 den3) fun x33 =>
 OP (iLoad true 2 h_10 g5) fun x34 =>
 CallP P 121 [x33, x34] h_10 fun x35 h_11 =>
 OP (iExt 0 x35) fun x36 =>
 OP (iExt 1 x35) fun x37 =>
 OH (iAlloc 105 [(.bool false), (.slice none 0 0)] h_11) fun d8 h_12 =>
 OH (iAlloc 105 [(.bool false), (.slice none 0 0)] h_12) fun x9 h_13 =>
 OH (oStore 2 h_13 d8 x36) fun _ h_14 =>
 OH (oStore 2 h_14 x9 x37) fun _ h_15 =>
 OP (iLoad true 2 h_15 n6) fun x38 =>
 OP (iLoad true 2 h_15 d8) fun x39 =>
 OP (iBuild [(.bool false), (.slice none 0 0), (.bool false), (.slice none 0 0)] [(0, 2, x38), (2, 2, x39)]) fun x40 =>
 OH (oStore 4 h_15 x4 x40) fun _ h_16 =>
 OP (iLoad true 4 h_16 x4) fun r0 =>
 K r0 h_16)) := (CutP_def _ _ _ _).trans (by kernel_rfl)
def T106 (num0 den1 : Value) (h : Heap) : Prop :=
 OH (iBox 105 h num0) fun num2 h_1 =>
 OH (iBox 105 h_1 den1) fun den3 h_2 =>
 OH (iAlloc 107 [(.bool false), (.slice none 0 0), (.bool false), (.slice none 0 0)] h_2) fun x4 h_3 =>
 OP (iFadr 0 den3) fun x10 =>
 OP (iLoad false 1 h_3 x10) fun x11 =>
 IfP x11
 (OP (iLoad true 2 h_3 num2) fun x12 =>
 (True) ∧
 CallP P 119 [x12] h_3 fun x13 h_4 =>
 (True) ∧
 OP (iLoad true 2 h_4 den3) fun x14 =>
 (iLoad true 2 h_3 den3 = some x14 ∧ True) ∧
 CallP P 119 [x14] h_4 fun x15 h_5 =>
 (True) ∧
 OH (oStore 2 h_5 num2 x13) fun _ h_6 =>
 (True) ∧
 OH (oStore 2 h_6 den3 x15) fun _ h_7 =>
 (True) ∧
 p106z4 P K num2 den3 x4 h_7)
 (p106z4 P K num2 den3 x4 h_3)
theorem e106 (num0 den1 : Value) (h : Heap) : iwpP P c106 (bodyP [.cell true 4 4] K) (frame0 [num0, den1]) h = T106 P K num0 den1 h := by kernel_rfl
theorem f106 {K : VK} {num0 den1 : Value} {h : Heap} (H : T106 Tryz.prog K num0 den1 h) : CallP Tryz.prog 106 [num0, den1] h K :=
 callP_intro k106 (Nat.le_of_ble_eq_true rfl) ((e106 Tryz.prog K num0 den1 h).mpr H)
/-! F120: (pommel/num.Int).Gcd -/
noncomputable def c120z5 : ICode := .seq (.seq (.ops none [⟨(some 13), .p (.mv (.tmp 6))⟩,
 ⟨(some 14), .p (.lenSl (.tmp 13))⟩,
 ⟨(some 15), .p (.bin .gtr (.tmp 14) (.const (.int .i64 (0))))⟩])
 (.cond (.tmp 15) (.skip)
 (.exit 0)))
 (.block 1 (.seq (.ops none [⟨(some 17), .p (.mv (.tmp 5))⟩,
 ⟨(some 18), .p (.mv (.tmp 6))⟩,
 ⟨(some 19), .call 130 [(.tmp 17), (.tmp 18)]⟩,
 ⟨(some 16), .p (.mv (.tmp 19))⟩,
 ⟨(some 20), .p (.ext (.tmp 16) 0)⟩,
 ⟨(some 21), .p (.ext (.tmp 16) 1)⟩,
 ⟨(some 7), .p (.mv (.tmp 20))⟩,
 ⟨(some 8), .p (.mv (.tmp 21))⟩])
 (.ops none [⟨(some 22), .p (.mv (.tmp 6))⟩,
 ⟨(some 23), .p (.mv (.tmp 8))⟩,
 ⟨(some 5), .p (.mv (.tmp 22))⟩,
 ⟨(some 6), .p (.mv (.tmp 23))⟩])))
noncomputable def c120z10 : ICode := .seq (.ops none [⟨(some 24), .p (.mv (.tmp 5))⟩,
 ⟨(some 25), .call 117 [(.const (.bool false)), (.tmp 24)]⟩,
 ⟨none, .e (.store 2 (.tmp 4) (.tmp 25))⟩])
 (.ret)
noncomputable def c120z3 : ICode := .cut [4, 5] c120z10
noncomputable def c120 : ICode := .seq (.ops none [⟨(some 2), .e (.box 105 (.tmp 0))⟩,
 ⟨(some 3), .e (.box 105 (.tmp 1))⟩,
 ⟨(some 4), .e (.alloc 105 [(.bool false), (.slice none 0 0)])⟩])
 (.seq (.dops [(none, [⟨(some 9), .p (.fadr 1 (.tmp 2)), 0⟩,
 ⟨(some 10), .l (.load false 1 (.tmp 9)), 1⟩,
 ⟨(some 11), .p (.fadr 1 (.tmp 3)), 0⟩,
 ⟨(some 12), .l (.load false 1 (.tmp 11)), 4⟩,
 ⟨(some 5), .p (.mv (.tmp 10)), 3⟩,
 ⟨(some 6), .p (.mv (.tmp 12)), 31⟩])])
 (.seq (.block 0 (.loop [4] [5, 6] c120z5)) c120z3))
theorem k120 : compFn Tryz.prog 120 [[], [], [4], [5, 6], [], [], [], [4, 5], []] = some (26, c120, [.cell true 2 4]) := by kernel_rfl
def K120z0 (_P : Program) (K : VK) : Kont := bodyP [.cell true 2 4] K
def K120z3 : Kont := thenK (iwpP P c120z3 (K120z0 P K)) (K120z0 P K)
def K120z4 : Kont := inBlockK 0 (K120z3 P K)
def K120z5 (x4 : Value) (L1 : LK) : Kont := thenK (fun f' h'' => (([4] : List Nat).map f' : List Value) = [x4] ∧ L1 (([5, 6] : List Nat).map f') h'') (K120z4 P K)
def p120z5 (x4 : Value) (L1 : LK) (xs : List Value) (h : Heap) : Prop := CutP (iwpP P c120z5 (K120z5 P K x4 L1)) ([4] ++ [5, 6]) ([x4] ++ xs) h
def p120z10 (x4 x5 : Value) (h : Heap) : Prop := CutP (iwpP P c120z10 (K120z0 P K)) [4, 5] [x4, x5] h
theorem q120z5 (x4 : Value) (L1 : LK) (x5 y6 : Value) (h : Heap) : p120z5 P K x4 L1 [x5, y6] h =
 (OP (iLenSl y6) fun x14 =>
 OP (iBin .gtr x14 (.int .i64 (0))) fun x15 =>
 IfP x15
 (CallP P 130 [x5, y6] h fun x19 h_1 =>
 OP (iExt 0 x19) fun x20 =>
 OP (iExt 1 x19) fun x21 =>
 ([x4] : List Value) = [x4] ∧ L1 [y6, x21] h_1)
 (p120z10 P K x4 x5 h)) := (CutP_def _ _ _ _).trans (by kernel_rfl)
theorem q120z10 (x4 x5 : Value) (h : Heap) : p120z10 P K x4 x5 h =
 (CallP P 117 [(.bool false), x5] h fun x25 h_1 =>
 OH (oStore 2 h_1 x4 x25) fun _ h_2 =>
 OP (iLoad true 2 h_2 x4) fun r0 =>
 K r0 h_2) := (CutP_def _ _ _ _).trans (by kernel_rfl)
def T120 (a0 b1 : Value) (h : Heap) : Prop :=
 OH (iBox 105 h a0) fun a2 h_1 =>
 OH (iBox 105 h_1 b1) fun b3 h_2 =>
 OH (iAlloc 105 [(.bool false), (.slice none 0 0)] h_2) fun x4 h_3 =>
 OP (iFadr 1 a2) fun x9 =>
 OP (iLoad false 1 h_3 x9) fun x10 =>
 (True) ∧
 OP (iFadr 1 b3) fun x11 =>
 OP (iLoad false 1 h_3 x11) fun x12 =>
 (True) ∧
 LoopP [x10, x12] h_3 fun L1 xs hx =>
 p120z5 P K x4 L1 xs hx
theorem e120 (a0 b1 : Value) (h : Heap) : iwpP P c120 (bodyP [.cell true 2 4] K) (frame0 [a0, b1]) h = T120 P K a0 b1 h := by kernel_rfl
theorem f120 {K : VK} {a0 b1 : Value} {h : Heap} (H : T120 Tryz.prog K a0 b1 h) : CallP Tryz.prog 120 [a0, b1] h K :=
 callP_intro k120 (Nat.le_of_ble_eq_true rfl) ((e120 Tryz.prog K a0 b1 h).mpr H)
/-! F121: (pommel/num.Int).Quo -/
noncomputable def c121z9 : ICode := .ops none [⟨(some 38), .p (.pick (.tmp 32) (.tmp 37) (.const (.bool false)))⟩]
noncomputable def c121z7 : ICode := .seq (.ops (some (32, true)) [⟨(some 33), .p (.fadr 0 (.tmp 2))⟩,
 ⟨(some 34), .l (.load false 1 (.tmp 33))⟩,
 ⟨(some 35), .p (.fadr 0 (.tmp 3))⟩,
 ⟨(some 36), .l (.load false 1 (.tmp 35))⟩,
 ⟨(some 37), .p (.eqb true (.tmp 34) (.tmp 36))⟩])
 (.cut [3, 4, 5, 8, 9, 32, 37] c121z9)
noncomputable def c121z5 : ICode := .cond (.tmp 38) (.dops [(none, [⟨(some 39), .l (.load true 2 (.tmp 8)), 0⟩,
 ⟨(some 40), .call 105 [(.const (.int .i64 (1)))], 0⟩,
 ⟨(some 41), .call 127 [(.tmp 39), (.tmp 40)], 3⟩,
 ⟨(some 42), .l (.load true 2 (.tmp 9)), 0⟩,
 ⟨(some 43), .l (.load true 2 (.tmp 3)), 0⟩,
 ⟨(some 44), .call 113 [(.tmp 42), (.tmp 43)], 31⟩,
 ⟨none, .e (.store 2 (.tmp 8) (.tmp 41)), 63⟩,
 ⟨none, .e (.store 2 (.tmp 9) (.tmp 44)), 127⟩])])
 (.skip)
noncomputable def c121z10 : ICode := .seq (.dops [(none, [⟨(some 45), .l (.load true 2 (.tmp 8)), 0⟩,
 ⟨(some 46), .l (.load true 2 (.tmp 9)), 0⟩,
 ⟨none, .e (.store 2 (.tmp 4) (.tmp 45)), 1⟩,
 ⟨none, .e (.store 2 (.tmp 5) (.tmp 46)), 7⟩])])
 (.ret)
noncomputable def c121z4 : ICode := .cut [4, 5, 8, 9] c121z10
noncomputable def c121 : ICode := .seq (.ops none [⟨(some 2), .e (.box 105 (.tmp 0))⟩,
 ⟨(some 3), .e (.box 105 (.tmp 1))⟩,
 ⟨(some 4), .e (.alloc 105 [(.bool false), (.slice none 0 0)])⟩,
 ⟨(some 5), .e (.alloc 105 [(.bool false), (.slice none 0 0)])⟩])
 (.seq (.ops none [⟨(some 11), .p (.fadr 1 (.tmp 2))⟩,
 ⟨(some 12), .l (.load false 1 (.tmp 11))⟩,
 ⟨(some 13), .p (.fadr 1 (.tmp 3))⟩,
 ⟨(some 14), .l (.load false 1 (.tmp 13))⟩,
 ⟨(some 15), .call 130 [(.tmp 12), (.tmp 14)]⟩,
 ⟨(some 10), .p (.mv (.tmp 15))⟩,
 ⟨(some 16), .p (.ext (.tmp 10) 0)⟩,
 ⟨(some 17), .p (.ext (.tmp 10) 1)⟩,
 ⟨(some 6), .p (.mv (.tmp 16))⟩,
 ⟨(some 7), .p (.mv (.tmp 17))⟩])
 (.seq (.dops [(none, [⟨(some 8), .e (.fl (.alloc 105 [(.bool false), (.slice none 0 0)])), 0⟩,
 ⟨(some 9), .e (.fl (.alloc 105 [(.bool false), (.slice none 0 0)])), 0⟩,
 ⟨(some 18), .p (.fadr 0 (.tmp 2)), 0⟩,
 ⟨(some 19), .l (.load false 1 (.tmp 18)), 4⟩,
 ⟨(some 20), .p (.fadr 0 (.tmp 3)), 0⟩,
 ⟨(some 21), .l (.load false 1 (.tmp 20)), 16⟩,
 ⟨(some 22), .p (.eqb true (.tmp 19) (.tmp 21)), 60⟩,
 ⟨(some 23), .p (.mv (.tmp 6)), 0⟩,
 ⟨(some 24), .call 117 [(.tmp 22), (.tmp 23)], 252⟩,
 ⟨(some 25), .p (.fadr 0 (.tmp 2)), 0⟩,
 ⟨(some 26), .l (.load false 1 (.tmp 25)), 512⟩,
 ⟨(some 27), .p (.mv (.tmp 7)), 0⟩,
 ⟨(some 28), .call 117 [(.tmp 26), (.tmp 27)], 4092⟩,
 ⟨none, .e (.store 2 (.tmp 8) (.tmp 24)), 8191⟩,
 ⟨none, .e (.store 2 (.tmp 9) (.tmp 28)), 16383⟩])])
 (.seq (.seq (.seq (.ops none [⟨(some 29), .p (.mv (.tmp 7))⟩,
 ⟨(some 30), .p (.lenSl (.tmp 29))⟩,
 ⟨(some 31), .p (.bin .gtr (.tmp 30) (.const (.int .i64 (0))))⟩,
 ⟨(some 32), .p (.mv (.tmp 31))⟩])
 (.cut [2, 3, 4, 5, 8, 9, 32] c121z7)) c121z5) c121z4)))
theorem k121 : compFn Tryz.prog 121 [[], [], [], [2, 3, 4, 5, 8, 9, 32], [3, 4, 5, 8, 9, 32, 37], [], [4, 5, 8, 9], []] = some (47, c121, [.cell true 2 4, .cell true 2 5]) := by kernel_rfl
def K121z0 (_P : Program) (K : VK) : Kont := bodyP [.cell true 2 4, .cell true 2 5] K
def K121z4 : Kont := thenK (iwpP P c121z4 (K121z0 P K)) (K121z0 P K)
def K121z5 : Kont := thenK (iwpP P c121z5 (K121z4 P K)) (K121z4 P K)
def p121z7 (a2 b3 quo4 rest5 x8 y9 x32 : Value) (h : Heap) : Prop := CutP (iwpP P c121z7 (K121z5 P K)) [2, 3, 4, 5, 8, 9, 32] [a2, b3, quo4, rest5, x8, y9, x32] h
def p121z9 (b3 quo4 rest5 x8 y9 x32 x37 : Value) (h : Heap) : Prop := CutP (iwpP P c121z9 (K121z5 P K)) [3, 4, 5, 8, 9, 32, 37] [b3, quo4, rest5, x8, y9, x32, x37] h
def p121z10 (quo4 rest5 x8 y9 : Value) (h : Heap) : Prop := CutP (iwpP P c121z10 (K121z0 P K)) [4, 5, 8, 9] [quo4, rest5, x8, y9] h
theorem q121z9 (b3 quo4 rest5 x8 y9 x32 x37 : Value) (h : Heap) : p121z9 P K b3 quo4 rest5 x8 y9 x32 x37 h =
 (OP (iPick x32 x37 (.bool false)) fun x38 =>
 IfP x38
 (OP (iLoad true 2 h x8) fun x39 =>
 (True) ∧
 CallP P 105 [(.int .i64 (1))] h fun x40 h_1 =>
 (iLoad true 2 h_1 x8 = some x39 ∧ True) ∧
 CallP P 127 [x39, x40] h_1 fun x41 h_2 =>
 (True) ∧
 OP (iLoad true 2 h_2 y9) fun x42 =>
 (iLoad true 2 h y9 = some x42 ∧ iLoad true 2 h_1 y9 = some x42 ∧ True) ∧
 OP (iLoad true 2 h_2 b3) fun x43 =>
 (iLoad true 2 h b3 = some x43 ∧ iLoad true 2 h_1 b3 = some x43 ∧ True) ∧
 CallP P 113 [x42, x43] h_2 fun x44 h_3 =>
 (True) ∧
 OH (oStore 2 h_3 x8 x41) fun _ h_4 =>
 (True) ∧
 OH (oStore 2 h_4 y9 x44) fun _ h_5 =>
 (True) ∧
 p121z10 P K quo4 rest5 x8 y9 h_5)
 (p121z10 P K quo4 rest5 x8 y9 h)) := (CutP_def _ _ _ _).trans (by kernel_rfl)
theorem q121z7 (a2 b3 quo4 rest5 x8 y9 x32 : Value) (h : Heap) : p121z7 P K a2 b3 quo4 rest5 x8 y9 x32 h =
 (GdP x32 true
 (OP (iFadr 0 a2) fun x33 =>
 OP (iLoad false 1 h x33) fun x34 =>
 OP (iFadr 0 b3) fun x35 =>
 OP (iLoad false 1 h x35) fun x36 =>
 OP (iEqb true x34 x36) fun x37 =>
 p121z9 P K b3 quo4 rest5 x8 y9 x32 x37 h)
 (p121z9 P K b3 quo4 rest5 x8 y9 x32 undef h)) := (CutP_def _ _ _ _).trans (by kernel_rfl)
theorem q121z10 (quo4 rest5 x8 y9 : Value) (h : Heap) : p121z10 P K quo4 rest5 x8 y9 h =
 (OP (iLoad true 2 h x8) fun x45 =>
 (True) ∧
 OP (iLoad true 2 h y9) fun x46 =>
 (True) ∧
 OH (oStore 2 h quo4 x45) fun _ h_1 =>
 (iLoad true 2 h_1 y9 = some x46 ∧ True) ∧
 OH (oStore 2 h_1 rest5 x46) fun _ h_2 =>
 (True) ∧
 OP (iLoad true 2 h_2 quo4) fun r0 =>
 OP (iLoad true 2 h_2 rest5) fun r1 =>
 K (.tuple #[r0, r1]) h_2) := (CutP_def _ _ _ _).trans (by kernel_rfl)
def T121 (a0 b1 : Value) (h : Heap) : Prop :=
 OH (iBox 105 h a0) fun a2 h_1 =>
 OH (iBox 105 h_1 b1) fun b3 h_2 =>
 OH (iAlloc 105 [(.bool false), (.slice none 0 0)] h_2) fun quo4 h_3 =>
 OH (iAlloc 105 [(.bool false), (.slice none 0 0)] h_3) fun rest5 h_4 =>
 OP (iFadr 1 a2) fun x11 =>
 OP (iLoad false 1 h_4 x11) fun x12 =>
 OP (iFadr 1 b3) fun x13 =>
 OP (iLoad false 1 h_4 x13) fun x14 =>
 CallP P 130 [x12, x14] h_4 fun x15 h_5 =>
 OP (iExt 0 x15) fun x16 =>
 OP (iExt 1 x15) fun x17 =>
 OH (iAlloc 105 [(.bool false), (.slice none 0 0)] h_5) fun x8 h_6 =>
 OP (iObj h_6 x8) fun u =>
 (True) ∧
 OH (iAlloc 105 [(.bool false), (.slice none 0 0)] h_6) fun y9 h_7 =>
 OP (iObj h_7 y9) fun u_1 =>
 (iObj h_7 x8 = some u ∧ True) ∧
 OP (iFadr 0 a2) fun x18 =>
 OP (iLoad false 1 h_7 x18) fun x19 =>
 (iLoad false 1 h_5 x18 = some x19 ∧ iLoad false 1 h_6 x18 = some x19 ∧ True) ∧
 OP (iFadr 0 b3) fun x20 =>
 OP (iLoad false 1 h_7 x20) fun x21 =>
 (iLoad false 1 h_5 x20 = some x21 ∧ iLoad false 1 h_6 x20 = some x21 ∧ True) ∧
 OP (iEqb true x19 x21) fun x22 =>
 CallP P 117 [x22, x16] h_7 fun x24 h_8 =>
 (iObj h_8 x8 = some u ∧ iObj h_8 y9 = some u_1 ∧ True) ∧
 OP (iFadr 0 a2) fun x25 =>
 OP (iLoad false 1 h_8 x25) fun x26 =>
 (iLoad false 1 h_5 x25 = some x26 ∧ iLoad false 1 h_6 x25 = some x26 ∧ iLoad false 1 h_7 x25 = some x26 ∧ True) ∧
 CallP P 117 [x26, x17] h_8 fun x28 h_9 =>
 (iObj h_9 x8 = some u ∧ iObj h_9 y9 = some u_1 ∧ True) ∧
 OH (oStore 2 h_9 x8 x24) fun _ h_10 =>
 (True) ∧
 OH (oStore 2 h_10 y9 x28) fun _ h_11 =>
 (True) ∧
 OP (iLenSl x17) fun x30 =>
 OP (iBin .gtr x30 (.int .i64 (0))) fun x31 =>
 p121z7 P K a2 b3 quo4 rest5 x8 y9 x31 h_11
theorem e121 (a0 b1 : Value) (h : Heap) : iwpP P c121 (bodyP [.cell true 2 4, .cell true 2 5] K) (frame0 [a0, b1]) h = T121 P K a0 b1 h := by kernel_rfl
theorem f121 {K : VK} {a0 b1 : Value} {h : Heap} (H : T121 Tryz.prog K a0 b1 h) : CallP Tryz.prog 121 [a0, b1] h K :=
 callP_intro k121 (Nat.le_of_ble_eq_true rfl) ((e121 Tryz.prog K a0 b1 h).mpr H)
/-! F130: pommel/num.part -/
noncomputable def c130z16 : ICode := .seq (.seq (.ops none [⟨(some 61), .p (.mv (.tmp 13))⟩,
 ⟨(some 62), .p (.bin .geq (.tmp 61) (.const (.int .i64 (0))))⟩])
 (.cond (.tmp 62) (.skip)
 (.exit 0)))
 (.seq (.block 1 (.ops none [⟨(some 65), .p (.mv (.tmp 12))⟩,
 ⟨(some 66), .p (.mv (.tmp 13))⟩,
 ⟨(some 67), .p (.mv (.tmp 10))⟩,
 ⟨(some 68), .p (.mv (.tmp 13))⟩,
 ⟨(some 69), .p (.mv (.tmp 13))⟩,
 ⟨(some 70), .p (.mv (.tmp 11))⟩,
 ⟨(some 71), .p (.bin .add (.tmp 69) (.tmp 70))⟩,
 ⟨(some 72), .p (.bin .add (.tmp 71) (.const (.int .i64 (1))))⟩,
 ⟨(some 73), .p (.slSl 177 1 (.tmp 67) (some (.tmp 68)) (some (.tmp 72)))⟩,
 ⟨(some 74), .p (.mv (.tmp 9))⟩,
 ⟨(some 75), .call 137 [(.tmp 73), (.tmp 74)]⟩,
 ⟨(some 76), .p (.adrSl 1 (.tmp 65) (.tmp 66))⟩,
 ⟨none, .e (.store 1 (.tmp 76) (.tmp 75))⟩]))
 (.ops none [⟨(some 63), .p (.mv (.tmp 13))⟩,
 ⟨(some 64), .p (.bin .sub (.tmp 63) (.const (.int .i64 (1))))⟩,
 ⟨(some 13), .p (.mv (.tmp 64))⟩]))
noncomputable def c130z21 : ICode := .seq (.dops [(none, [⟨(some 77), .p (.mv (.tmp 12)), 0⟩,
 ⟨(some 78), .call 118 [(.tmp 77)], 1⟩,
 ⟨(some 79), .p (.mv (.tmp 10)), 0⟩,
 ⟨(some 80), .p (.mv (.tmp 11)), 0⟩,
 ⟨(some 81), .p (.slSl 177 1 (.tmp 79) none (some (.tmp 80))), 12⟩,
 ⟨(some 82), .call 118 [(.tmp 81)], 31⟩,
 ⟨(some 83), .p (.mv (.tmp 8)), 0⟩,
 ⟨(some 84), .call 138 [(.tmp 82), (.tmp 83)], 127⟩,
 ⟨(some 4), .p (.mv (.tmp 78)), 255⟩,
 ⟨(some 5), .p (.mv (.tmp 84)), 511⟩])])
 (.ret)
noncomputable def c130z13 : ICode := .cut [8, 10, 11, 12] c130z21
noncomputable def c130 : ICode := .seq (.ops none [⟨(some 4), .p (.mv (.const (.slice none 0 0)))⟩,
 ⟨(some 5), .p (.mv (.const (.slice none 0 0)))⟩])
 (.seq (.seq (.ops none [⟨(some 14), .p (.mv (.tmp 0))⟩,
 ⟨(some 15), .p (.mv (.tmp 1))⟩,
 ⟨(some 16), .call 126 [(.tmp 14), (.tmp 15)]⟩,
 ⟨(some 17), .p (.bin .lss (.tmp 16) (.const (.int .i64 (0))))⟩])
 (.cond (.tmp 17) (.seq (.ops none [⟨(some 18), .p (.mv (.tmp 0))⟩,
 ⟨(some 19), .e (.app 177 1 4 (.const (.slice none 0 0)) (.tmp 18))⟩,
 ⟨(some 4), .p (.mv (.const (.slice none 0 0)))⟩,
 ⟨(some 5), .p (.mv (.tmp 19))⟩])
 (.ret))
 (.skip)))
 (.seq (.seq (.ops none [⟨(some 20), .p (.mv (.tmp 1))⟩,
 ⟨(some 21), .p (.lenSl (.tmp 20))⟩,
 ⟨(some 22), .p (.bin .eql (.tmp 21) (.const (.int .i64 (1))))⟩])
 (.cond (.tmp 22) (.seq (.ops none [⟨(some 24), .p (.mv (.tmp 0))⟩,
 ⟨(some 25), .p (.mv (.tmp 1))⟩,
 ⟨(some 26), .p (.adrSl 1 (.tmp 25) (.const (.int .i64 (0))))⟩,
 ⟨(some 27), .l (.load false 1 (.tmp 26))⟩,
 ⟨(some 28), .call 114 [(.tmp 24), (.tmp 27)]⟩,
 ⟨(some 23), .p (.mv (.tmp 28))⟩,
 ⟨(some 29), .p (.ext (.tmp 23) 0)⟩,
 ⟨(some 30), .p (.ext (.tmp 23) 1)⟩,
 ⟨(some 6), .p (.mv (.tmp 29))⟩,
 ⟨(some 7), .p (.mv (.tmp 30))⟩])
 (.seq (.ops none [⟨(some 31), .p (.mv (.tmp 6))⟩,
 ⟨(some 32), .p (.mv (.tmp 7))⟩,
 ⟨(some 33), .e (.mkSl 177 1 [(.int .u32 (0))] [(0, 1, (.tmp 32))])⟩,
 ⟨(some 34), .call 118 [(.tmp 33)]⟩,
 ⟨(some 4), .p (.mv (.tmp 31))⟩,
 ⟨(some 5), .p (.mv (.tmp 34))⟩])
 (.ret)))
 (.skip)))
 (.seq (.ops none [⟨(some 35), .p (.mv (.tmp 1))⟩,
 ⟨(some 36), .p (.mv (.tmp 1))⟩,
 ⟨(some 37), .p (.lenSl (.tmp 36))⟩,
 ⟨(some 38), .p (.bin .sub (.tmp 37) (.const (.int .i64 (1))))⟩,
 ⟨(some 39), .p (.adrSl 1 (.tmp 35) (.tmp 38))⟩,
 ⟨(some 40), .l (.load false 1 (.tmp 39))⟩,
 ⟨(some 41), .call 135 [(.tmp 40)]⟩,
 ⟨(some 8), .p (.mv (.tmp 41))⟩])
 (.seq (.ops none [⟨(some 42), .p (.mv (.tmp 1))⟩,
 ⟨(some 43), .p (.mv (.tmp 8))⟩,
 ⟨(some 44), .call 136 [(.tmp 42), (.tmp 43)]⟩,
 ⟨(some 45), .call 118 [(.tmp 44)]⟩,
 ⟨(some 46), .p (.mv (.tmp 0))⟩,
 ⟨(some 47), .p (.mv (.tmp 8))⟩,
 ⟨(some 48), .call 136 [(.tmp 46), (.tmp 47)]⟩,
 ⟨(some 9), .p (.mv (.tmp 45))⟩,
 ⟨(some 10), .p (.mv (.tmp 48))⟩])
 (.seq (.ops none [⟨(some 49), .p (.mv (.tmp 9))⟩,
 ⟨(some 50), .p (.lenSl (.tmp 49))⟩,
 ⟨(some 11), .p (.mv (.tmp 50))⟩])
 (.seq (.ops none [⟨(some 51), .p (.mv (.tmp 0))⟩,
 ⟨(some 52), .p (.lenSl (.tmp 51))⟩,
 ⟨(some 53), .p (.mv (.tmp 11))⟩,
 ⟨(some 54), .p (.bin .sub (.tmp 52) (.tmp 53))⟩,
 ⟨(some 55), .p (.bin .add (.tmp 54) (.const (.int .i64 (1))))⟩,
 ⟨(some 56), .e (.make 177 4 [(.int .u32 (0))] (.tmp 55) (.tmp 55))⟩,
 ⟨(some 12), .p (.mv (.tmp 56))⟩])
 (.seq (.seq (.ops none [⟨(some 57), .p (.mv (.tmp 0))⟩,
 ⟨(some 58), .p (.lenSl (.tmp 57))⟩,
 ⟨(some 59), .p (.mv (.tmp 11))⟩,
 ⟨(some 60), .p (.bin .sub (.tmp 58) (.tmp 59))⟩,
 ⟨(some 13), .p (.mv (.tmp 60))⟩])
 (.block 0 (.loop [8, 9, 10, 11, 12] [13] c130z16))) c130z13)))))))
theorem k130 : compFn Tryz.prog 130 [[], [], [], [], [], [], [], [], [], [], [], [], [], [8, 9, 10, 11, 12], [13], [], [], [], [8, 10, 11, 12], []] = some (85, c130, [.tmp 4, .tmp 5]) := by kernel_rfl
def K130z0 (_P : Program) (K : VK) : Kont := bodyP [.tmp 4, .tmp 5] K
def K130z13 : Kont := thenK (iwpP P c130z13 (K130z0 P K)) (K130z0 P K)
def K130z15 : Kont := inBlockK 0 (K130z13 P K)
def K130z16 (shift8 v9 u10 n11 q12 : Value) (L1 : LK) : Kont := thenK (fun f' h'' => (([8, 9, 10, 11, 12] : List Nat).map f' : List Value) = [shift8, v9, u10, n11, q12] ∧ L1 (([13] : List Nat).map f') h'') (K130z15 P K)
def p130z16 (shift8 v9 u10 n11 q12 : Value) (L1 : LK) (xs : List Value) (h : Heap) : Prop := CutP (iwpP P c130z16 (K130z16 P K shift8 v9 u10 n11 q12 L1)) ([8, 9, 10, 11, 12] ++ [13]) ([shift8, v9, u10, n11, q12] ++ xs) h
def T130 (a0 b1 : Value) (h : Heap) : Prop :=
 CallP P 126 [a0, b1] h fun x16 h_1 =>
 OP (iBin .lss x16 (.int .i64 (0))) fun x17 =>
 IfP x17
 (OH (iApp 177 1 4 h_1 (.slice none 0 0) a0) fun x19 h_2 =>
 K (.tuple #[(.slice none 0 0), x19]) h_2)
 (OP (iLenSl b1) fun x21 =>
 OP (iBin .eql x21 (.int .i64 (1))) fun x22 =>
 IfP x22
 (OP (iAdrSl 1 b1 (.int .i64 (0))) fun x26 =>
 OP (iLoad false 1 h_1 x26) fun x27 =>
 CallP P 114 [a0, x27] h_1 fun x28 h_2 =>
 OP (iExt 0 x28) fun x29 =>
 OP (iExt 1 x28) fun x30 =>
 OH (iMkSl 177 1 [(.int .u32 (0))] h_2 [(0, 1, x30)]) fun x33 h_3 =>
 CallP P 118 [x33] h_3 fun x34 h_4 =>
 K (.tuple #[x29, x34]) h_4)
 (OP (iLenSl b1) fun x37 =>
 OP (iBin .sub x37 (.int .i64 (1))) fun x38 =>
 OP (iAdrSl 1 b1 x38) fun x39 =>
 OP (iLoad false 1 h_1 x39) fun x40 =>
 CallP P 135 [x40] h_1 fun x41 h_2 =>
 CallP P 136 [b1, x41] h_2 fun x44 h_3 =>
 CallP P 118 [x44] h_3 fun x45 h_4 =>
 CallP P 136 [a0, x41] h_4 fun x48 h_5 =>
 OP (iLenSl x45) fun x50 =>
 OP (iLenSl a0) fun x52 =>
 OP (iBin .sub x52 x50) fun x54 =>
 OP (iBin .add x54 (.int .i64 (1))) fun x55 =>
 OH (iMake 177 4 [(.int .u32 (0))] h_5 x55 x55) fun x56 h_6 =>
 OP (iLenSl a0) fun x58 =>
 OP (iBin .sub x58 x50) fun x60 =>
 LoopP [x60] h_6 fun L1 xs hx =>
 p130z16 P K x41 x45 x48 x50 x56 L1 xs hx))
theorem e130 (a0 b1 : Value) (h : Heap) : iwpP P c130 (bodyP [.tmp 4, .tmp 5] K) (frame0 [a0, b1]) h = T130 P K a0 b1 h := by kernel_rfl
theorem f130 {K : VK} {a0 b1 : Value} {h : Heap} (H : T130 Tryz.prog K a0 b1 h) : CallP Tryz.prog 130 [a0, b1] h K :=
 callP_intro k130 (Nat.le_of_ble_eq_true rfl) ((e130 Tryz.prog K a0 b1 h).mpr H)
end Go.Proofs.YtelmdbpaoifmoaaGreat

namespace Go.Proofs.YtelmdbpaoifmoaaGreat
open Go.Sim

/-- Beyond this no number is followed. -/
def bigW : Nat := 4294967296 ^ 100

theorem lt_bigW {n : Nat} (h : n < 4294967296 ^ 20) : n < bigW := Nat.lt_of_lt_of_le h (Nat.pow_le_pow_right (by decide) (by decide))

theorem canW_len {xs : List Nat} (h : Canon 4294967296 xs) (hv : val 4294967296 xs < bigW) : xs.length ≤ 100 := h.len (by decide) hv

/-- Digits in memory: a slice of the first cells of an object, or nil. -/
def DS (e : TypeId) (k : IntKind) (h : Heap) (v : Value) (xs : List Nat) : Prop :=
  (v = .slice none 0 0 ∧ xs = []) ∨ ∃ i, v = sl e i 0 xs.length ∧ (xs = [] ∨ ∃ rest, objCells h i = some (xs.map (fun d : Nat => Value.int k (d : Int)) ++ rest))

theorem DS.mono {e : TypeId} {k : IntKind} {h h' : Heap} {v : Value} {xs : List Nat} (x : EX h h') (p : DS e k h v xs) : DS e k h' v xs :=
  p.imp id fun ⟨i, a, b⟩ => ⟨i, a, b.imp id fun ⟨r, c⟩ => ⟨r, x.cells c⟩⟩

theorem DS.len {e : TypeId} {k : IntKind} {h : Heap} {v : Value} {xs : List Nat} (p : DS e k h v xs) : iLenSl v = some (I xs.length) := by
  rcases p with ⟨rfl, rfl⟩ | ⟨i, rfl, _⟩ <;> rfl

theorem DS.get {e : TypeId} {k : IntKind} {h : Heap} {v : Value} {xs : List Nat} (p : DS e k h v xs) {j : Nat} (hj : j < xs.length) : ∃ i, iAdrSl 1 v (I j) = some (pt i j) ∧ iLoad false 1 h (pt i j) = some (.int k (xs[j] : Int)) := by
  rcases p with ⟨_, rfl⟩ | ⟨i, rfl, hc⟩
  · simp at hj
  · obtain ⟨r, hc⟩ := hc.resolve_left (by rintro rfl; simp at hj)
    refine ⟨i, adr_sl hj, ?_⟩
    have : (xs.map (fun d : Nat => Value.int k (d : Int)) ++ r)[j]? = some (.int k (xs[j] : Int)) := by rw [List.getElem?_append_left (by simpa using hj)]; simp [hj]
    simp [iLoad, hc, iPart, this]

theorem DS.nil (e : TypeId) (k : IntKind) (h : Heap) : DS e k h (.slice none 0 0) [] := .inl ⟨rfl, rfl⟩

theorem DS.one {e : TypeId} {k : IntKind} {h : Heap} {v : Value} {xs : List Nat} (p : DS e k h v xs) : noTuple v = true ∧ vcells v = [v] := by
  rcases p with ⟨rfl, _⟩ | ⟨i, rfl, _⟩ <;> exact ⟨rfl, rfl⟩

/-- The same without the last digit. -/
theorem DS.pop {e : TypeId} {k : IntKind} {h : Heap} {v : Value} {xs : List Nat} (p : DS e k h v xs) {n : Nat} (hn : n ≤ xs.length) : ∃ v', iSlSl e 1 v none (some (I n)) = some v' ∧ DS e k h v' (xs.take n) := by
  rcases p with ⟨rfl, rfl⟩ | ⟨i, rfl, hc⟩
  · simp at hn; subst hn
    exact ⟨_, rfl, .inl ⟨rfl, rfl⟩⟩
  · refine ⟨sl e i 0 n, ?_, .inr ⟨i, by rw [List.length_take, Nat.min_eq_left hn], ?_⟩⟩
    · simp [iSlSl, sl, iBounds, natOf, hn]
    · rcases hc with rfl | ⟨r, hc⟩
      · left; simp
      · right
        refine ⟨(xs.drop n).map (fun d : Nat => Value.int k (d : Int)) ++ r, ?_⟩
        rw [hc, ← List.append_assoc, ← List.map_append, List.take_append_drop]

/-- A number's size. -/
def MagV (h : Heap) (v : Value) (n : Nat) : Prop := ∃ xs, DS 177 .u32 h v xs ∧ Canon 4294967296 xs ∧ val 4294967296 xs = n

theorem MagV.mono {h h' : Heap} {v : Value} {n : Nat} (x : EX h h') (p : MagV h v n) : MagV h' v n := let ⟨xs, a, b, c⟩ := p; ⟨xs, a.mono x, b, c⟩

theorem C118 {h : Heap} {K : Value → Heap → Prop} {v : Value} {xs : List Nat} (p : DS 177 .u32 h v xs) (hl : Lim 4294967296 xs) (hs : xs.length ≤ 1000) (hk : ∀ v', MagV h v' (val 4294967296 xs) → K v' h) : CallP Tryz.prog 118 [v] h K := by
  refine f118 ?_
  refine loopL (σ := Value × List Nat) (fun p => [p.1]) (fun _ => h) (fun q => DS 177 .u32 h q.1 q.2 ∧ Lim 4294967296 q.2 ∧ val 4294967296 q.2 = val 4294967296 xs ∧ q.2.length ≤ 1000) (fun q => q.2.length) (v, xs) rfl rfl ⟨p, hl, rfl, hs⟩ ?_
  rintro ⟨v, ys⟩ ⟨p, hl, hv, hs⟩ L hL
  simp only at p hl hv hs hL ⊢
  rw [q118z4]
  have done : Canon 4294967296 ys → p118z12 Tryz.prog K v h := by
    intro hc
    rw [q118z12]
    exact hk v ⟨ys, p, hc, hv⟩
  simp only [p.len, OP_some, bin_gtr]
  by_cases h0 : ys.length = 0
  · have : ys = [] := List.length_eq_zero_iff.1 h0
    rw [decide_eq_false (show ¬ (0 : Int) < (ys.length : Int) by omega)]
    simp only [q118z8, GdP_ft, q118z10, iPick_f, OP_some, IfP_false]
    exact done (by rw [this]; exact Canon.nil 4294967296)
  · rw [decide_eq_true (show (0 : Int) < (ys.length : Int) by omega)]
    have e1 : IntKind.wrap .i64 ((ys.length : Int) - 1) = ((ys.length - 1 : Nat) : Int) := by rw [wrap64 (by omega) (by omega)]; omega
    obtain ⟨i, g1, g2⟩ := p.get (j := ys.length - 1) (by omega)
    simp only [q118z8, GdP_tt, p.len, OP_some, bin_sub, e1, g1, g2, bin_eql, q118z10, iPick_t, IfP_dec]
    refine ⟨fun hz => ?_, fun hz => ?_⟩
    · obtain ⟨v', h1, h2⟩ := p.pop (n := ys.length - 1) (by omega)
      simp only [h1, OP_some, true_and]
      have hsplit : ys = ys.take (ys.length - 1) ++ [0] := by
        have := List.take_succ_eq_append_getElem (l := ys) (i := ys.length - 1) (by omega)
        rw [show ys.length - 1 + 1 = ys.length by omega, List.take_length] at this
        have hz' : ys[ys.length - 1] = 0 := by omega
        rw [hz'] at this
        exact this
      refine hL (v', ys.take (ys.length - 1)) ⟨h2, hl.mono fun y hy => List.mem_of_mem_take hy, ?_, by rw [List.length_take]; omega⟩ (by simp; omega)
      rw [← hv]
      conv => rhs; rw [hsplit]
      rw [val_append]
      simp [val]
    · exact done (can_of_last hl fun h1 hc => hz (by rw [hc]; rfl))

/-- Fresh digits at the end of the heap. -/
abbrev hd (h : Heap) (os : List Nat) : Heap := h ++ [.arr 177 (os.map fun d : Nat => Value.int .u32 (d : Int))]

theorem make_hd {h : Heap} {n : Nat} (hn : n ≤ 1000) : iMake 177 4 [.int .u32 0] h (I n) (I n) = some (sl 177 h.length 0 n, hd h (List.replicate n 0)) := by
  have hz : ∀ m, zrep [Value.int .u32 0] m = (List.replicate m 0).map fun d : Nat => Value.int .u32 (d : Int) := by
    intro m
    induction m with
    | zero => rfl
    | succ m ih =>
      have : zrep [Value.int .u32 0] (m + 1) = Value.int .u32 0 :: zrep [Value.int .u32 0] m := by simp [zrep, List.replicate_succ]
      rw [this, ih, List.replicate_succ]; rfl
  simp only [iMake]
  rw [if_pos ⟨by omega, by omega, by omega, by omega⟩, Int.toNat_natCast, hz]

theorem hd_get (h : Heap) (os : List Nat) : (hd h os)[h.length]? = some (.arr 177 (os.map fun d : Nat => Value.int .u32 (d : Int))) := by simp [hd]

theorem hd_store {h : Heap} {os : List Nat} {j : Nat} (d : Nat) (hj : j < os.length) : oStore 1 (hd h os) (pt h.length j) (.int .u32 (d : Int)) = some (undef, hd h (os.set j d)) := by
  rw [store_at (hd_get h os) (by simpa using hj) rfl rfl]
  simp [hd, List.map_set]

theorem hd_load {h : Heap} {os : List Nat} {j : Nat} (hj : j < os.length) : iLoad false 1 (hd h os) (pt h.length j) = some (.int .u32 (os[j] : Int)) := by
  simp [iLoad, objCells, hd_get, iPart, hj]

theorem hd_DS (h : Heap) (os : List Nat) : DS 177 .u32 (hd h os) (sl 177 h.length 0 os.length) os := .inr ⟨h.length, rfl, .inr ⟨[], by simp [objCells, hd]⟩⟩

theorem hd_EX (h : Heap) (os : List Nat) : EX h (hd h os) := EX.append _ _

theorem wrapU64 {n : Int} (h1 : 0 ≤ n) (h2 : n < 18446744073709551616) : IntKind.wrap .u64 n = n := by
  have e : IntKind.wrap .u64 n = n % 18446744073709551616 := by simp [IntKind.wrap, IntKind.bits, IntKind.signed]
  rw [e]; omega
theorem wrapU32e (n : Int) : IntKind.wrap .u32 n = n % 4294967296 := by simp [IntKind.wrap, IntKind.bits, IntKind.signed]
theorem wrapU32 {n : Int} (h1 : 0 ≤ n) (h2 : n < 4294967296) : IntKind.wrap .u32 n = n := by rw [wrapU32e]; omega

theorem shr32 (s : Nat) : iBin .shr (.int .u64 (s : Int)) (.int .u64 32) = some (.int .u64 ((s / 4294967296 : Nat) : Int)) := by
  simp only [iBin, iShift]
  rw [if_neg (by omega)]
  have : (min (32 : Int).toNat IntKind.u64.bits) = 32 := rfl
  rw [this]
  have e2 : (2 : Int) ^ 32 = 4294967296 := by decide
  rw [e2, Int.fdiv_eq_ediv_of_nonneg _ (by omega)]
  congr 2

theorem C133 {x y c : Nat} {h : Heap} {K : Value → Heap → Prop} (hx : x < 4294967296) (hy : y < 4294967296) (hc : c ≤ 1) (hk : K (.tuple #[.int .u32 (((x + y + c) % 4294967296 : Nat) : Int), .int .u32 (((x + y + c) / 4294967296 : Nat) : Int)]) h) :
    CallP Tryz.prog 133 [.int .u32 (x : Int), .int .u32 (y : Int), .int .u32 (c : Int)] h K := by
  refine f133 ?_
  have e1 : IntKind.wrap .u64 ((x : Int) + (y : Int)) = ((x + y : Nat) : Int) := by rw [wrapU64 (by omega) (by omega)]; omega
  have e2 : IntKind.wrap .u64 (((x + y : Nat) : Int) + (c : Int)) = ((x + y + c : Nat) : Int) := by rw [wrapU64 (by omega) (by omega)]; omega
  have e3 : IntKind.wrap .u32 ((x + y + c : Nat) : Int) = (((x + y + c) % 4294967296 : Nat) : Int) := by rw [wrapU32e]; omega
  simp only [T133, conv_int, OP_some, bin_add]
  rw [wrapU64 (n := (x : Int)) (by omega) (by omega), wrapU64 (n := (y : Int)) (by omega) (by omega), e1, wrapU64 (n := (c : Int)) (by omega) (by omega), e2]
  simp only [shr32, OP_some, conv_int, e3]
  rw [wrapU32 (by omega) (by omega)]
  exact hk

/-- A sum, digit by digit. -/
theorem C128s {va vb : Value} {xs ys : List Nat} {h : Heap} {K : Value → Heap → Prop} (hx : DS 177 .u32 h va xs) (hy : DS 177 .u32 h vb ys) (lx : Lim 4294967296 xs) (ly : Lim 4294967296 ys) (hle : ys.length ≤ xs.length) (hlen : xs.length ≤ 200)
    (hk : ∀ v h', EX h h' → MagV h' v (val 4294967296 xs + val 4294967296 ys) → K v h') : p128z4 Tryz.prog K va vb h := by
  rw [q128z4]
  simp only [hx.len, OP_some, bin_add, inc xs.length (by omega), make_hd (show xs.length + 1 ≤ 1000 by omega), OH_some]
  have hW : 0 < 4294967296 := by decide
  refine loopL (σ := Nat × Nat × List Nat) (fun p => [.int .u32 (p.1 : Int), I p.2.1]) (fun p => hd h p.2.2)
    (fun p => p.2.1 ≤ xs.length ∧ p.1 ≤ 1 ∧ p.2.2.length = xs.length + 1 ∧ Lim 4294967296 p.2.2 ∧ (∀ j (hj : j < p.2.2.length), p.2.1 ≤ j → p.2.2[j] = 0) ∧ val 4294967296 p.2.2 + 4294967296 ^ p.2.1 * p.1 = val 4294967296 (xs.take p.2.1) + val 4294967296 (ys.take p.2.1)) (fun p => xs.length - p.2.1)
    (0, 0, List.replicate (xs.length + 1) 0) rfl rfl ⟨by simp, by simp, by simp, Lim.zeros hW _, by simp, by simp [val_zeros, val]⟩ ?_
  rintro ⟨c, i, os⟩ ⟨hi, hc, hol, hlim, hz, hval⟩ L hL
  simp only at hi hc hol hlim hz hval hL ⊢
  rw [q128z10]
  have hx' := hx.mono (hd_EX h os)
  have hy' := hy.mono (hd_EX h os)
  simp only [bin_lss, OP_some, IfP_dec]
  refine ⟨fun hlt => ?_, fun hge => ?_⟩
  · have hil : i < xs.length := by omega
    obtain ⟨ia, a1, a2⟩ := hx'.get hil
    have hxl : xs[i] < 4294967296 := lx _ (List.getElem_mem hil)
    have go : ∀ y : Nat, y < 4294967296 → val 4294967296 (ys.take (i + 1)) = val 4294967296 (ys.take i) + 4294967296 ^ i * y → p128z19 Tryz.prog K va vb (sl 177 h.length 0 (xs.length + 1)) (.int .u32 (c : Int)) (I i) (.int .u32 (y : Int)) (I xs.length) (I i) L (hd h os) := by
      intro y hyl hyv
      rw [q128z19]
      simp only [a1, OP_some, a2]
      refine C133 hxl hyl hc ?_
      simp only [ext_tuple, pair0, pair1, OP_some, adr_sl (show i < xs.length + 1 by omega)]
      rw [hd_store _ (by omega)]
      simp only [OH_some, q128z20, bin_add, OP_some, inc i (by omega), true_and]
      have hmod : (xs[i] + y + c) % 4294967296 < 4294967296 := Nat.mod_lt _ hW
      have hdiv : (xs[i] + y + c) / 4294967296 ≤ 1 := by omega
      refine hL ((xs[i] + y + c) / 4294967296, i + 1, os.set i ((xs[i] + y + c) % 4294967296)) ⟨by show i + 1 ≤ xs.length; omega, hdiv, by show (os.set i _).length = _; rw [List.length_set]; exact hol, hlim.set hmod i, ?_, ?_⟩ (by show xs.length - (i + 1) < xs.length - i; omega)
      · intro j hj hij
        show (os.set i _)[j] = 0
        have hij' : i ≠ j := by have : i + 1 ≤ j := hij; omega
        rw [List.getElem_set_ne hij']
        exact hz j (by simpa using hj) (by have : i + 1 ≤ j := hij; omega)
      · show val 4294967296 (os.set i _) + 4294967296 ^ (i + 1) * _ = val 4294967296 (xs.take (i + 1)) + val 4294967296 (ys.take (i + 1))
        have h1 := val_set 4294967296 os i ((xs[i] + y + c) % 4294967296) (by omega)
        rw [hz i (by omega) (Nat.le_refl _)] at h1
        rw [val_take_succ 4294967296 xs hil, hyv, Nat.pow_succ]
        have h2 := Nat.mod_add_div (xs[i] + y + c) 4294967296
        generalize (xs[i] + y + c) % 4294967296 = m at *
        generalize (xs[i] + y + c) / 4294967296 = q at *
        generalize 4294967296 ^ i = P at *
        generalize hWW : 4294967296 = w at *
        grind
    simp only [hy'.len, OP_some, bin_lss, IfP_dec]
    refine ⟨fun hly => ?_, fun hgy => ?_⟩
    · have hiy : i < ys.length := by omega
      obtain ⟨ib, b1, b2⟩ := hy'.get hiy
      simp only [b1, OP_some, b2]
      exact go _ (ly _ (List.getElem_mem hiy)) (val_take_succ 4294967296 ys hiy)
    · have := go 0 (by decide) (by rw [List.take_of_length_le (by omega), List.take_of_length_le (by omega)]; simp)
      simpa using this
  · have : i = xs.length := by omega
    subst this
    rw [q128z21]
    simp only [hx'.len, OP_some, adr_sl (show xs.length < xs.length + 1 by omega)]
    rw [hd_store _ (by omega)]
    simp only [OH_some]
    have h1 := val_set 4294967296 os xs.length c (by omega)
    rw [hz xs.length (by omega) (Nat.le_refl _)] at h1
    have hv : val 4294967296 (os.set xs.length c) = val 4294967296 xs + val 4294967296 ys := by
      rw [List.take_length, List.take_of_length_le hle] at hval
      omega
    have hcW : c < 4294967296 := Nat.lt_of_le_of_lt hc (by decide)
    have e : sl 177 h.length 0 (xs.length + 1) = sl 177 h.length 0 (os.set xs.length c).length := by rw [List.length_set, hol]
    rw [e]
    refine C118 (hd_DS h _) (hlim.set hcW _) (by rw [List.length_set]; omega) ?_
    intro v' hm
    rw [hv] at hm
    exact hk v' _ (hd_EX h _) hm

theorem C128 {va vb : Value} {a b : Nat} {h : Heap} {K : Value → Heap → Prop} (ha : MagV h va a) (hb : MagV h vb b) (la : a < bigW) (lb : b < bigW) (hk : ∀ v h', EX h h' → MagV h' v (a + b) → K v h') : CallP Tryz.prog 128 [va, vb] h K := by
  obtain ⟨xs, dx, cx, rfl⟩ := ha
  obtain ⟨ys, dy, cy, rfl⟩ := hb
  have l1 := canW_len cx la
  have l2 := canW_len cy lb
  refine f128 ?_
  simp only [T128, dx.len, dy.len, OP_some, bin_lss, IfP_dec]
  refine ⟨fun hlt => ?_, fun hge => ?_⟩
  · refine C128s dy dx cy.1 cx.1 (by omega) (by omega) ?_
    rw [Nat.add_comm (val 4294967296 ys)]
    exact hk
  · exact C128s dx dy cx.1 cy.1 (by omega) (by omega) hk

end Go.Proofs.YtelmdbpaoifmoaaGreat


namespace Go.Proofs.YtelmdbpaoifmoaaGreat
open Go.Sim

theorem bv_of (X : BitVec 32) : BitVec.ofInt IntKind.u32.bits (X.toNat : Int) = X := by
  show BitVec.ofInt 32 (X.toNat : Int) = X
  rw [BitVec.ofInt_natCast, BitVec.ofNat_toNat, BitVec.setWidth_eq]

theorem bv_lt (X : BitVec 32) : X.toNat < 4294967296 := X.isLt

theorem and32 (X Y : BitVec 32) : iBin .and (.int .u32 (X.toNat : Int)) (.int .u32 (Y.toNat : Int)) = some (.int .u32 ((X &&& Y).toNat : Int)) := by
  have h := bv_lt (X &&& Y)
  have e : (BitVec.ofInt IntKind.u32.bits (X.toNat : Int) &&& BitVec.ofInt IntKind.u32.bits (Y.toNat : Int)).toNat = (X &&& Y).toNat := by rw [bv_of, bv_of]; rfl
  simp only [iBin, iInt, if_true]
  rw [e, wrapU32 (by omega) (by omega)]

theorem or32 (X Y : BitVec 32) : iBin .or (.int .u32 (X.toNat : Int)) (.int .u32 (Y.toNat : Int)) = some (.int .u32 ((X ||| Y).toNat : Int)) := by
  have h := bv_lt (X ||| Y)
  have e : (BitVec.ofInt IntKind.u32.bits (X.toNat : Int) ||| BitVec.ofInt IntKind.u32.bits (Y.toNat : Int)).toNat = (X ||| Y).toNat := by rw [bv_of, bv_of]; rfl
  simp only [iBin, iInt, if_true]
  rw [e, wrapU32 (by omega) (by omega)]

theorem xor32 (X Y : BitVec 32) : iBin .xor (.int .u32 (X.toNat : Int)) (.int .u32 (Y.toNat : Int)) = some (.int .u32 ((X ^^^ Y).toNat : Int)) := by
  have h := bv_lt (X ^^^ Y)
  have e : (BitVec.ofInt IntKind.u32.bits (X.toNat : Int) ^^^ BitVec.ofInt IntKind.u32.bits (Y.toNat : Int)).toNat = (X ^^^ Y).toNat := by rw [bv_of, bv_of]; rfl
  simp only [iBin, iInt, if_true]
  rw [e, wrapU32 (by omega) (by omega)]

theorem not32 (X : BitVec 32) : iUn .xor (.int .u32 (X.toNat : Int)) = some (.int .u32 ((~~~X).toNat : Int)) := by
  have h := bv_lt (~~~X)
  have e : (BitVec.ofInt IntKind.u32.bits (if IntKind.u32.signed = true then -1 else IntKind.u32.max) ^^^ BitVec.ofInt IntKind.u32.bits (X.toNat : Int)).toNat = (~~~X).toNat := by
    rw [bv_of]
    show (BitVec.ofInt 32 4294967295 ^^^ X).toNat = _
    rw [show BitVec.ofInt 32 4294967295 = BitVec.allOnes 32 from by decide, BitVec.allOnes_xor]
  simp only [iUn]
  rw [e, wrapU32 (by omega) (by omega)]

theorem top32 (Z : BitVec 32) : iBin .shr (.int .u32 (Z.toNat : Int)) (.int .u64 31) = some (.int .u32 ((if Z.msb then 1 else 0 : Nat) : Int)) := by
  have h := bv_lt Z
  simp only [iBin, iShift]
  rw [if_neg (by omega)]
  have : (min (31 : Int).toNat IntKind.u32.bits) = 31 := rfl
  rw [this]
  have e2 : (2 : Int) ^ 31 = 2147483648 := by decide
  rw [e2, Int.fdiv_eq_ediv_of_nonneg _ (by omega), BitVec.msb_eq_decide]
  congr 2
  by_cases hz : 2 ^ 31 ≤ Z.toNat
  · simp [hz]; omega
  · simp [hz]; omega

theorem C134 {x y b : Nat} {h : Heap} {K : Value → Heap → Prop} (hx : x < 4294967296) (hy : y < 4294967296) (hb : b ≤ 1) (hk : K (.tuple #[.int .u32 (((x + 4294967296 + 4294967296 - y - b) % 4294967296 : Nat) : Int), .int .u32 ((if x < y + b then 1 else 0 : Nat) : Int)]) h) :
    CallP Tryz.prog 134 [.int .u32 (x : Int), .int .u32 (y : Int), .int .u32 (b : Int)] h K := by
  refine f134 ?_
  obtain ⟨X, rfl⟩ : ∃ X : BitVec 32, x = X.toNat := ⟨BitVec.ofNat 32 x, by rw [BitVec.toNat_ofNat]; exact (Nat.mod_eq_of_lt hx).symm⟩
  obtain ⟨Y, rfl⟩ : ∃ Y : BitVec 32, y = Y.toNat := ⟨BitVec.ofNat 32 y, by rw [BitVec.toNat_ofNat]; exact (Nat.mod_eq_of_lt hy).symm⟩
  obtain ⟨D, hD⟩ : ∃ D : BitVec 32, D.toNat = (X.toNat + 4294967296 + 4294967296 - Y.toNat - b) % 4294967296 := ⟨BitVec.ofNat 32 _, by rw [BitVec.toNat_ofNat]⟩
  have e1 : IntKind.wrap .u32 (IntKind.wrap .u32 ((X.toNat : Int) - (Y.toNat : Int)) - (b : Int)) = (D.toNat : Int) := by
    rw [wrapU32e, wrapU32e, hD]; omega
  simp only [T134, bin_sub, OP_some, e1, not32, and32, xor32, or32, top32]
  rw [← hD] at hk
  have e2 : (if (~~~X &&& Y ||| ~~~(X ^^^ Y) &&& D).msb then 1 else 0 : Nat) = if X.toNat < Y.toNat + b then 1 else 0 := by
    rw [BitVec.msb_or, BitVec.msb_and, BitVec.msb_and, BitVec.msb_not, BitVec.msb_not, BitVec.msb_xor, BitVec.msb_eq_decide X, BitVec.msb_eq_decide Y, BitVec.msb_eq_decide D]
    by_cases c1 : 2 ^ (32 - 1) ≤ X.toNat <;> by_cases c2 : 2 ^ (32 - 1) ≤ Y.toNat <;> by_cases c3 : 2 ^ (32 - 1) ≤ D.toNat <;> simp [c1, c2, c3] <;> omega
  rw [e2]
  exact hk

theorem C129 {va vb : Value} {a b : Nat} {h : Heap} {K : Value → Heap → Prop} (ha : MagV h va a) (hb : MagV h vb b) (la : a < bigW) (hab : b ≤ a) (hk : ∀ v h', EX h h' → MagV h' v (a - b) → K v h') : CallP Tryz.prog 129 [va, vb] h K := by
  obtain ⟨xs, hx, cx, rfl⟩ := ha
  obtain ⟨ys, hy, cy, rfl⟩ := hb
  have l1 := canW_len cx la
  have l2 := canW_len cy (Nat.lt_of_le_of_lt hab la)
  have hle : ys.length ≤ xs.length := by
    apply Classical.byContradiction
    intro hc
    have := Canon.lt_of_len (by decide) cx cy (by omega)
    omega
  refine f129 ?_
  simp only [T129, hx.len, OP_some, make_hd (show xs.length ≤ 1000 by omega), OH_some]
  have hW : (0 : Nat) < 4294967296 := by decide
  refine loopL (σ := Nat × Nat × List Nat) (fun p => [.int .u32 (p.1 : Int), I p.2.1]) (fun p => hd h p.2.2)
    (fun p => p.2.1 ≤ xs.length ∧ p.1 ≤ 1 ∧ p.2.2.length = xs.length ∧ Lim 4294967296 p.2.2 ∧ (∀ j (hj : j < p.2.2.length), p.2.1 ≤ j → p.2.2[j] = 0) ∧ val 4294967296 p.2.2 + val 4294967296 (ys.take p.2.1) = val 4294967296 (xs.take p.2.1) + 4294967296 ^ p.2.1 * p.1) (fun p => xs.length - p.2.1)
    (0, 0, List.replicate xs.length 0) rfl rfl ⟨by simp, by simp, by simp, Lim.zeros hW _, by simp, by simp [val_zeros, val]⟩ ?_
  rintro ⟨c, i, os⟩ ⟨hi, hc, hol, hlim, hz, hval⟩ L hL
  simp only at hi hc hol hlim hz hval hL ⊢
  rw [q129z7]
  have hx' := hx.mono (hd_EX h os)
  have hy' := hy.mono (hd_EX h os)
  simp only [bin_lss, OP_some, IfP_dec]
  refine ⟨fun hlt => ?_, fun hge => ?_⟩
  · have hil : i < xs.length := by omega
    obtain ⟨ia, a1, a2⟩ := hx'.get hil
    have hxl : xs[i] < 4294967296 := cx.1 _ (List.getElem_mem hil)
    have go : ∀ y : Nat, y < 4294967296 → val 4294967296 (ys.take (i + 1)) = val 4294967296 (ys.take i) + 4294967296 ^ i * y → p129z16 Tryz.prog K va vb (sl 177 h.length 0 xs.length) (.int .u32 (c : Int)) (I i) (.int .u32 (y : Int)) (I xs.length) (I i) L (hd h os) := by
      intro y hyl hyv
      rw [q129z16]
      simp only [a1, OP_some, a2]
      refine C134 hxl hyl hc ?_
      simp only [ext_tuple, pair0, pair1, OP_some, adr_sl hil]
      rw [hd_store _ (by omega)]
      simp only [OH_some, q129z17, bin_add, OP_some, inc i (by omega), true_and]
      have hmod : (xs[i] + 4294967296 + 4294967296 - y - c) % 4294967296 < 4294967296 := Nat.mod_lt _ hW
      have hb1 : (if xs[i] < y + c then 1 else 0) ≤ 1 := by split <;> omega
      have hs : (xs[i] + 4294967296 + 4294967296 - y - c) % 4294967296 + y + c = xs[i] + 4294967296 * (if xs[i] < y + c then 1 else 0) := by
        split <;> omega
      refine hL ((if xs[i] < y + c then 1 else 0), i + 1, os.set i ((xs[i] + 4294967296 + 4294967296 - y - c) % 4294967296)) ⟨by show i + 1 ≤ xs.length; omega, hb1, by show (os.set i _).length = _; rw [List.length_set]; exact hol, hlim.set hmod i, ?_, ?_⟩ (by show xs.length - (i + 1) < xs.length - i; omega)
      · intro j hj hij
        show (os.set i _)[j] = 0
        have hij' : i ≠ j := by have : i + 1 ≤ j := hij; omega
        rw [List.getElem_set_ne hij']
        exact hz j (by simpa using hj) (by have : i + 1 ≤ j := hij; omega)
      · show val 4294967296 (os.set i _) + val 4294967296 (ys.take (i + 1)) = val 4294967296 (xs.take (i + 1)) + 4294967296 ^ (i + 1) * _
        have h1 := val_set 4294967296 os i ((xs[i] + 4294967296 + 4294967296 - y - c) % 4294967296) (by omega)
        rw [hz i (by omega) (Nat.le_refl _)] at h1
        rw [val_take_succ 4294967296 xs hil, hyv, Nat.pow_succ]
        generalize (xs[i] + 4294967296 + 4294967296 - y - c) % 4294967296 = m at *
        generalize (if xs[i] < y + c then 1 else 0) = q at *
        generalize 4294967296 ^ i = P at *
        generalize (4294967296 : Nat) = w at *
        grind
    simp only [hy'.len, OP_some, bin_lss, IfP_dec]
    refine ⟨fun hly => ?_, fun hgy => ?_⟩
    · have hiy : i < ys.length := by omega
      obtain ⟨ib, b1, b2⟩ := hy'.get hiy
      simp only [b1, OP_some, b2]
      exact go _ (cy.1 _ (List.getElem_mem hiy)) (val_take_succ 4294967296 ys hiy)
    · have := go 0 (by decide) (by rw [List.take_of_length_le (by omega), List.take_of_length_le (by omega)]; simp)
      simpa using this
  · have : i = xs.length := by omega
    subst this
    rw [q129z18]
    rw [List.take_length, List.take_of_length_le hle] at hval
    have hlt := val_lt hlim
    rw [hol] at hlt
    have hc0 : c = 0 := by
      apply Classical.byContradiction
      intro hne
      have : c = 1 := by omega
      subst this
      omega
    subst hc0
    have hv : val 4294967296 os = val 4294967296 xs - val 4294967296 ys := by omega
    have e : sl 177 h.length 0 xs.length = sl 177 h.length 0 os.length := by rw [hol]
    rw [e]
    refine C118 (hd_DS h _) hlim (by omega) ?_
    intro v' hm
    rw [hv] at hm
    exact hk v' _ (hd_EX h _) hm

def sgn (a b : Nat) : Int := if a < b then -1 else if b < a then 1 else 0

/-- The greater one by its first digit from above. -/
theorem val_lt_of_top {B : Nat} {xs ys : List Nat} (lx : Lim B xs) (ly : Lim B ys) (hl : xs.length = ys.length) {i : Nat} (hi : i < xs.length) (hd : xs.drop (i + 1) = ys.drop (i + 1)) (h : xs[i] < ys[i]'(by omega)) : val B xs < val B ys := by
  have e1 : xs = xs.take i ++ xs[i] :: xs.drop (i + 1) := by rw [← List.drop_eq_getElem_cons hi, List.take_append_drop]
  have e2 : ys = ys.take i ++ ys[i]'(by omega) :: ys.drop (i + 1) := by rw [← List.drop_eq_getElem_cons (by omega), List.take_append_drop]
  have v1 : val B xs = val B (xs.take i) + B ^ i * (xs[i] + B * val B (xs.drop (i + 1))) := by
    conv => lhs; rw [e1]
    rw [val_append, List.length_take, Nat.min_eq_left (by omega)]; rfl
  have v2 : val B ys = val B (ys.take i) + B ^ i * (ys[i]'(by omega) + B * val B (ys.drop (i + 1))) := by
    conv => lhs; rw [e2]
    rw [val_append, List.length_take, Nat.min_eq_left (by omega)]; rfl
  rw [v1, v2, hd]
  have h1 := val_lt (lx.mono (ys := xs.take i) fun y hy => List.mem_of_mem_take hy)
  rw [List.length_take, Nat.min_eq_left (by omega)] at h1
  have h2 : B ^ i * (xs[i] + 1 + B * val B (ys.drop (i + 1))) ≤ B ^ i * (ys[i]'(by omega) + B * val B (ys.drop (i + 1))) := Nat.mul_le_mul_left _ (by omega)
  generalize B ^ i = P at *
  generalize B * val B (ys.drop (i + 1)) = Q at *
  generalize val B (xs.take i) = u at *
  generalize val B (ys.take i) = v at *
  have h3 : P * (xs[i] + 1 + Q) = P * (xs[i] + Q) + P := by grind
  omega

theorem C126 {va vb : Value} {a b : Nat} {h : Heap} {K : Value → Heap → Prop} (ha : MagV h va a) (hb : MagV h vb b) (la : a < bigW) (lb : b < bigW) (hk : K (I (sgn a b)) h) : CallP Tryz.prog 126 [va, vb] h K := by
  obtain ⟨xs, hx, cx, rfl⟩ := ha
  obtain ⟨ys, hy, cy, rfl⟩ := hb
  have l1 := canW_len cx la
  have l2 := canW_len cy lb
  have less : val 4294967296 xs < val 4294967296 ys → K (.int .i64 (-1)) h := fun h1 => by unfold sgn at hk; rw [if_pos h1] at hk; exact hk
  have more : val 4294967296 ys < val 4294967296 xs → K (.int .i64 1) h := fun h1 => by unfold sgn at hk; rw [if_neg (by omega), if_pos h1] at hk; exact hk
  have same : val 4294967296 xs = val 4294967296 ys → K (.int .i64 0) h := fun h1 => by unfold sgn at hk; rw [if_neg (by omega), if_neg (by omega)] at hk; exact hk
  refine f126 ?_
  simp only [T126, hx.len, hy.len, OP_some, bin_neq, IfP_ndec, bin_lss, IfP_dec]
  refine ⟨fun hne => ⟨fun hlt => less (Canon.lt_of_len (by decide) cx cy (by omega)), fun hge => more (Canon.lt_of_len (by decide) cy cx (by omega))⟩, fun he => ?_⟩
  have he' : xs.length = ys.length := by omega
  simp only [bin_sub, OP_some]
  have e1 : IntKind.wrap .i64 ((xs.length : Int) - 1) = (xs.length : Int) - 1 := by rw [wrap64 (by omega) (by omega)]
  rw [e1]
  refine loopL (σ := Nat) (fun i => [I ((i : Int) - 1)]) (fun _ => h) (fun i => i ≤ xs.length ∧ xs.drop i = ys.drop i) (fun i => i) xs.length rfl rfl ⟨Nat.le_refl _, by rw [List.drop_length, he', List.drop_length]⟩ ?_
  rintro i ⟨hi, hdr⟩ L hL
  rw [q126z11]
  simp only [bin_geq, OP_some, IfP_dec]
  refine ⟨fun hge => ?_, fun hlt => ?_⟩
  · obtain ⟨j, rfl⟩ : ∃ j, i = j + 1 := ⟨i - 1, by omega⟩
    have ej : (((j + 1 : Nat) : Int) - 1) = (j : Int) := by omega
    rw [ej]
    obtain ⟨ia, a1, a2⟩ := hx.get (j := j) (by omega)
    obtain ⟨ib, b1, b2⟩ := hy.get (j := j) (by omega)
    simp only [a1, a2, b1, b2, OP_some, true_and, bin_neq, IfP_ndec, bin_lss, IfP_dec]
    refine ⟨fun hne => ⟨fun hlt => less (val_lt_of_top cx.1 cy.1 he' (i := j) (by omega) hdr (by omega)), fun hge => more (val_lt_of_top cy.1 cx.1 he'.symm (i := j) (by omega) hdr.symm (by omega))⟩, fun heq => ?_⟩
    simp only [bin_sub, OP_some]
    rw [wrap64 (by omega) (by omega)]
    refine hL j ⟨by omega, ?_⟩ (by omega)
    rw [List.drop_eq_getElem_cons (by omega), List.drop_eq_getElem_cons (show j < ys.length by omega), hdr]
    congr 1
    omega
  · have : i = 0 := by omega
    subst this
    rw [List.drop_zero, List.drop_zero] at hdr
    exact same (by rw [hdr])

end Go.Proofs.YtelmdbpaoifmoaaGreat


namespace Go.Proofs.YtelmdbpaoifmoaaGreat
open Go.Sim

theorem mul_lt32 {x y : Nat} (hx : x < 4294967296) (hy : y < 4294967296) : x * y ≤ 18446744065119617025 := by
  have := Nat.mul_le_mul (show x ≤ 4294967295 by omega) (show y ≤ 4294967295 by omega)
  omega

theorem C122 {va vb : Value} {a b : Nat} {h : Heap} {K : Value → Heap → Prop} (ha : MagV h va a) (hb : MagV h vb b) (la : a < bigW) (lb : b < bigW) (hk : ∀ v h', EX h h' → MagV h' v (a * b) → K v h') : CallP Tryz.prog 122 [va, vb] h K := by
  obtain ⟨xs, hx, cx, rfl⟩ := ha
  obtain ⟨ys, hy, cy, rfl⟩ := hb
  have l1 := canW_len cx la
  have l2 := canW_len cy lb
  have hW : (0 : Nat) < 4294967296 := by decide
  refine f122 ?_
  have e0 : IntKind.wrap .i64 ((xs.length : Int) + (ys.length : Int)) = ((xs.length + ys.length : Nat) : Int) := by rw [wrap64 (by omega) (by omega)]; omega
  simp only [T122, hx.len, hy.len, OP_some, bin_add, e0, make_hd (show xs.length + ys.length ≤ 1000 by omega), OH_some]
  refine loopL (σ := Nat × List Nat) (fun p => [I p.1]) (fun p => hd h p.2)
    (fun p => p.1 ≤ xs.length ∧ p.2.length = xs.length + ys.length ∧ Lim 4294967296 p.2 ∧ (∀ j (hj : j < p.2.length), p.1 + ys.length ≤ j → p.2[j] = 0) ∧ val 4294967296 p.2 = val 4294967296 (xs.take p.1) * val 4294967296 ys) (fun p => xs.length - p.1)
    (0, List.replicate (xs.length + ys.length) 0) rfl rfl ⟨by simp, by simp, Lim.zeros hW _, by simp, by simp [val_zeros, val]⟩ ?_
  rintro ⟨i, os⟩ ⟨hi, hol, hlim, hz, hval⟩ L hL
  simp only at hi hol hlim hz hval hL ⊢
  rw [q122z6]
  have hx' := hx.mono (hd_EX h os)
  simp only [bin_lss, OP_some, IfP_dec]
  refine ⟨fun hlt => ?_, fun hge => ?_⟩
  · have hil : i < xs.length := by omega
    obtain ⟨ia, a1, a2⟩ := hx'.get hil
    have hxl : xs[i] < 4294967296 := cx.1 _ (List.getElem_mem hil)
    simp only [a1, OP_some, a2, (hy.mono (hd_EX h os)).len]
    have hvt := val_take_succ 4294967296 xs hil
    generalize xs[i] = x at hxl hvt
    refine loopL (σ := Nat × Nat × List Nat) (fun p => [.int .u64 (p.1 : Int), I p.2.1]) (fun p => hd h p.2.2)
      (fun p => p.2.1 ≤ ys.length ∧ p.1 < 4294967296 ∧ p.2.2.length = xs.length + ys.length ∧ Lim 4294967296 p.2.2 ∧ (∀ j (hj : j < p.2.2.length), i + ys.length ≤ j → p.2.2[j] = 0) ∧ val 4294967296 p.2.2 + 4294967296 ^ (i + p.2.1) * p.1 = val 4294967296 os + 4294967296 ^ i * (x * val 4294967296 (ys.take p.2.1))) (fun p => ys.length - p.2.1)
      (0, 0, os) rfl rfl ⟨by simp, hW, hol, hlim, hz, by simp [val]⟩ ?_
    rintro ⟨c, j, ps⟩ ⟨hj, hc, hpl, hplim, hpz, hpval⟩ L2 hL2
    simp only at hj hc hpl hplim hpz hpval hL2 ⊢
    rw [q122z16]
    have hy' := hy.mono (hd_EX h ps)
    simp only [bin_lss, OP_some, IfP_dec]
    refine ⟨fun hlt2 => ?_, fun hge2 => ?_⟩
    · have hjl : j < ys.length := by omega
      obtain ⟨ib, b1, b2⟩ := hy'.get hjl
      have hyl : ys[j] < 4294967296 := cy.1 _ (List.getElem_mem hjl)
      have hyt := val_take_succ 4294967296 ys hjl
      generalize ys[j] = y at b2 hyl hyt
      have hpk : i + j < ps.length := by omega
      have hol2 : ps[i + j] < 4294967296 := hplim _ (List.getElem_mem hpk)
      have hxy := mul_lt32 hxl hyl
      have hset := val_set 4294967296 ps (i + j) ((x * y + ps[i + j] + c) % 4294967296) hpk
      have ei : IntKind.wrap .i64 ((i : Int) + (j : Int)) = ((i + j : Nat) : Int) := by rw [wrap64 (by omega) (by omega)]; omega
      have cst : ((x : Int) * (y : Int)) = ((x * y : Nat) : Int) := by simp
      simp only [b1, OP_some, b2, conv_int]
      rw [wrapU64 (n := (x : Int)) (by omega) (by omega), wrapU64 (n := (y : Int)) (by omega) (by omega)]
      simp only [bin_mul, OP_some, cst, bin_add, ei]
      rw [wrapU64 (n := ((x * y : Nat) : Int)) (by omega) (by omega)]
      rw [adr_sl (show i + j < xs.length + ys.length by omega)]
      simp only [OP_some, hd_load hpk, conv_int]
      rw [wrapU64 (n := (ps[i + j] : Int)) (by omega) (by omega)]
      have e1 : IntKind.wrap .u64 (((x * y : Nat) : Int) + (ps[i + j] : Int)) = ((x * y + ps[i + j] : Nat) : Int) := by rw [wrapU64 (by omega) (by omega)]; omega
      have e2 : IntKind.wrap .u64 (((x * y + ps[i + j] : Nat) : Int) + (c : Int)) = ((x * y + ps[i + j] + c : Nat) : Int) := by rw [wrapU64 (by omega) (by omega)]; omega
      have e3 : IntKind.wrap .u32 ((x * y + ps[i + j] + c : Nat) : Int) = (((x * y + ps[i + j] + c) % 4294967296 : Nat) : Int) := by rw [wrapU32e]; omega
      simp only [bin_add, OP_some, e1, e2, conv_int, e3, shr32]
      rw [hd_store _ hpk]
      simp only [OH_some, bin_add, OP_some, inc j (by omega), true_and]
      have hmod : (x * y + ps[i + j] + c) % 4294967296 < 4294967296 := Nat.mod_lt _ hW
      have hdm := Nat.mod_add_div (x * y + ps[i + j] + c) 4294967296
      have hdiv : (x * y + ps[i + j] + c) / 4294967296 < 4294967296 := by omega
      refine hL2 ((x * y + ps[i + j] + c) / 4294967296, j + 1, ps.set (i + j) ((x * y + ps[i + j] + c) % 4294967296)) ⟨by show j + 1 ≤ ys.length; omega, hdiv, by show (ps.set _ _).length = _; rw [List.length_set]; exact hpl, hplim.set hmod _, ?_, ?_⟩ (by show ys.length - (j + 1) < ys.length - j; omega)
      · intro k hk2 hik
        show (ps.set (i + j) _)[k] = 0
        have hne : i + j ≠ k := by omega
        rw [List.getElem_set_ne hne]
        exact hpz k (by simpa using hk2) hik
      · show val 4294967296 (ps.set (i + j) _) + 4294967296 ^ (i + (j + 1)) * _ = val 4294967296 os + 4294967296 ^ i * (x * val 4294967296 (ys.take (j + 1)))
        rw [hyt, ← Nat.add_assoc, Nat.pow_succ]
        rw [Nat.pow_add] at hset hpval ⊢
        generalize ps[i + j] = o at *
        generalize (x * y + o + c) % 4294967296 = m at *
        generalize (x * y + o + c) / 4294967296 = q at *
        generalize val 4294967296 (ys.take j) = v at *
        generalize val 4294967296 (ps.set (i + j) m) = s1 at *
        generalize val 4294967296 ps = s0 at *
        generalize val 4294967296 os = s2 at *
        generalize 4294967296 ^ i = P at *
        generalize 4294967296 ^ j = Q at *
        generalize (4294967296 : Nat) = w at *
        clear hL2 hL hx hy hx' hy' b1 b2
        have h1 : P * Q * (m + w * q) = P * Q * (x * y + o + c) := by rw [hdm]
        grind
    · have : j = ys.length := by omega
      subst this
      rw [q122z23]
      have ei : IntKind.wrap .i64 ((i : Int) + (ys.length : Int)) = ((i + ys.length : Nat) : Int) := by rw [wrap64 (by omega) (by omega)]; omega
      simp only [hy'.len, OP_some, bin_add, ei, conv_int]
      rw [wrapU32 (n := (c : Int)) (by omega) (by omega), adr_sl (show i + ys.length < xs.length + ys.length by omega)]
      simp only [OP_some]
      have hpk : i + ys.length < ps.length := by omega
      rw [hd_store _ hpk]
      simp only [OH_some, q122z24, bin_add, OP_some, inc i (by omega), true_and]
      have hset := val_set 4294967296 ps (i + ys.length) c hpk
      rw [hpz _ hpk (Nat.le_refl _)] at hset
      rw [List.take_length] at hpval
      refine hL (i + 1, ps.set (i + ys.length) c) ⟨by show i + 1 ≤ xs.length; omega, by show (ps.set _ _).length = _; rw [List.length_set]; exact hpl, hplim.set hc _, ?_, ?_⟩ (by show xs.length - (i + 1) < xs.length - i; omega)
      · intro k hk2 hik
        show (ps.set (i + ys.length) _)[k] = 0
        have hik' : i + 1 + ys.length ≤ k := hik
        have hne : i + ys.length ≠ k := by omega
        rw [List.getElem_set_ne hne]
        exact hpz k (by simpa using hk2) (by omega)
      · show val 4294967296 (ps.set (i + ys.length) c) = val 4294967296 (xs.take (i + 1)) * val 4294967296 ys
        rw [hvt, Nat.add_mul, ← hval, Nat.mul_assoc, ← hpval]
        omega
  · have : i = xs.length := by omega
    subst this
    rw [q122z25]
    rw [List.take_length] at hval
    have e : sl 177 h.length 0 (xs.length + ys.length) = sl 177 h.length 0 os.length := by rw [hol]
    rw [e]
    refine C118 (hd_DS h _) hlim (by omega) ?_
    intro v' hm
    rw [hval] at hm
    exact hk v' _ (hd_EX h _) hm

/-! ### With a sign -/

/-- An integer: whether it is below 0, and its size. -/
def IntV (h : Heap) (val : Value) (z : Int) : Prop := ∃ v, val = .agg #[B (decide (z < 0)), v] ∧ MagV h v z.natAbs

theorem IntV.mono {h h' : Heap} {v : Value} {z : Int} (x : EX h h') (p : IntV h v z) : IntV h' v z := let ⟨w, a, b⟩ := p; ⟨w, a, b.mono x⟩

theorem MagV.len0 {h : Heap} {v : Value} {n : Nat} (p : MagV h v n) : ∃ l : Nat, iLenSl v = some (I l) ∧ (0 < l ↔ 0 < n) := by
  obtain ⟨xs, d, c, rfl⟩ := p
  refine ⟨xs.length, d.len, ?_⟩
  constructor
  · intro h0
    have := Canon.low (by decide) c (by rintro rfl; simp at h0)
    have : 0 < 4294967296 ^ (xs.length - 1) := Nat.pow_pos (by decide)
    omega
  · intro h0
    cases xs with
    | nil => simp [val] at h0
    | cons x xs => simp

/-- Nothing of a number is lost if an object that begins with a truth value is written. -/
theorem MagV.setB {h : Heap} {v : Value} {n j : Nat} {e : TypeId} {b : Bool} {r : List Value} (p : MagV h v n) (hj : h[j]? = some (.arr e (.bool b :: r))) (o : IObj) : MagV (h.set j o) v n := by
  obtain ⟨xs, d, c, hv⟩ := p
  refine ⟨xs, ?_, c, hv⟩
  rcases d with d | ⟨i, h1, h2⟩
  · exact .inl d
  · refine .inr ⟨i, h1, ?_⟩
    rcases h2 with h2 | ⟨rest, h2⟩
    · exact .inl h2
    · cases xs with
      | nil => exact .inl rfl
      | cons x xs =>
        right
        refine ⟨rest, ?_⟩
        have hne : j ≠ i := by
          rintro rfl
          unfold objCells at h2
          rw [hj] at h2
          simp at h2
        unfold objCells at h2 ⊢
        rw [List.getElem?_set_ne hne]
        exact h2

theorem IntV.setB {h : Heap} {v : Value} {z : Int} {j : Nat} {e : TypeId} {b : Bool} {r : List Value} (p : IntV h v z) (hj : h[j]? = some (.arr e (.bool b :: r))) (o : IObj) : IntV (h.set j o) v z :=
  let ⟨w, a, q⟩ := p; ⟨w, a, q.setB hj o⟩

theorem store2 {h : Heap} {i : Nat} {e : TypeId} {a b x y : Value} (hg : h[i]? = some (.arr e [a, b])) : oStore 2 h (pt i 0) (.agg #[x, y]) = some (undef, h.set i (.arr e [x, y])) := by
  simp [oStore, iStore, hg, noTuple, vcells, Value.cells, setAt]

theorem load2 {h : Heap} {i : Nat} {e : TypeId} {a b : Value} (hg : h[i]? = some (.arr e [a, b])) : iLoad true 2 h (pt i 0) = some (.agg #[a, b]) := by
  simp [iLoad, objCells, hg, iPart]

theorem set_get {h : Heap} {i : Nat} {o o' : IObj} (hg : h[i]? = some o') : (h.set i o)[i]? = some o := by
  rw [List.getElem?_set_self (List.getElem?_eq_some_iff.1 hg).1]

theorem C117 {v : Value} {n : Nat} {b : Bool} {h : Heap} {K : Value → Heap → Prop} (hm : MagV h v n) (hk : ∀ h', EX h h' → K (.agg #[B (b && decide (0 < n)), v]) h') : CallP Tryz.prog 117 [B b, v] h K := by
  refine f117 ?_
  have al : iAlloc 105 [(.bool false), (.slice none 0 0)] h = some (pt h.length 0, h ++ [.arr 105 [(.bool false), (.slice none 0 0)]]) := rfl
  simp only [T117, al, OH_some]
  obtain ⟨l, h1, h2⟩ := hm.len0
  have hg : (h ++ [IObj.arr 105 [(.bool false), (.slice none 0 0)]])[h.length]? = some (.arr 105 [(.bool false), (.slice none 0 0)]) := get_last
  have hx : EX h (h ++ [IObj.arr 105 [(.bool false), (.slice none 0 0)]]) := EX.append _ _
  have fin : p117z6 Tryz.prog K v (pt h.length 0) (B b) (B (decide (0 < l))) (h ++ [IObj.arr 105 [(.bool false), (.slice none 0 0)]]) ∧ (b = false → p117z6 Tryz.prog K v (pt h.length 0) (B b) undef (h ++ [IObj.arr 105 [(.bool false), (.slice none 0 0)]])) := by
    have one : ∀ c : Bool, c = (b && decide (0 < n)) → OP (iBuild [(.bool false), (.slice none 0 0)] [(0, 1, B c), (1, 1, v)]) fun x12 => OH (oStore 2 (h ++ [IObj.arr 105 [(.bool false), (.slice none 0 0)]]) (pt h.length 0) x12) fun _ h_1 => OP (iLoad true 2 h_1 (pt h.length 0)) fun r0 => K r0 h_1 := by
      rintro c rfl
      have eb : iBuild [(.bool false), (.slice none 0 0)] [(0, 1, B (b && decide (0 < n))), (1, 1, v)] = some (.agg #[B (b && decide (0 < n)), v]) := by
        obtain ⟨xs, d, _, _⟩ := hm
        rcases d with ⟨rfl, _⟩ | ⟨i, rfl, _⟩ <;> rfl
      simp only [eb, OP_some]
      rw [store2 hg]
      simp only [OH_some]
      rw [load2 (set_get hg)]
      simp only [OP_some]
      exact hk _ (hx.set (Nat.le_refl _) _)
    constructor
    · rw [q117z6]
      cases b with
      | true => simp only [iPick_t, OP_some]; exact one _ (by simp [h2])
      | false => simp only [iPick_f, OP_some]; exact one _ (by simp)
    · rintro rfl
      rw [q117z6]
      simp only [iPick_f, OP_some]
      exact one _ (by simp)
  rw [q117z4]
  have e0 : decide ((0 : Int) < (l : Int)) = decide (0 < l) := by
    by_cases h0 : 0 < l
    · simp [h0]
    · simp [h0]
  cases b with
  | true =>
    simp only [GdP_tt, h1, OP_some, bin_gtr, e0]
    exact fin.1
  | false =>
    simp only [GdP_ft]
    exact fin.2 rfl

end Go.Proofs.YtelmdbpaoifmoaaGreat


namespace Go.Proofs.YtelmdbpaoifmoaaGreat
open Go.Sim

theorem fin2 {h' : Heap} {j : Nat} {b0 v0 b v : Value} {K : Value → Heap → Prop} (hg : h'[j]? = some (.arr 105 [b0, v0])) (hk : K (.agg #[b, v]) (h'.set j (.arr 105 [b, v]))) :
    OH (oStore 2 h' (pt j 0) (.agg #[b, v])) fun _ h6 => OP (iLoad true 2 h6 (pt j 0)) fun r0 => K r0 h6 := by
  rw [store2 hg]
  simp only [OH_some]
  rw [load2 (set_get hg)]
  exact OP_some.2 hk

/-- Two integers boxed, and a place for the result. -/
structure Box2 (h : Heap) (va vb : Value) (sa sb : Bool) (h3 : Heap) : Prop where
  ex : EX h h3
  a0 : iLoad false 1 h3 (pt h.length 0) = some (B sa)
  a1 : iLoad false 1 h3 (pt h.length 1) = some va
  b0 : iLoad false 1 h3 (pt (h.length + 1) 0) = some (B sb)
  b1 : iLoad false 1 h3 (pt (h.length + 1) 1) = some vb
  a2 : iLoad true 2 h3 (pt h.length 0) = some (.agg #[B sa, va])
  b2 : iLoad true 2 h3 (pt (h.length + 1) 0) = some (.agg #[B sb, vb])
  out : h3[h.length + 2]? = some (.arr 105 [.bool false, .slice none 0 0])

theorem box2 {h : Heap} {va vb : Value} {sa sb : Bool} {K : Value → Value → Value → Heap → Prop} (hk : ∀ h3, Box2 h va vb sa sb h3 → K (pt h.length 0) (pt (h.length + 1) 0) (pt (h.length + 2) 0) h3) :
    OH (iBox 105 h (.agg #[B sa, va])) fun a2 h_1 => OH (iBox 105 h_1 (.agg #[B sb, vb])) fun b3 h_2 => OH (iAlloc 105 [(.bool false), (.slice none 0 0)] h_2) fun x4 h_3 => K a2 b3 x4 h_3 := by
  have e1 : ∀ (g : Heap) (s : Bool) (v : Value), iBox 105 g (.agg #[B s, v]) = some (pt g.length 0, g ++ [.arr 105 [B s, v]]) := fun _ _ _ => rfl
  have e2 : ∀ (g : Heap), iAlloc 105 [(.bool false), (.slice none 0 0)] g = some (pt g.length 0, g ++ [.arr 105 [(.bool false), (.slice none 0 0)]]) := fun _ => rfl
  simp only [e1, e2, OH_some, List.length_append, List.length_cons, List.length_nil]
  have g0 : (h ++ [IObj.arr 105 [B sa, va]] ++ [IObj.arr 105 [B sb, vb]] ++ [IObj.arr 105 [(.bool false), (.slice none 0 0)]])[h.length]? = some (.arr 105 [B sa, va]) := by simp
  have g1 : (h ++ [IObj.arr 105 [B sa, va]] ++ [IObj.arr 105 [B sb, vb]] ++ [IObj.arr 105 [(.bool false), (.slice none 0 0)]])[h.length + 1]? = some (.arr 105 [B sb, vb]) := by simp
  have g2 : (h ++ [IObj.arr 105 [B sa, va]] ++ [IObj.arr 105 [B sb, vb]] ++ [IObj.arr 105 [(.bool false), (.slice none 0 0)]])[h.length + 2]? = some (.arr 105 [(.bool false), (.slice none 0 0)]) := by simp
  refine hk _ ⟨((EX.append _ _).push _).push _, ?_, ?_, ?_, ?_, load2 g0, load2 g1, g2⟩
  · simp [iLoad, objCells, iPart]
  · simp [iLoad, objCells, iPart]
  · simp [iLoad, objCells, iPart]
  · simp [iLoad, objCells, iPart]

theorem C105 {n : Int} {h : Heap} {K : Value → Heap → Prop} (h1 : -9223372036854775808 ≤ n) (h2 : n < 9223372036854775808) (hk : ∀ r h', EX h h' → IntV h' r n → K r h') : CallP Tryz.prog 105 [I n] h K := by
  refine f105 ?_
  have e2 : iAlloc 105 [(.bool false), (.slice none 0 0)] h = some (pt h.length 0, h ++ [.arr 105 [(.bool false), (.slice none 0 0)]]) := rfl
  simp only [T105, e2, OH_some]
  have x1 : EX h (h ++ [IObj.arr 105 [(.bool false), (.slice none 0 0)]]) := EX.append _ _
  have g1 : (h ++ [IObj.arr 105 [(.bool false), (.slice none 0 0)]])[h.length]? = some (.arr 105 [(.bool false), (.slice none 0 0)]) := get_last
  generalize h ++ [IObj.arr 105 [(.bool false), (.slice none 0 0)]] = hA at x1 g1 ⊢
  have go : ∀ u : Nat, u = n.natAbs → p105z5 Tryz.prog K (I n) (pt h.length 0) (.int .u64 (u : Int)) hA := by
    intro u hu
    rw [q105z5]
    have ew : IntKind.wrap .u32 (u : Int) = ((u % 4294967296 : Nat) : Int) := by rw [wrapU32e]; omega
    simp only [bin_lss, OP_some, conv_int, shr32, ew]
    rw [wrapU32 (n := ((u / 4294967296 : Nat) : Int)) (by omega) (by omega)]
    have mk : iMkSl 177 2 [.int .u32 0] hA [(0, 1, .int .u32 ((u % 4294967296 : Nat) : Int)), (1, 1, .int .u32 ((u / 4294967296 : Nat) : Int))] = some (sl 177 hA.length 0 2, hd hA [u % 4294967296, u / 4294967296]) := rfl
    simp only [mk, OH_some]
    have hl : Lim 4294967296 [u % 4294967296, u / 4294967296] := by
      intro x hx
      simp at hx
      rcases hx with rfl | rfl <;> omega
    refine C118 (hd_DS hA [u % 4294967296, u / 4294967296]) hl (by simp) ?_
    intro v hv
    have hval : val 4294967296 [u % 4294967296, u / 4294967296] = n.natAbs := by simp [val]; omega
    rw [hval] at hv
    refine C117 hv ?_
    intro h' x'
    have xx := (hd_EX hA [u % 4294967296, u / 4294967296]).trans x'
    have g' := xx.get g1
    refine fin2 g' (hk _ _ ((x1.trans xx).set (Nat.le_refl _) _) ⟨v, ?_, (hv.mono x').setB g' _⟩)
    have : (decide (n < 0) && decide (0 < n.natAbs)) = decide (n < 0) := by
      by_cases hn : n < 0
      · simp [hn]; omega
      · simp [hn]
    rw [this]
  simp only [conv_int, OP_some, bin_lss, IfP_dec]
  refine ⟨fun hn => ?_, fun hn => ?_⟩
  · have e3 : iUn .neg (.int .u64 (IntKind.wrap .u64 n)) = some (.int .u64 ((n.natAbs : Nat) : Int)) := by
      have e : ∀ m : Int, IntKind.wrap .u64 m = m % 18446744073709551616 := fun m => by simp [IntKind.wrap, IntKind.bits, IntKind.signed]
      simp only [iUn]
      rw [e, e]
      congr 2
      omega
    simp only [e3, OP_some]
    exact go _ rfl
  · have : IntKind.wrap .u64 n = ((n.natAbs : Nat) : Int) := by rw [wrapU64 (by omega) (by omega)]; omega
    rw [this]
    exact go _ rfl

theorem C119 {va : Value} {a : Int} {h : Heap} {K : Value → Heap → Prop} (ha : IntV h va a) (hk : ∀ r h', EX h h' → IntV h' r (-a) → K r h') : CallP Tryz.prog 119 [va] h K := by
  obtain ⟨v, rfl, hv⟩ := ha
  refine f119 ?_
  have e1 : iBox 105 h (.agg #[B (decide (a < 0)), v]) = some (pt h.length 0, h ++ [.arr 105 [B (decide (a < 0)), v]]) := rfl
  simp only [T119, e1, OH_some]
  have l0 : iLoad false 1 (h ++ [.arr 105 [B (decide (a < 0)), v]]) (pt h.length 0) = some (B (decide (a < 0))) := load_last rfl
  have l1 : iLoad false 1 (h ++ [.arr 105 [B (decide (a < 0)), v]]) (pt h.length 1) = some v := load_last rfl
  have x1 : EX h (h ++ [.arr 105 [B (decide (a < 0)), v]]) := EX.append _ _
  generalize h ++ [IObj.arr 105 [B (decide (a < 0)), v]] = h1 at l0 l1 x1 ⊢
  have e2 : iAlloc 105 [(.bool false), (.slice none 0 0)] h1 = some (pt h1.length 0, h1 ++ [.arr 105 [(.bool false), (.slice none 0 0)]]) := rfl
  have x2 : EX h1 (h1 ++ [IObj.arr 105 [(.bool false), (.slice none 0 0)]]) := EX.append _ _
  have g1 : (h1 ++ [IObj.arr 105 [(.bool false), (.slice none 0 0)]])[h1.length]? = some (.arr 105 [(.bool false), (.slice none 0 0)]) := get_last
  simp only [e2, OH_some]
  generalize h1 ++ [IObj.arr 105 [(.bool false), (.slice none 0 0)]] = h2 at x2 g1 ⊢
  simp only [fadr_pt, Nat.add_zero, Nat.zero_add, OP_some, EX.load x2 l0, EX.load x2 l1, un_not]
  have hv2 := hv.mono (x1.trans x2)
  refine C117 hv2 ?_
  intro h' x'
  have g' := x'.get g1
  refine fin2 g' (hk _ _ (((x1.trans x2).trans x').set x1.1 _) ⟨v, ?_, ?_⟩)
  · have : (!decide (a < 0) && decide (0 < a.natAbs)) = decide (-a < 0) := by
      by_cases h0 : a < 0
      · rw [decide_eq_true h0, decide_eq_false (show ¬ -a < 0 by omega)]; rfl
      · by_cases h3 : a = 0
        · subst h3; rfl
        · rw [decide_eq_false h0, decide_eq_true (show 0 < a.natAbs by omega), decide_eq_true (show -a < 0 by omega)]; rfl
    rw [this]
  · have : (-a).natAbs = a.natAbs := by omega
    rw [this]
    exact (hv2.mono x').setB g' _

theorem C113 {va vb : Value} {a b : Int} {h : Heap} {K : Value → Heap → Prop} (ha : IntV h va a) (hb : IntV h vb b) (la : a.natAbs < bigW) (lb : b.natAbs < bigW) (hk : ∀ r h', EX h h' → IntV h' r (a + b) → K r h') : CallP Tryz.prog 113 [va, vb] h K := by
  obtain ⟨v, rfl, hv⟩ := ha
  obtain ⟨w, rfl, hw⟩ := hb
  refine f113 ?_
  unfold T113
  refine box2 ?_
  intro h3 x
  have hv3 := hv.mono x.ex
  have hw3 := hw.mono x.ex
  simp only [fadr_pt, Nat.add_zero, Nat.zero_add, OP_some, x.a0, x.a1, x.b0, x.b1, eqb_bool, Bool.false_eq_true, if_false]
  refine IfP_of (fun he => ?_) fun hne => ?_
  · have hs : decide (a < 0) = decide (b < 0) := by simpa using he
    have hs' : (a < 0 ↔ b < 0) := by simpa using hs
    simp only [true_and]
    refine C128 hv3 hw3 la lb ?_
    intro u h4 x4 hu
    refine ⟨⟨EX.load x4 x.a0, trivial⟩, ?_⟩
    refine C117 hu ?_
    intro h5 x5
    have g' := (x4.trans x5).get x.out
    refine fin2 g' (hk _ _ (((x.ex.trans x4).trans x5).set (by omega) _) ⟨u, ?_, ?_⟩)
    · have : (decide (a < 0) && decide (0 < a.natAbs + b.natAbs)) = decide (a + b < 0) := by
        by_cases h0 : a < 0
        · rw [decide_eq_true h0, decide_eq_true (show 0 < a.natAbs + b.natAbs by omega), decide_eq_true (show a + b < 0 by omega)]; rfl
        · rw [decide_eq_false h0, decide_eq_false (show ¬ a + b < 0 by omega)]; rfl
      rw [this]
    · have : (a + b).natAbs = a.natAbs + b.natAbs := by omega
      rw [this]
      exact (hu.mono x5).setB g' _
  · have hs : decide (a < 0) ≠ decide (b < 0) := by simpa using hne
    have hs' : ¬ (a < 0 ↔ b < 0) := fun h => hs (decide_eq_decide.2 h)
    refine C126 hv3 hw3 la lb ?_
    simp only [bin_geq, OP_some, IfP_dec]
    refine ⟨fun hge => ?_, fun hlt => ?_⟩
    · have hle : b.natAbs ≤ a.natAbs := by
        apply Classical.byContradiction
        intro hc
        unfold sgn at hge
        rw [if_pos (by omega)] at hge
        omega
      simp only [x.a0, x.a1, x.b1, OP_some, true_and]
      refine C129 hv3 hw3 la hle ?_
      intro u h4 x4 hu
      refine ⟨⟨EX.load x4 x.a0, trivial⟩, ?_⟩
      refine C117 hu ?_
      intro h5 x5
      have g' := (x4.trans x5).get x.out
      refine fin2 g' (hk _ _ (((x.ex.trans x4).trans x5).set (by omega) _) ⟨u, ?_, ?_⟩)
      · have : (decide (a < 0) && decide (0 < a.natAbs - b.natAbs)) = decide (a + b < 0) := by
          by_cases h0 : a < 0
          · by_cases h6 : 0 < a.natAbs - b.natAbs
            · rw [decide_eq_true h0, decide_eq_true h6, decide_eq_true (show a + b < 0 by omega)]; rfl
            · rw [decide_eq_true h0, decide_eq_false h6, decide_eq_false (show ¬ a + b < 0 by omega)]; rfl
          · rw [decide_eq_false h0, decide_eq_false (show ¬ a + b < 0 by omega)]; rfl
        rw [this]
      · have : (a + b).natAbs = a.natAbs - b.natAbs := by omega
        rw [this]
        exact (hu.mono x5).setB g' _
    · have hle : a.natAbs ≤ b.natAbs := by
        apply Classical.byContradiction
        intro hc
        unfold sgn at hlt
        rw [if_neg (by omega), if_pos (by omega)] at hlt
        omega
      simp only [x.b0, x.a1, x.b1, OP_some, true_and]
      refine C129 hw3 hv3 lb hle ?_
      intro u h4 x4 hu
      refine ⟨⟨EX.load x4 x.b0, trivial⟩, ?_⟩
      refine C117 hu ?_
      intro h5 x5
      have g' := (x4.trans x5).get x.out
      refine fin2 g' (hk _ _ (((x.ex.trans x4).trans x5).set (by omega) _) ⟨u, ?_, ?_⟩)
      · have : (decide (b < 0) && decide (0 < b.natAbs - a.natAbs)) = decide (a + b < 0) := by
          by_cases h0 : b < 0
          · by_cases h6 : 0 < b.natAbs - a.natAbs
            · rw [decide_eq_true h0, decide_eq_true h6, decide_eq_true (show a + b < 0 by omega)]; rfl
            · rw [decide_eq_true h0, decide_eq_false h6, decide_eq_false (show ¬ a + b < 0 by omega)]; rfl
          · rw [decide_eq_false h0, decide_eq_false (show ¬ a + b < 0 by omega)]; rfl
        rw [this]
      · have : (a + b).natAbs = b.natAbs - a.natAbs := by omega
        rw [this]
        exact (hu.mono x5).setB g' _

theorem C127 {va vb : Value} {a b : Int} {h : Heap} {K : Value → Heap → Prop} (ha : IntV h va a) (hb : IntV h vb b) (la : a.natAbs < bigW) (lb : b.natAbs < bigW) (hk : ∀ r h', EX h h' → IntV h' r (a - b) → K r h') : CallP Tryz.prog 127 [va, vb] h K := by
  have ha0 := ha
  have hb0 := hb
  obtain ⟨v, rfl, hv⟩ := ha
  obtain ⟨w, rfl, hw⟩ := hb
  refine f127 ?_
  unfold T127
  refine box2 ?_
  intro h3 x
  simp only [OP_some, x.a2, x.b2, true_and]
  refine C119 (hb0.mono x.ex) ?_
  intro r1 h4 x4 i1
  refine ⟨⟨EX.load x4 x.a2, trivial⟩, ?_⟩
  refine C113 (ha0.mono (x.ex.trans x4)) i1 la (by rw [Int.natAbs_neg]; exact lb) ?_
  intro r2 h5 x5 i2
  have g' := (x4.trans x5).get x.out
  obtain ⟨u, rfl, hu⟩ := id i2
  refine fin2 g' (hk _ _ (((x.ex.trans x4).trans x5).set (by omega) _) ?_)
  rw [Int.sub_eq_add_neg]
  exact i2.setB g' _

theorem C107 {va vb : Value} {a b : Int} {h : Heap} {K : Value → Heap → Prop} (ha : IntV h va a) (hb : IntV h vb b) (la : a.natAbs < bigW) (lb : b.natAbs < bigW) (hk : ∀ r h', EX h h' → IntV h' r (a * b) → K r h') : CallP Tryz.prog 107 [va, vb] h K := by
  obtain ⟨v, rfl, hv⟩ := ha
  obtain ⟨w, rfl, hw⟩ := hb
  refine f107 ?_
  unfold T107
  refine box2 ?_
  intro h3 x
  have hv3 := hv.mono x.ex
  have hw3 := hw.mono x.ex
  simp only [fadr_pt, Nat.add_zero, Nat.zero_add, OP_some, x.a0, x.a1, x.b0, x.b1, eqb_bool, if_true, true_and]
  refine C122 hv3 hw3 la lb ?_
  intro u h4 x4 hu
  refine ⟨⟨EX.load x4 x.a0, EX.load x4 x.b0, trivial⟩, ?_⟩
  refine C117 hu ?_
  intro h5 x5
  have g' := (x4.trans x5).get x.out
  refine fin2 g' (hk _ _ (((x.ex.trans x4).trans x5).set (by omega) _) ⟨u, ?_, ?_⟩)
  · have : ((!(decide (a < 0) == decide (b < 0))) && decide (0 < a.natAbs * b.natAbs)) = decide (a * b < 0) := by
      rcases Int.lt_trichotomy a 0 with h1 | h1 | h1
      · rcases Int.lt_trichotomy b 0 with h2 | h2 | h2
        · have := Int.mul_pos_of_neg_of_neg h1 h2
          rw [decide_eq_true h1, decide_eq_true h2, decide_eq_false (show ¬ a * b < 0 by omega)]; rfl
        · subst h2; simp
        · have := Int.mul_neg_of_neg_of_pos h1 h2
          have h3 : 0 < a.natAbs * b.natAbs := Nat.mul_pos (by omega) (by omega)
          rw [decide_eq_true h1, decide_eq_false (show ¬ b < 0 by omega), decide_eq_true h3, decide_eq_true this]; rfl
      · subst h1; simp
      · rcases Int.lt_trichotomy b 0 with h2 | h2 | h2
        · have := Int.mul_neg_of_pos_of_neg h1 h2
          have h3 : 0 < a.natAbs * b.natAbs := Nat.mul_pos (by omega) (by omega)
          rw [decide_eq_false (show ¬ a < 0 by omega), decide_eq_true h2, decide_eq_true h3, decide_eq_true this]; rfl
        · subst h2; simp
        · have := Int.mul_pos h1 h2
          rw [decide_eq_false (show ¬ a < 0 by omega), decide_eq_false (show ¬ b < 0 by omega), decide_eq_false (show ¬ a * b < 0 by omega)]; rfl
    rw [this]
  · rw [Int.natAbs_mul]
    exact (hu.mono x5).setB g' _

end Go.Proofs.YtelmdbpaoifmoaaGreat


namespace Go.Proofs.YtelmdbpaoifmoaaGreat
open Go.Sim

theorem shl32 {r : Nat} (hr : r < 4294967296) : iBin .shl (.int .u64 (r : Int)) (.int .u64 32) = some (.int .u64 ((r * 4294967296 : Nat) : Int)) := by
  simp only [iBin, iShift]
  rw [if_neg (by omega)]
  have : (min (32 : Int).toNat IntKind.u64.bits) = 32 := rfl
  rw [this]
  have e2 : (2 : Int) ^ 32 = 4294967296 := by decide
  rw [e2, wrapU64 (by omega) (by omega)]
  congr 2

theorem or64 {r x : Nat} (hr : r < 4294967296) (hx : x < 4294967296) : iBin .or (.int .u64 ((r * 4294967296 : Nat) : Int)) (.int .u64 (x : Int)) = some (.int .u64 ((r * 4294967296 + x : Nat) : Int)) := by
  have e : (BitVec.ofInt IntKind.u64.bits ((r * 4294967296 : Nat) : Int) ||| BitVec.ofInt IntKind.u64.bits (x : Int)).toNat = r * 4294967296 + x := by
    show (BitVec.ofInt 64 ((r * 4294967296 : Nat) : Int) ||| BitVec.ofInt 64 (x : Int)).toNat = _
    rw [BitVec.ofInt_natCast, BitVec.ofInt_natCast, BitVec.toNat_or, BitVec.toNat_ofNat, BitVec.toNat_ofNat, Nat.mod_eq_of_lt (by omega), Nat.mod_eq_of_lt (by omega)]
    have := Nat.two_pow_add_eq_or_of_lt (i := 32) (b := x) (by omega) r
    rw [Nat.mul_comm r]
    exact this.symm
  simp only [iBin, iInt, if_true]
  rw [e, wrapU64 (by omega) (by omega)]

theorem quo64 {a b : Nat} (hb : b ≠ 0) (ha : a < 18446744073709551616) : iBin .quo (.int .u64 (a : Int)) (.int .u64 (b : Int)) = some (.int .u64 ((a / b : Nat) : Int)) := by
  have h : ¬ ((b : Int) = 0) := by omega
  have h2 : a / b ≤ a := Nat.div_le_self _ _
  simp only [iBin, iInt, if_true, if_neg h]
  have e : (a : Int).tdiv (b : Int) = ((a / b : Nat) : Int) := rfl
  rw [e]
  generalize a / b = q at *
  rw [wrapU64 (by omega) (by omega)]

theorem C114 {va : Value} {a w : Nat} {h : Heap} {K : Value → Heap → Prop} (ha : MagV h va a) (la : a < bigW) (w0 : 0 < w) (wW : w < 4294967296) (hk : ∀ v h', EX h h' → MagV h' v (a / w) → K (.tuple #[v, .int .u32 ((a % w : Nat) : Int)]) h') :
    CallP Tryz.prog 114 [va, .int .u32 (w : Int)] h K := by
  obtain ⟨xs, hx, cx, rfl⟩ := ha
  have l1 := canW_len cx la
  have hW : (0 : Nat) < 4294967296 := by decide
  refine f114 ?_
  have e1 : IntKind.wrap .i64 ((xs.length : Int) - 1) = (xs.length : Int) - 1 := by rw [wrap64 (by omega) (by omega)]
  simp only [T114, hx.len, OP_some, make_hd (show xs.length ≤ 1000 by omega), OH_some, bin_sub, e1]
  refine loopL (σ := Nat × Nat × List Nat) (fun p => [.int .u64 (p.1 : Int), I ((p.2.1 : Int) - 1)]) (fun p => hd h p.2.2)
    (fun p => p.2.1 ≤ xs.length ∧ p.1 < w ∧ p.2.2.length = xs.length ∧ Lim 4294967296 p.2.2 ∧ val 4294967296 (xs.drop p.2.1) = w * val 4294967296 (p.2.2.drop p.2.1) + p.1) (fun p => p.2.1)
    (0, xs.length, List.replicate xs.length 0) rfl rfl ⟨Nat.le_refl _, w0, by simp, Lim.zeros hW _, by simp [val]⟩ ?_
  rintro ⟨r, i, os⟩ ⟨hi, hr, hol, hlim, hval⟩ L hL
  simp only at hi hr hol hlim hval hL ⊢
  rw [q114z7]
  have hx' := hx.mono (hd_EX h os)
  simp only [bin_geq, OP_some, IfP_dec]
  refine ⟨fun hge => ?_, fun hlt => ?_⟩
  · obtain ⟨j, rfl⟩ : ∃ j, i = j + 1 := ⟨i - 1, by omega⟩
    have ej : (((j + 1 : Nat) : Int) - 1) = (j : Int) := by omega
    rw [ej]
    obtain ⟨ia, a1, a2⟩ := hx'.get (j := j) (by omega)
    have hxl : xs[j]'(by omega) < 4294967296 := cx.1 _ (List.getElem_mem _)
    have hdx : xs.drop j = xs[j]'(by omega) :: xs.drop (j + 1) := List.drop_eq_getElem_cons (by omega)
    generalize xs[j]'(by omega) = x at a2 hxl hdx
    simp only [shl32 (show r < 4294967296 by omega), OP_some, a1, a2, conv_int]
    rw [wrapU64 (n := (x : Int)) (by omega) (by omega)]
    simp only [or64 (show r < 4294967296 by omega) hxl, OP_some, conv_int]
    rw [wrapU64 (n := (w : Int)) (by omega) (by omega)]
    have ht : r * 4294967296 + x < w * 4294967296 := by omega
    have hq : (r * 4294967296 + x) / w < 4294967296 := (Nat.div_lt_iff_lt_mul w0).2 (by omega)
    have hm := Nat.mod_lt (r * 4294967296 + x) w0
    have hdm := Nat.div_add_mod (r * 4294967296 + x) w
    rw [quo64 (by omega) (by omega), rem_nat _ _ _ (by omega)]
    generalize (r * 4294967296 + x) / w = q at *
    generalize (r * 4294967296 + x) % w = m at *
    simp only [OP_some, conv_int]
    rw [wrapU32 (n := (q : Int)) (by omega) (by omega), adr_sl (show j < xs.length by omega)]
    simp only [OP_some]
    rw [hd_store _ (by omega)]
    simp only [OH_some, bin_sub, OP_some, true_and]
    rw [wrap64 (n := (j : Int) - 1) (by omega) (by omega)]
    refine hL (m, j, os.set j q) ⟨by show j ≤ xs.length; omega, hm, by show (os.set _ _).length = _; rw [List.length_set]; exact hol, hlim.set hq _, ?_⟩ (by show j < j + 1; omega)
    show val 4294967296 (xs.drop j) = w * val 4294967296 ((os.set j q).drop j) + m
    have hdo : (os.set j q).drop j = q :: os.drop (j + 1) := by
      rw [List.drop_eq_getElem_cons (by rw [List.length_set]; omega), List.getElem_set_self, List.drop_set_of_lt (by omega)]
    rw [hdx, hdo]
    simp only [val]
    rw [hval]
    generalize val 4294967296 (os.drop (j + 1)) = Q at *
    generalize (4294967296 : Nat) = W at *
    clear hL hx hx' a1 a2 hval
    grind
  · have : i = 0 := by omega
    subst this
    rw [List.drop_zero, List.drop_zero] at hval
    rw [q114z13]
    have e : sl 177 h.length 0 xs.length = sl 177 h.length 0 os.length := by rw [hol]
    rw [e]
    refine C118 (hd_DS h _) hlim (by omega) ?_
    intro v' hm
    simp only [conv_int, OP_some]
    rw [wrapU32 (n := (r : Int)) (by omega) (by omega)]
    have h1 : val 4294967296 xs / w = val 4294967296 os := by
      rw [hval, Nat.mul_add_div w0, Nat.div_eq_of_lt hr, Nat.add_zero]
    have h2 : val 4294967296 xs % w = r := by
      rw [hval, Nat.mul_add_mod, Nat.mod_eq_of_lt hr]
    have := hk v' _ (hd_EX h os) (by rw [h1]; exact hm)
    rw [h2] at this
    exact this

theorem C115 {h : Heap} {id : Nat} {xs : List UInt8} {K : Value → Heap → Prop} (hget : h[id]? = some (.arr 5 (xs.map cv))) (hn : xs.length ≤ 100000) (hk : K (.tuple #[]) (hb h id xs.reverse)) : CallP Tryz.prog 115 [sl 5 id 0 xs.length] h K := by
  have hid := (List.getElem?_eq_some_iff.1 hget).1
  have e0 : h = hb h id xs := by
    apply List.ext_getElem?
    intro j
    by_cases hj : id = j
    · subst hj; rw [hb_get hid, hget]
    · rw [List.getElem?_set_ne hj]
  refine f115 ?_
  have e1 : iLenSl (sl 5 id 0 xs.length) = some (I xs.length) := rfl
  have e2 : IntKind.wrap .i64 ((xs.length : Int) - 1) = (xs.length : Int) - 1 := by rw [wrap64 (by omega) (by omega)]
  simp only [T115, e1, OP_some, bin_sub, e2]
  refine loopL (σ := Nat × List UInt8) (fun p => [I p.1, I ((xs.length : Int) - 1 - p.1)]) (fun p => hb h id p.2) (fun p => p.1 ≤ xs.length ∧ p.2.length = xs.length ∧ ∀ k (hk : k < p.2.length) (hk2 : k < xs.length), p.2[k] = if k < p.1 ∨ xs.length - p.1 ≤ k then xs[xs.length - 1 - k]'(by omega) else xs[k]) (fun p => xs.length - p.1)
    (0, xs) (by simp) e0.symm ⟨by simp, rfl, fun k h1 h2 => by simp; intro h3; omega⟩ ?_
  rintro ⟨i, ys⟩ ⟨hi, hl, hy⟩ L hL
  simp only at hi hl hy hL ⊢
  rw [q115z3]
  simp only [bin_lss, OP_some, IfP_dec]
  refine ⟨fun hlt => ?_, fun hge => ?_⟩
  · obtain ⟨j, hj⟩ : ∃ j : Nat, (xs.length : Int) - 1 - i = j := ⟨xs.length - 1 - i, by omega⟩
    rw [hj]
    have hjn : j = xs.length - 1 - i := by omega
    have a1 := adr_sl (id := id) (e := 5) (n := xs.length) (j := j) (by omega)
    have a2 := adr_sl (id := id) (e := 5) (n := xs.length) (j := i) (by omega)
    have g1 : ys[j]? = some (ys[j]'(by omega)) := List.getElem?_eq_getElem (by omega)
    have g2 : ys[i]? = some (ys[i]'(by omega)) := List.getElem?_eq_getElem (by omega)
    simp only [a1, a2, OP_some, hb_load hid g1, hb_load hid g2, true_and]
    rw [hb_store hid _ (by omega)]
    simp only [OH_some]
    rw [hb_store hid _ (by rw [List.length_set]; omega)]
    simp only [OH_some, bin_add, bin_sub, OP_some, inc i (by omega), true_and]
    have ej : IntKind.wrap .i64 ((j : Int) - 1) = (xs.length : Int) - 1 - ((i + 1 : Nat) : Int) := by rw [wrap64 (by omega) (by omega)]; omega
    rw [ej]
    refine hL (i + 1, (ys.set i (ys[j]'(by omega))).set j (ys[i]'(by omega))) ⟨by show i + 1 ≤ xs.length; omega, by simp [hl], ?_⟩ (by show xs.length - (i + 1) < xs.length - i; omega)
    intro k hk1 hk2
    show ((ys.set i (ys[j]'(by omega))).set j (ys[i]'(by omega)))[k] = if k < i + 1 ∨ xs.length - (i + 1) ≤ k then xs[xs.length - 1 - k]'(by omega) else xs[k]
    have hyi := hy i (by omega) (by omega)
    have hyj := hy j (by omega) (by omega)
    rw [if_neg (by omega)] at hyi hyj
    by_cases hkj : j = k
    · subst hkj
      rw [List.getElem_set_self, if_pos (by omega), hyi]
      congr 1; omega
    · rw [List.getElem_set_ne hkj]
      by_cases hki : i = k
      · subst hki
        rw [List.getElem_set_self, if_pos (by omega), hyj]
        congr 1
      · rw [List.getElem_set_ne hki, hy k (by omega) hk2]
        by_cases hc : k < i ∨ xs.length - i ≤ k
        · rw [if_pos hc, if_pos (by omega)]
        · rw [if_neg hc, if_neg (by omega)]
  · have : ys = xs.reverse := by
      apply List.ext_getElem (by simp [hl])
      intro k h1 h2
      rw [hy k h1 (by omega), List.getElem_reverse]
      split
      · rfl
      · congr 1; omega
    rw [this]
    exact hk

/-! ### Decimal digits -/

def dig10 (n : Nat) : List Nat := if h : n = 0 then [] else n % 10 :: dig10 (n / 10)
termination_by n
decreasing_by omega

theorem dig10_canon (n : Nat) : Canon 10 (dig10 n) ∧ val 10 (dig10 n) = n := by
  induction n using Nat.strongRecOn with
  | ind n ih =>
    rw [dig10]
    by_cases h : n = 0
    · subst h; exact ⟨Canon.nil 10, rfl⟩
    · rw [dif_neg h]
      obtain ⟨h1, h2⟩ := ih (n / 10) (by omega)
      refine ⟨⟨?_, ?_⟩, ?_⟩
      · intro x hx
        rcases List.mem_cons.1 hx with rfl | hx
        · omega
        · exact h1.1 x hx
      · cases hd : dig10 (n / 10) with
        | nil =>
          rw [hd] at h2
          simp [val] at h2
          simp
          omega
        | cons y ys =>
          rw [List.getLast?_cons_cons, ← hd]
          exact h1.2
      · simp only [val, h2]; omega

/-- A digit's character. -/
def dch (d : Nat) : UInt8 := UInt8.ofNat (48 + d)
theorem dch_toNat {d : Nat} (h : d < 10) : (dch d).toNat = 48 + d := by simp [dch, UInt8.toNat_ofNat']; omega

/-- A number in decimal digits. -/
def decS (n : Nat) : List UInt8 := if n = 0 then [48] else ((dig10 n).map dch).reverse

def k1000 : Nat := 1000
theorem bigW_10 : bigW ≤ 10 ^ k1000 := by decide +kernel

end Go.Proofs.YtelmdbpaoifmoaaGreat


namespace Go.Proofs.YtelmdbpaoifmoaaGreat
open Go.Sim

theorem cvd {d : Nat} (h : d < 10) : (.int .u8 ((48 + d : Nat) : Int) : Value) = cv (dch d) := by rw [cv, dch_toNat h]

theorem pow10_pos (k : Nat) : 0 < 10 ^ k := Nat.pow_pos (by decide)

theorem len_of_pow {b n m : Nat} (hm : 0 < m) (h : 10 ^ b * m ≤ n) (hn : n < bigW) : b < 1000 := by
  have h1 : 10 ^ b ≤ 10 ^ b * m := Nat.le_mul_of_pos_right _ hm
  show b < k1000
  have h2 : 10 ^ b < 10 ^ k1000 := Nat.lt_of_le_of_lt (Nat.le_trans h1 h) (Nat.lt_of_lt_of_le hn bigW_10)
  exact (Nat.pow_lt_pow_iff_right (by decide)).1 h2

/-- One byte more: numbers stay as they are. -/
theorem app1M {h0 hx : Heap} {v z : Value} {x : UInt8} {bs : List UInt8} {K : Value → Heap → Prop} (o : OwnS h0.length hx 5 v (bs.map cv)) (hex : EX h0 hx) (hl : bs.length ≤ 100000)
    (hk : ∀ v' hx', EX h0 hx' → OwnS h0.length hx' 5 v' ((bs ++ [x]).map cv) → (∀ q n, MagV hx q n → MagV hx' q n) → K v' hx') :
    OH (iMkSl 5 1 [z] hx [(0, 1, cv x)]) fun a h2 => OH (iApp 5 1 1 h2 v a) K := by
  refine app1p o (by simp; omega) (by simp [maxLen]; omega) rfl rfl ?_
  intro hA hx' _ hlen hkeep hnew
  simp only [OH_some]
  refine hk _ _ ⟨by have := hex.1; omega, fun j hj => ?_⟩ (.inr ⟨hx.length + 1, by have := hex.1; omega, by simp, by simpa using hnew⟩) ?_
  · rw [hkeep j (by have := hex.1; omega) fun n hv => ?_]
    · exact hex.2 j hj
    · have := (o.lt hv).1; omega
  · rintro q n ⟨xs, d, c, hv⟩
    refine ⟨xs, ?_, c, hv⟩
    rcases d with d | ⟨i, h1, h2⟩
    · exact .inl d
    · refine .inr ⟨i, h1, ?_⟩
      rcases h2 with h2 | ⟨r, h2⟩
      · exact .inl h2
      · cases xs with
        | nil => exact .inl rfl
        | cons y ys =>
          right
          refine ⟨r, ?_⟩
          have hil : i < hx.length := by
            apply Classical.byContradiction
            intro hc
            unfold objCells at h2
            rw [List.getElem?_eq_none (by omega)] at h2
            simp at h2
          unfold objCells at h2 ⊢
          rw [hkeep i hil fun n hvv => ?_]
          · exact h2
          · have hg := (o.lt hvv).2.2
            rw [hg] at h2
            cases bs with
            | nil => simp at h2
            | cons b bs => simp [cv] at h2

theorem C89 {va : Value} {n : Nat} {h : Heap} {K : Value → Heap → Prop} (ha : MagV h va n) (la : n < bigW) (hk : ∀ h', EX h h' → K (S (decS n)) h') : CallP Tryz.prog 89 [va] h K := by
  refine f89 ?_
  obtain ⟨l0, e0, e1⟩ := ha.len0
  simp only [T89, e0, OP_some, bin_eql, IfP_dec]
  refine ⟨fun hz => ?_, fun hnz => ?_⟩
  · have : n = 0 := by omega
    subst this
    exact hk h (EX.refl h)
  · have hn0 : 0 < n := by omega
    refine loopL (σ := Value × Nat × Value × List Nat × Heap) (fun p => [p.1, p.2.2.1]) (fun p => p.2.2.2.2)
      (fun p => EX h p.2.2.2.2 ∧ MagV p.2.2.2.2 p.1 p.2.1 ∧ OwnS h.length p.2.2.2.2 5 p.2.2.1 ((p.2.2.2.1.map dch).map cv) ∧ Lim 10 p.2.2.2.1 ∧ val 10 p.2.2.2.1 + 10 ^ p.2.2.2.1.length * p.2.1 = n ∧ (p.2.1 = 0 → Canon 10 p.2.2.2.1)) (fun p => p.2.1)
      (va, n, .slice none 0 0, [], h) rfl rfl ⟨EX.refl h, ha, .inl ⟨rfl, rfl⟩, fun x hx => by simp at hx, by simp [val], fun h0 => by have h0 : n = 0 := h0; omega⟩ ?_
    rintro ⟨v, m, bv, b, hx⟩ ⟨hex, hm, hown, hlim, hval, hcan⟩ L hL
    simp only at hex hm hown hlim hval hcan hL ⊢
    rw [q89z8]
    obtain ⟨l, f0, f1⟩ := hm.len0
    simp only [f0, OP_some, bin_gtr, IfP_dec]
    refine ⟨fun hlt => ?_, fun hge => ?_⟩
    · have hm0 : 0 < m := by omega
      have hmb : m < bigW := by
        refine Nat.lt_of_le_of_lt ?_ la
        have : m ≤ 10 ^ b.length * m := Nat.le_mul_of_pos_left _ (pow10_pos _)
        omega
      have hbl := len_of_pow (b := b.length) hm0 (by omega) la
      refine C114 hm hmb (w := 1000000000) (by decide) (by decide) ?_
      intro q h1 x1 hq
      simp only [ext_tuple, pair0, pair1, OP_some]
      have hown1 : OwnS h.length h1 5 bv ((b.map dch).map cv) := hown.keep fun d k hv hd => by
        have := (hown.lt hv).2.1
        exact x1.2 d this
      have hqlt : m / 1000000000 < m := Nat.div_lt_self hm0 (by decide)
      have hdm := Nat.div_add_mod m 1000000000
      have hr9 := Nat.mod_lt m (show 1000000000 > 0 by decide)
      generalize m / 1000000000 = qn at *
      generalize m % 1000000000 = r0 at *
      have hqq := hq
      refine loopL (σ := Value × List Nat × Nat × Nat × Heap) (fun p => [p.1, .int .u32 (p.2.2.1 : Int), I p.2.2.2.1]) (fun p => p.2.2.2.2)
        (fun p => EX h p.2.2.2.2 ∧ MagV p.2.2.2.2 q qn ∧ OwnS h.length p.2.2.2.2 5 p.1 ((p.2.1.map dch).map cv) ∧ Lim 10 p.2.1 ∧ p.2.2.2.1 ≤ 9 ∧ p.2.2.1 < 10 ^ (9 - p.2.2.2.1) ∧ p.2.1.length ≤ b.length + p.2.2.2.1 ∧ val 10 p.2.1 + 10 ^ p.2.1.length * (p.2.2.1 + 10 ^ (9 - p.2.2.2.1) * qn) = n ∧ (qn = 0 → p.2.2.1 = 0 → Canon 10 p.2.1)) (fun p => 9 - p.2.2.2.1)
        (bv, b, r0, 0, h1) rfl rfl ⟨hex.trans x1, hq, hown1, hlim, by simp, by simpa using hr9, by simp, ?_, ?_⟩ ?_
      · show val 10 b + 10 ^ b.length * (r0 + 10 ^ (9 - 0) * qn) = n
        have : r0 + 10 ^ (9 - 0) * qn = m := by
          show r0 + 1000000000 * qn = m
          omega
        rw [this]; exact hval
      · intro h1 h2
        have h1 : qn = 0 := h1
        have h2 : r0 = 0 := h2
        subst h1; subst h2
        omega
      rintro ⟨cv1, c, r, i, hy⟩ ⟨hey, hqy, howny, hlimc, hi, hr, hcl, hvalc, hcanc⟩ L2 hL2
      simp only at hey hqy howny hlimc hi hr hcl hvalc hcanc hL2 ⊢
      rw [q89z16]
      -- leaving
      have stop : r = 0 → (i = 9 ∨ qn = 0) → p89z30 Tryz.prog K cv1 q L hy := by
        intro hr0 hor
        rw [q89z30]
        refine ⟨rfl, hL (q, qn, cv1, c, hy) ⟨hey, hqy, howny, hlimc, ?_, fun h0 => hcanc h0 hr0⟩ hqlt⟩
        show val 10 c + 10 ^ c.length * qn = n
        rw [hr0, Nat.zero_add] at hvalc
        rcases hor with h9 | h0
        · subst h9; simpa using hvalc
        · subst h0; simpa using hvalc
      simp only [bin_lss, OP_some]
      by_cases hi9 : i < 9
      · rw [decide_eq_true (show (i : Int) < 9 by omega)]
        simp only [q89z20, GdP_tt]
        obtain ⟨l2, g0, g1⟩ := hqy.len0
        simp only [g0, OP_some, bin_gtr]
        -- one digit more
        have step : (0 < qn ∨ 0 < r) → IfP (B true)
            (OP (iBin .rem (.int .u32 (r : Int)) (.int .u32 (10))) fun x33 =>
            OP (iBin .add (.int .u32 (48)) x33) fun x34 =>
            OP (iConv .u8 x34) fun x35 =>
            OH (iMkSl 5 1 [(.int .u8 (0))] hy [(0, 1, x35)]) fun x36 h_1 =>
            OH (iApp 5 1 1 h_1 cv1 x36) fun x37 h_2 =>
            OP (iBin .quo (.int .u32 (r : Int)) (.int .u32 (10))) fun x39 =>
            OP (iBin .add (I i) (.int .i64 (1))) fun x30 =>
            True ∧ L2 [x37, x39, x30] h_2)
            (p89z30 Tryz.prog K cv1 q L hy) := by
          intro hor
          have hrW : r < 4294967296 := Nat.lt_of_lt_of_le hr (Nat.le_trans (Nat.pow_le_pow_right (by decide) (show 9 - i ≤ 9 by omega)) (by decide))
          have ed : IntKind.wrap .u32 ((48 : Int) + ((r % 10 : Nat) : Int)) = ((48 + r % 10 : Nat) : Int) := by rw [wrapU32 (by omega) (by omega)]; omega
          have eq10 : iBin .quo (.int .u32 (r : Int)) (.int .u32 10) = some (.int .u32 ((r / 10 : Nat) : Int)) := by
            have h10 : ¬ ((10 : Int) = 0) := by omega
            simp only [iBin, iInt, if_true, if_neg h10]
            have e : (r : Int).tdiv 10 = ((r / 10 : Nat) : Int) := rfl
            rw [e, wrapU32 (by omega) (by omega)]
          simp only [IfP_true]
          rw [show (.int .u32 10 : Value) = .int .u32 ((10 : Nat) : Int) from rfl, rem_nat _ _ _ (by decide)]
          simp only [OP_some, bin_add, ed, conv_int]
          rw [wrapU8 (by omega) (by omega), cvd (show r % 10 < 10 by omega)]
          refine app1M (x := dch (r % 10)) howny hey (by simp; omega) ?_
          intro v' hx' hex' hown' hkeep
          rw [show (.int .u32 ((10 : Nat) : Int) : Value) = .int .u32 10 from rfl, eq10]
          simp only [OP_some, inc i (by omega), true_and]
          have hq' : MagV hx' q qn := hkeep q qn hqy
          refine hL2 (v', c ++ [r % 10], r / 10, i + 1, hx') ⟨hex', hq', by simpa using hown', hlimc.append (fun x hx => by simp at hx; omega), by show i + 1 ≤ 9; omega, ?_, by show (c ++ [r % 10]).length ≤ b.length + (i + 1); simp; omega, ?_, ?_⟩ (by show 9 - (i + 1) < 9 - i; omega)
          · show r / 10 < 10 ^ (9 - (i + 1))
            rw [show 9 - i = (9 - (i + 1)) + 1 by omega, Nat.pow_succ] at hr
            exact (Nat.div_lt_iff_lt_mul (by decide)).2 hr
          · show val 10 (c ++ [r % 10]) + 10 ^ (c ++ [r % 10]).length * (r / 10 + 10 ^ (9 - (i + 1)) * qn) = n
            rw [val_append, List.length_append, List.length_singleton, Nat.pow_succ]
            rw [show 9 - i = (9 - (i + 1)) + 1 by omega, Nat.pow_succ] at hvalc
            have hdm := Nat.div_add_mod r 10
            simp only [val, Nat.mul_zero, Nat.add_zero]
            generalize r / 10 = r1 at *
            generalize r % 10 = d at *
            generalize 10 ^ c.length = P at *
            generalize 10 ^ (9 - (i + 1)) = Q at *
            generalize val 10 c = V at *
            clear hL hL2 hr hcanc hval stop
            subst hdm
            grind
          · intro h1 h2
            have h2 : r / 10 = 0 := h2
            refine can_of_last (hlimc.append (fun x hx => by simp at hx; omega)) ?_
            intro _
            have : 0 < r := by rcases hor with h | h; omega; exact h
            simp
            omega
        by_cases hq0 : 0 < qn
        · rw [decide_eq_true (show (0 : Int) < (l2 : Int) by omega)]
          simp only [q89z22, GdP_tf, q89z24, iPick_t, OP_some, GdP_tt, q89z26]
          exact step (.inl hq0)
        · rw [decide_eq_false (show ¬ (0 : Int) < (l2 : Int) by omega)]
          simp only [q89z22, GdP_ff, bin_gtr, OP_some]
          by_cases hr0 : 0 < r
          · rw [decide_eq_true (show (0 : Int) < (r : Int) by omega)]
            simp only [q89z24, GdP_tt, iPick_f, OP_some, q89z26, iPick_t]
            exact step (.inr hr0)
          · rw [decide_eq_false (show ¬ (0 : Int) < (r : Int) by omega)]
            simp only [q89z24, GdP_tt, iPick_f, OP_some, q89z26, iPick_t, IfP_false]
            exact stop (by omega) (.inr (by omega))
      · have : i = 9 := by omega
        subst this
        rw [decide_eq_false (show ¬ ((9 : Nat) : Int) < 9 by omega)]
        simp only [q89z20, GdP_ft, q89z22, GdP_undef, q89z24, q89z26, iPick_f, OP_some, IfP_false]
        exact stop (by simpa using hr) (.inl rfl)
    · have hm0 : m = 0 := by omega
      subst hm0
      have hc := hcan rfl
      rw [Nat.mul_zero, Nat.add_zero] at hval
      have hb : b = dig10 n := Canon.unique (by decide) hc (dig10_canon n).1 (by rw [hval, (dig10_canon n).2])
      have hbne : b ≠ [] := by rintro rfl; simp [val] at hval; omega
      have hbl : b.length ≤ 2000 := by
        have h1 := Canon.low (by decide) hc hbne
        have h2 := len_of_pow (b := b.length - 1) (m := 1) (n := n) (by decide) (by omega) la
        omega
      rw [q89z31]
      obtain ⟨id, hid, hv, hg⟩ : ∃ id, h.length ≤ id ∧ bv = sl 5 id 0 (b.map dch).length ∧ hx[id]? = some (.arr 5 ((b.map dch).map cv)) := by
        rcases hown with ⟨_, h0⟩ | ⟨id, h1, h2, h3⟩
        · exact absurd (by simpa using h0) hbne
        · exact ⟨id, h1, by simpa using h2, h3⟩
      rw [hv]
      refine C115 hg (by simp; omega) ?_
      have hidl := (List.getElem?_eq_some_iff.1 hg).1
      have b2 : iB2s (Go.Proofs.YtelmdbpaoifmoaaGreat.hb hx id (b.map dch).reverse) (sl 5 id 0 (b.map dch).length) = some (S (b.map dch).reverse) := by
        refine b2s (b := 0) (e := 5) (l := (b.map dch).reverse) (.inr ⟨id, Nat.zero_le _, by simp, ?_⟩)
        rw [hb_get hidl]
      simp only [b2, OP_some]
      have : (b.map dch).reverse = decS n := by unfold decS; rw [if_neg (by omega), hb]
      rw [this]
      exact hk _ (hex.set hid _)

end Go.Proofs.YtelmdbpaoifmoaaGreat

