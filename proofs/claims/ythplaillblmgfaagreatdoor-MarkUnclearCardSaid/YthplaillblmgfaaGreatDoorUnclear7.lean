/-
  Part 7 of the texts behind a statement of this seat: Rd2, HZR2, HZq2, HZR3, HNC, Rd3.
-/
import Derived.Test.YthplaillblmgfaaGreatDoorProg
import Derived.KernelRfl
import Derived.Test.YthplaillblmgfaaGreatDoorUnclear6
namespace Go.Proofs.YthplaillblmgfaaGreatDoor
open Go.Sim

theorem C84 {s p : Tx} {h : Heap} {K : Value → Heap → Prop} (hk : K (B (decide (p <:+ s))) h) (hs : s.length < 4611686018427387904) : CallP Tryz.prog 84 [S s, S p] h K := by
  refine f84 ?_
  unfold T84
  simp only [lenS_S, OP_some, bin_geq]
  rw [q84z4]
  by_cases hl : p.length ≤ s.length
  · rw [decide_eq_true (show (p.length : Int) ≤ s.length by omega)]
    have w : IntKind.wrap .i64 ((s.length : Int) - p.length) = ((s.length - p.length : Nat) : Int) := by rw [wrap64 (by omega) (by omega)]; omega
    simp only [GdP_tt, lenS_S, OP_some, bin_sub, w, slS_lo (a := s) (n := s.length - p.length) (by omega) .i64, bin_eqlS]
    rw [q84z6]
    simp only [iPick_t, OP_some]
    have : decide (s.drop (s.length - p.length) = p) = decide (p <:+ s) := decide_eq_decide.2 (by rw [List.suffix_iff_eq_drop]; exact eq_comm)
    rw [this]
    exact hk
  · rw [decide_eq_false (show ¬ (p.length : Int) ≤ s.length by omega)]
    simp only [GdP_ft, OP_some]
    rw [q84z6]
    simp only [iPick_f, OP_some]
    have : decide (p <:+ s) = false := decide_eq_false fun h => hl h.length_le
    rw [this] at hk
    exact hk

/-- Keeps what begins with a digit of the program's numbers. -/
def isW : Value → Bool
  | .int .u32 _ => true
  | _ => false

theorem DSw.keep {e : TypeId} {h h' : Heap} {v : Value} {xs : List Nat} (x : KP isW h h') (p : DS e .u32 h v xs) : DS e .u32 h' v xs := by
  refine p.imp id fun ⟨i, a, b⟩ => ⟨i, a, ?_⟩
  cases xs with
  | nil => exact .inl rfl
  | cons y ys =>
    obtain ⟨r, c⟩ := b.resolve_left (by simp)
    exact .inr ⟨r, x i _ _ c rfl⟩

theorem MagV.keep {h h' : Heap} {v : Value} {n : Nat} (x : KP isW h h') (p : MagV h v n) : MagV h' v n := let ⟨xs, a, b, c⟩ := p; ⟨xs, DSw.keep x a, b, c⟩
theorem IntV.keep {h h' : Heap} {v : Value} {a : Int} (x : KP isW h h') (p : IntV h v a) : IntV h' v a := let ⟨u, e, m⟩ := p; ⟨u, e, m.keep x⟩

/-- Numbers that are being gathered. -/
def OwnI (b : Nat) (h : Heap) (v : Value) (zs : List Nat) : Prop :=
  ∃ rows, OwnR b h 81 2 v rows ∧ rows.length = zs.length ∧ (∀ r ∈ rows, ∃ s t, r = .bool s :: t) ∧ ∀ (k : Nat) (row : List Value) (z : Nat), rows[k]? = some row → zs[k]? = some z → IntV h (.agg row.toArray) z

theorem flat_bool {rows : List (List Value)} (h : ∀ r ∈ rows, ∃ s t, r = .bool s :: t) : ∀ c r, rows.flatten = c :: r → isW c = false := by
  intro c r hc
  cases rows with
  | nil => simp at hc
  | cons x xs =>
    obtain ⟨s, t, rfl⟩ := h x (by simp)
    simp at hc
    rw [← hc.1]; rfl

theorem OwnI.ex {b : Nat} {h h' : Heap} {v : Value} {zs : List Nat} (x : EX h h') (o : OwnI b h v zs) : OwnI b h' v zs :=
  let ⟨rows, a, c, e, d⟩ := o; ⟨rows, a.ex x, c, e, fun k r q h1 h2 => (d k r q h1 h2).mono x⟩

/-- Another cell is written. -/
theorem OwnI.set {b : Nat} {h : Heap} {v : Value} {zs : List Nat} {j : Nat} {e : TypeId} {s : Bool} {r : List Value} (o : OwnI b h v zs) (hj : h[j]? = some (.arr e (.bool s :: r))) (hne : ∀ n, v ≠ sl 81 j 0 n) (ob : IObj) : OwnI b (h.set j ob) v zs :=
  let ⟨rows, a, c, e', d⟩ := o
  ⟨rows, a.keep fun d' n hv _ => List.getElem?_set_ne fun hjd => by subst hjd; exact hne n hv, c, e', fun k r q h1 h2 => (d k r q h1 h2).setB hj ob⟩

theorem OwnI.get {b : Nat} {h : Heap} {v : Value} {zs : List Nat} (p : OwnI b h v zs) {k : Nat} (hk : k < zs.length) : ∃ i o r, iAdrSl 2 v (I k) = some (pt i o) ∧ iLoad true 2 h (pt i o) = some r ∧ IntV h r zs[k] := by
  obtain ⟨rows, a, b, _, c⟩ := p
  have hk' : k < rows.length := by omega
  obtain ⟨i, o, cs, g1, g2, g3, g4⟩ := a.rs.get hk'
  exact ⟨i, o, _, g1, row_all g2 g3 g4, c k _ _ (List.getElem?_eq_getElem hk') (List.getElem?_eq_getElem hk)⟩

theorem IntV.cells {h : Heap} {v : Value} {a : Int} (p : IntV h v a) : noTuple v = true ∧ ∃ s u, v = .agg #[B s, u] ∧ vcells v = [B s, u] := by
  obtain ⟨u, rfl, _⟩ := p
  exact ⟨rfl, _, _, rfl, rfl⟩

theorem OwnI.app {h0 h : Heap} {v x : Value} {a : Nat} {zs : List Nat} {z0 : List Value} {K : Value → Heap → Prop} (o : OwnI h0.length h v zs) (hex : EX h0 h) (hx : IntV h x a) (hz : z0.length = 2) (hl : zs.length ≤ 10000)
    (hk : ∀ v' h', EX h0 h' → OwnI h0.length h' v' (zs ++ [a]) → K v' h') : OH (iMkSl 81 1 z0 h [(0, 2, x)]) fun y h2 => OH (iApp 81 2 32 h2 v y) K := by
  obtain ⟨rows, o1, o2, o3, o4⟩ := o
  obtain ⟨t1, s, u, e1, e2⟩ := hx.cells
  refine o1.app hex hz t1 e2 rfl (by omega) (by simp [maxLen]; omega) ?_
  intro v' h' x' hold o'
  have kp : KP isW h h' := o1.kp (flat_bool o3) hold
  refine hk v' h' x' ⟨_, o', by simp [o2], fun r hr => ?_, fun k row q h1 h2 => ?_⟩
  · rcases List.mem_append.1 hr with hr | hr
    · exact o3 r hr
    · rw [List.mem_singleton.1 hr]; exact ⟨s, _, rfl⟩
  · by_cases hk : k < rows.length
    · rw [List.getElem?_append_left hk] at h1
      rw [List.getElem?_append_left (by omega)] at h2
      exact (o4 k row q h1 h2).keep kp
    · rw [List.getElem?_append_right (by omega)] at h1
      rw [List.getElem?_append_right (by omega), ← o2] at h2
      have h0 : k - rows.length = 0 := by
        have := (List.getElem?_eq_some_iff.1 h1).1
        simp at this; omega
      rw [h0] at h1 h2
      simp only [List.getElem?_cons_zero, Option.some.injEq] at h1 h2
      subst h1 h2
      rw [← e1]
      exact hx.keep kp

theorem small {n i : Nat} (hi : i ≤ 200) (h : n ≤ 12 ^ i) : n < bigW := by
  have h1 : 12 ^ i ≤ 16 ^ 200 := Nat.le_trans (Nat.pow_le_pow_left (by omega) i) (Nat.pow_le_pow_right (by omega) hi)
  have h2 : (16 : Nat) ^ 200 = 4294967296 ^ 25 := by rw [show (4294967296 : Nat) = 16 ^ 8 by decide, ← Nat.pow_mul]
  have h3 : (4294967296 : Nat) ^ 25 < 4294967296 ^ 100 := Nat.pow_lt_pow_right (by decide) (by decide)
  unfold bigW
  omega

theorem C10 {b : Nat} {v : Value} {W : List Tx} {s : Tx} {h : Heap} {K : Value → Heap → Prop} (hv : OwnS b h 9 v (W.map S)) (hl : W.length < 1000000) (hw : ∀ w ∈ W, w.length < 4611686018427387904) (hsl : s.length < 4611686018427387904)
    (he : chkE W s ≠ 0 → ∀ h', EX h h' → K (.tuple #[S [], I (chkE W s)]) h')
    (hk : chkE W s = 0 → ∀ h', EX h h' → K (.tuple #[S (numS (rdN W s s.length : Nat)), I 0]) h') : CallP Tryz.prog 10 [v, S s] h K := by
  refine f10 (C40 hv hl hw hsl ?_)
  intro h1 x1
  simp only [bin_neq, OP_some, IfP_ndec]
  refine ⟨fun hc => he hc h1 x1, fun hc => ?_⟩
  have hk := hk hc
  have ok : s.length ≤ 200 ∧ Ok W := by
    unfold chkE at hc
    split at hc
    · cases hc
    · rename_i g1
      split at hc
      · cases hc
      · split at hc
        · rename_i g3
          exact ⟨by omega, ⟨g3.1, fun w hw => (g3.2 w hw).1, fun w hw => (g3.2 w hw).2.1, fun w hw => (g3.2 w hw).2.2, by omega⟩⟩
        · cases hc
  obtain ⟨sl, ok⟩ := ok
  have few := ok.few
  have hs := (own_ss hv).mono x1
  refine C46 (by omega) (by omega) ?_
  intro r1 h2 x2 q1
  have start : OH (iMkSl 81 1 [(.bool false), (.slice none 0 0)] h2 [(0, 2, r1)]) fun x19 h_3 => LoopP [x19, (.int .i64 (1))] h_3 fun L1 xs hx => p10z10 Tryz.prog K v (S s) L1 xs hx := by
    obtain ⟨t1, sb, u, e1, e2⟩ := q1.cells
    have e0 : iMkSl 81 1 [(.bool false), (.slice none 0 0)] h2 [(0, 2, r1)] = some (Go.Sim.sl 81 h2.length 0 1, h2 ++ [.arr 81 [B sb, u]]) := by
      simp [iMkSl, fillL, zrep, t1, e2, setAt]
    rw [e0]
    simp only [OH_some]
    have x3 : EX h1 (h2 ++ [.arr 81 [B sb, u]]) := x2.trans (EX.append _ _)
    have own0 : OwnI h1.length (h2 ++ [.arr 81 [B sb, u]]) (Go.Sim.sl 81 h2.length 0 1) [1] :=
      ⟨[[B sb, u]], ⟨fun r hr => by rw [List.mem_singleton.1 hr]; rfl, .inr ⟨h2.length, x2.1, rfl, by simp⟩⟩, rfl, fun r hr => by rw [List.mem_singleton.1 hr]; exact ⟨_, _, rfl⟩, fun k row z g1 g2 => by
        have hk0 : k = 0 := by have := (List.getElem?_eq_some_iff.1 g1).1; simp at this; omega
        subst hk0
        simp at g1 g2
        subst g1 g2
        have := q1.mono (EX.append h2 [.arr 81 [B sb, u]])
        rw [e1] at this
        exact this⟩
    refine loopL (σ := Nat × Value × Heap) (fun q => [q.2.1, I ((q.1 : Int) + 1)]) (fun q => q.2.2) (fun q => q.1 ≤ s.length ∧ EX h1 q.2.2 ∧ OwnI h1.length q.2.2 q.2.1 (rdL W s q.1)) (fun q => s.length - q.1) (0, _, _) rfl rfl ⟨Nat.zero_le _, x3, own0⟩ ?_
    rintro ⟨i, vo, g⟩ ⟨hi, xg, own⟩ L hL
    simp only at hi xg own hL ⊢
    have le := rdL_le (W := W) few s i
    have ll := rdL_len W s i
    rw [q10z10]
    simp only [lenS_S, OP_some, bin_leq, IfP_dec]
    refine ⟨fun hlt => ?_, fun hge => ?_⟩
    · have hlt : i < s.length := by omega
      refine C46 (by omega) (by omega) ?_
      intro r2 g1 y1 z1
      obtain ⟨t2, sb2, u2, f1, f2⟩ := z1.cells
      have al : iAlloc 81 [(.bool false), (.slice none 0 0)] g1 = some (pt g1.length 0, g1 ++ [.arr 81 [(.bool false), (.slice none 0 0)]]) := rfl
      have kj : (g1 ++ [IObj.arr 81 [(.bool false), (.slice none 0 0)]])[g1.length]? = some (.arr 81 [(.bool false), (.slice none 0 0)]) := get_last
      have st : ∀ {g : Heap} {c1 c2 : Value} {x : Value} {sb u}, g[g1.length]? = some (.arr 81 [c1, c2]) → x = .agg #[B sb, u] → oStore 2 g (pt g1.length 0) x = some (undef, g.set g1.length (.arr 81 [B sb, u])) := by
        intro g c1 c2 x sb u hg hx
        subst hx
        simp [oStore, iStore, hg, noTuple, vcells, setAt, Value.cells]
      have hex2 : EX g (g1 ++ [IObj.arr 81 [(.bool false), (.slice none 0 0)]]) := y1.trans (EX.append _ _)
      simp only [al, OH_some, st kj f1, hs.len, OP_some]
      have nev : ∀ n, vo ≠ Go.Sim.sl 81 g1.length 0 n := fun n hv => by
        obtain ⟨rows, a, _⟩ := own
        have := (a.lt hv).2.1
        have := y1.1
        omega
      -- the words one after the other
      refine loopL (σ := Nat × Heap) (fun q => [I q.1]) (fun q => q.2) (fun q => q.1 ≤ W.length ∧ EX g q.2 ∧ OwnI h1.length q.2 vo (rdL W s i) ∧ ∃ sb u, q.2[g1.length]? = some (.arr 81 [B sb, u]) ∧ IntV q.2 (.agg #[B sb, u]) (sumR s (rdL W s i) (i + 1) (W.take q.1) : Nat)) (fun q => W.length - q.1) (0, _) rfl rfl ⟨Nat.zero_le _, hex2.set y1.1 _, (own.ex hex2).set kj nev _, sb2, u2, set_get kj, ?_⟩ ?_
      · have := (z1.mono (EX.append g1 [IObj.arr 81 [(.bool false), (.slice none 0 0)]])).setB kj (.arr 81 [B sb2, u2])
        rw [f1] at this
        simpa [sumR] using this
      rintro ⟨j, ga⟩ ⟨hj, xa, owna, sb3, u3, k3, i3⟩ L2 hL2
      simp only at hj xa owna k3 i3 hL2 ⊢
      have ld : iLoad true 2 ga (pt g1.length 0) = some (.agg #[B sb3, u3]) := by simp [iLoad, objCells, k3, iPart]
      rw [q10z19]
      simp only [bin_lss, OP_some, IfP_dec]
      refine ⟨fun hlt2 => ?_, fun hge2 => ?_⟩
      · have hlt2 : j < W.length := by omega
        obtain ⟨bb, o, a1, a2⟩ := hs.get j hlt2
        have mem := List.getElem_mem hlt2
        have wl := ok.le _ mem
        have wn := List.length_pos_iff.2 (ok.ne _ mem)
        have a3 := EX.load (xg.trans xa) a2
        have tk : iSlS (S s) none (some (I ((i : Int) + 1))) = some (S (s.take (i + 1))) := by
          have := slS_hi (a := s) (n := i + 1) (by omega) .i64
          simpa using this
        have sn := sumR_snoc (s := s) (cs := rdL W s i) (i := i + 1) (W.take j) W[j]
        rw [← List.take_succ_eq_append_getElem hlt2] at sn
        have nx : ∀ gb sb u, EX ga gb ∨ True → EX g gb → OwnI h1.length gb vo (rdL W s i) → gb[g1.length]? = some (.arr 81 [B sb, u]) → IntV gb (.agg #[B sb, u]) (sumR s (rdL W s i) (i + 1) (W.take (j + 1)) : Nat) → p10z26 Tryz.prog K v (S s) vo (I ((i : Int) + 1)) (pt g1.length 0) v (I W.length) (I j) L L2 gb := by
          intro gb sb u _ xb ob kb ib
          rw [q10z26]
          simp only [bin_add, OP_some, inc j (by omega), true_and]
          exact hL2 (j + 1, gb) ⟨hlt2, xb, ob, sb, u, kb, ib⟩ (by show W.length - (j + 1) < W.length - j; omega)
        simp only [a1, a3, OP_some, tk]
        refine f47 (C84 ?_ (by rw [List.length_take]; omega))
        cases hb : decide (W[j] <:+ s.take (i + 1)) with
        | false =>
          have hb' : sufB s (i + 1) W[j] = false := hb
          rw [hb'] at sn
          simp only [Bool.false_eq_true, if_false, Nat.add_zero] at sn
          simp only [IfP_false]
          exact nx ga sb3 u3 (.inr trivial) xa owna k3 (by rw [sn]; exact i3)
        | true =>
          have hb' : sufB s (i + 1) W[j] = true := hb
          rw [hb'] at sn
          simp only [if_true] at sn
          have suf := (of_decide_eq_true hb).length_le
          rw [List.length_take] at suf
          have w : IntKind.wrap .i64 ((i : Int) + 1 - W[j].length) = ((i + 1 - W[j].length : Nat) : Int) := by rw [wrap64 (by omega) (by omega)]; omega
          have hkk : i + 1 - W[j].length < (rdL W s i).length := by omega
          obtain ⟨p, o2, r4, b1, b2, b3⟩ := owna.get hkk
          have ge : (rdL W s i)[i + 1 - W[j].length] = (rdL W s i).getD (i + 1 - W[j].length) 0 := by simp [hkk]
          simp only [IfP_true, ld, OP_some, lenS_S, bin_sub, w, b1, b2, true_and]
          have l1 : sumR s (rdL W s i) (i + 1) (W.take j) ≤ 12 * 12 ^ i := sumR_le (by rw [List.length_take]; omega) le
          have l2 := le _ (List.getElem_mem hkk)
          have p12 : 12 * 12 ^ i = 12 ^ (i + 1) := by rw [Nat.pow_succ, Nat.mul_comm]
          refine C48 i3 b3 (by rw [Int.natAbs_natCast]; exact small (i := i + 1) (by omega) (by omega)) (by rw [Int.natAbs_natCast]; exact small (i := i + 1) (by omega) (by omega)) ?_
          intro r5 gb xb q5
          obtain ⟨t5, sb5, u5, f5, _⟩ := q5.cells
          have kb := xb.get k3
          rw [st kb f5]
          simp only [OH_some]
          have hgb : g.length ≤ g1.length := y1.1
          refine nx _ sb5 u5 (.inr trivial) ((xa.trans xb).set hgb _) ((owna.ex xb).set kb nev _) (set_get kb) ?_
          have := q5.setB kb (.arr 81 [B sb5, u5])
          rw [f5] at this
          rw [sn]
          rw [← ge]
          simpa using this
      · have hjw : j = W.length := by omega
        subst hjw
        rw [List.take_length] at i3
        rw [q10z27]
        simp only [ld, OP_some]
        refine OwnI.app owna (xg.trans xa) i3 rfl (by omega) ?_
        intro v' gc xc ownc
        rw [q10z28]
        have w : IntKind.wrap .i64 ((i : Int) + 1 + 1) = ((i + 1 : Nat) : Int) + 1 := by rw [wrap64 (by omega) (by omega)]; omega
        simp only [bin_add, OP_some, w, true_and]
        exact hL (i + 1, v', gc) ⟨hlt, xc, ownc⟩ (by show s.length - (i + 1) < s.length - i; omega)
    · have hie : i = s.length := by omega
      subst hie
      have hkk : s.length < (rdL W s s.length).length := by omega
      obtain ⟨p, o2, r4, b1, b2, b3⟩ := own.get hkk
      have ge : (rdL W s s.length)[s.length] = rdN W s s.length := by simp [rdN, hkk]
      rw [q10z29]
      simp only [lenS_S, OP_some, b1, b2]
      refine C49 b3 ?_
      intro r5 g5 x5 q5
      have l2 := le _ (List.getElem_mem hkk)
      refine C50 q5 (by rw [Int.natAbs_natCast]; exact small sl l2) ?_
      intro g6 x6
      simp only [ext_tuple, pair0, pair1, OP_some]
      rw [ge]
      exact hk g6 (x1.trans (xg.trans (x5.trans x6)))
  exact start

end Go.Proofs.YthplaillblmgfaaGreatDoor


namespace Go.Proofs.YthplaillblmgfaaGreatDoor
open Go.Sim
variable (P : Program) (K : VK)
/-! F12: pommel/pommelref01.CmpQ -/
noncomputable def c12 : ICode := .seq (.ops none [⟨(some 2), .e (.box 38 (.tmp 0))⟩,
 ⟨(some 3), .e (.box 38 (.tmp 1))⟩,
 ⟨(some 4), .p (.mv (.const (.int .i64 (0))))⟩])
 (.seq (.dops [(none, [⟨(some 5), .p (.fadr 0 (.tmp 2)), 0⟩,
 ⟨(some 6), .l (.load true 2 (.tmp 5)), 1⟩,
 ⟨(some 7), .p (.fadr 2 (.tmp 3)), 0⟩,
 ⟨(some 8), .l (.load true 2 (.tmp 7)), 4⟩,
 ⟨(some 9), .call 53 [(.tmp 6), (.tmp 8)], 15⟩,
 ⟨(some 10), .p (.fadr 0 (.tmp 3)), 0⟩,
 ⟨(some 11), .l (.load true 2 (.tmp 10)), 32⟩,
 ⟨(some 12), .p (.fadr 2 (.tmp 2)), 0⟩,
 ⟨(some 13), .l (.load true 2 (.tmp 12)), 128⟩,
 ⟨(some 14), .call 53 [(.tmp 11), (.tmp 13)], 511⟩,
 ⟨(some 15), .call 52 [(.tmp 9), (.tmp 14)], 1023⟩,
 ⟨(some 4), .p (.mv (.tmp 15)), 2047⟩])])
 (.ret))
theorem k12 : compFn Tryz.prog 12 [[], []] = some (16, c12, [.tmp 4]) := by kernel_rfl
def T12 (a0 b1 : Value) (h : Heap) : Prop :=
 OH (iBox 38 h a0) fun a2 h_1 =>
 OH (iBox 38 h_1 b1) fun b3 h_2 =>
 OP (iFadr 0 a2) fun x5 =>
 OP (iLoad true 2 h_2 x5) fun x6 =>
 (True) ∧
 OP (iFadr 2 b3) fun x7 =>
 OP (iLoad true 2 h_2 x7) fun x8 =>
 (True) ∧
 CallP P 53 [x6, x8] h_2 fun x9 h_3 =>
 (True) ∧
 OP (iFadr 0 b3) fun x10 =>
 OP (iLoad true 2 h_3 x10) fun x11 =>
 (iLoad true 2 h_2 x10 = some x11 ∧ True) ∧
 OP (iFadr 2 a2) fun x12 =>
 OP (iLoad true 2 h_3 x12) fun x13 =>
 (iLoad true 2 h_2 x12 = some x13 ∧ True) ∧
 CallP P 53 [x11, x13] h_3 fun x14 h_4 =>
 (True) ∧
 CallP P 52 [x9, x14] h_4 fun x15 h_5 =>
 (True) ∧
 K x15 h_5
theorem e12 (a0 b1 : Value) (h : Heap) : iwpP P c12 (bodyP [.tmp 4] K) (frame0 [a0, b1]) h = T12 P K a0 b1 h := by kernel_rfl
theorem f12 {K : VK} {a0 b1 : Value} {h : Heap} (H : T12 Tryz.prog K a0 b1 h) : CallP Tryz.prog 12 [a0, b1] h K :=
 callP_intro k12 (Nat.le_of_ble_eq_true rfl) ((e12 Tryz.prog K a0 b1 h).mpr H)
/-! F21: pommel/pommelref01.Is -/
/-! F36: pommel/pommelref01.Make -/
/-! F64: pommel/pommelref01.Num -/
/-! F73: pommel/pommelref01.Lowest -/
/-! F91: pommel/pommelref01.Gcd -/
/-! F106: pommel/pommelref01.DivMod -/
end Go.Proofs.YthplaillblmgfaaGreatDoor

namespace Go.Proofs.YthplaillblmgfaaGreatDoor
open Go.Sim

theorem RatV.mono {h h' : Heap} {v : Value} {a b : Int} (x : EX h h') (p : RatV h v a b) : RatV h' v a b := let ⟨u, w, e, m, n⟩ := p; ⟨u, w, e, m.mono x, n.mono x⟩
theorem RatV.setB {h : Heap} {v : Value} {a b : Int} {j : Nat} {e : TypeId} {s : Bool} {r : List Value} (p : RatV h v a b) (hj : h[j]? = some (.arr e (.bool s :: r))) (o : IObj) : RatV (h.set j o) v a b :=
  let ⟨u, w, e, m, n⟩ := p; ⟨u, w, e, m.setB hj o, n.setB hj o⟩

end Go.Proofs.YthplaillblmgfaaGreatDoor


namespace Go.Proofs.YthplaillblmgfaaGreatDoor
open Go.Sim
variable (P : Program) (K : VK)
/-! F74: pommel/pommelref01.Over -/
end Go.Proofs.YthplaillblmgfaaGreatDoor

namespace Go.Proofs.YthplaillblmgfaaGreatDoor
open Go.Sim
variable (P : Program) (K : VK)
/-! F3: pommel/pommellaw08.MarkUnclear -/
noncomputable def c3z9 : ICode := .ops none [⟨(some 27), .p (.pick (.tmp 23) (.tmp 26) (.const (.bool false)))⟩]
noncomputable def c3z7 : ICode := .seq (.ops (some (23, true)) [⟨(some 24), .p (.mv (.tmp 6))⟩,
 ⟨(some 25), .p (.lenS (.tmp 24))⟩,
 ⟨(some 26), .p (.bin .leq (.tmp 25) (.const (.int .i64 (200))))⟩])
 (.cut [1, 5, 6, 7, 23, 26] c3z9)
noncomputable def c3z19 : ICode := .ops none [⟨(some 47), .p (.pick (.tmp 41) (.const (.bool true)) (.tmp 46))⟩]
noncomputable def c3z17 : ICode := .seq (.ops (some (41, false)) [⟨(some 42), .p (.mv (.tmp 8))⟩,
 ⟨(some 43), .call 13 [(.tmp 42)]⟩,
 ⟨(some 44), .call 14 [(.const (.int .i64 (2)))]⟩,
 ⟨(some 45), .call 12 [(.tmp 43), (.tmp 44)]⟩,
 ⟨(some 46), .p (.bin .lss (.tmp 45) (.const (.int .i64 (0))))⟩])
 (.cut [1, 5, 6, 7, 41, 46] c3z19)
noncomputable def c3z15 : ICode := .seq (.ops none [⟨(some 40), .p (.pick (.tmp 36) (.const (.bool true)) (.tmp 39))⟩,
 ⟨(some 41), .p (.mv (.tmp 40))⟩])
 (.cut [1, 5, 6, 7, 8, 41] c3z17)
noncomputable def c3z13 : ICode := .seq (.ops (some (36, false)) [⟨(some 37), .p (.mv (.tmp 8))⟩,
 ⟨(some 38), .call 11 [(.tmp 37)]⟩,
 ⟨(some 39), .p (.un .not (.tmp 38))⟩])
 (.cut [1, 5, 6, 7, 8, 36, 39] c3z15)
noncomputable def c3z11 : ICode := .cond (.tmp 47) (.seq (.ops none [⟨(some 4), .p (.mv (.const (.bool false)))⟩])
 (.ret))
 (.skip)
noncomputable def c3z5 : ICode := .cond (.tmp 27) (.seq (.ops none [⟨(some 29), .p (.mv (.tmp 5))⟩,
 ⟨(some 30), .p (.mv (.tmp 6))⟩,
 ⟨(some 31), .call 10 [(.tmp 29), (.tmp 30)]⟩,
 ⟨(some 28), .p (.mv (.tmp 31))⟩,
 ⟨(some 32), .p (.ext (.tmp 28) 0)⟩,
 ⟨(some 33), .p (.ext (.tmp 28) 1)⟩,
 ⟨(some 8), .p (.mv (.tmp 32))⟩,
 ⟨(some 9), .p (.mv (.tmp 33))⟩])
 (.seq (.seq (.ops none [⟨(some 34), .p (.mv (.tmp 9))⟩,
 ⟨(some 35), .p (.bin .neq (.tmp 34) (.const (.int .i64 (0))))⟩,
 ⟨(some 36), .p (.mv (.tmp 35))⟩])
 (.cut [1, 5, 6, 7, 8, 36] c3z13)) c3z11))
 (.skip)
noncomputable def c3z32 : ICode := .ops none [⟨(some 55), .p (.pick (.tmp 52) (.tmp 54) (.const (.bool false)))⟩]
noncomputable def c3z30 : ICode := .seq (.ops (some (52, true)) [⟨(some 53), .p (.mv (.tmp 11))⟩,
 ⟨(some 54), .p (.bin .lss (.tmp 53) (.const (.int .i64 (12))))⟩])
 (.cut [1, 5, 6, 7, 10, 11, 52, 54] c3z32)
noncomputable def c3z28 : ICode := .cond (.tmp 55) (.skip)
 (.exit 0)
noncomputable def c3z51 : ICode := .ops none [⟨(some 96), .p (.pick (.tmp 82) (.const (.bool true)) (.tmp 95))⟩]
noncomputable def c3z49 : ICode := .seq (.ops (some (82, false)) [⟨(some 95), .p (.pick (.tmp 92) (.tmp 94) (.const (.bool false)))⟩])
 (.cut [1, 5, 6, 7, 10, 11, 82, 95] c3z51)
noncomputable def c3z47 : ICode := .seq (.ops (some (92, true)) [⟨(some 93), .p (.mv (.tmp 12))⟩,
 ⟨(some 94), .p (.bin .neq (.tmp 93) (.const (.string ⟨#[49]⟩)))⟩])
 (.cut [1, 5, 6, 7, 10, 11, 82, 92, 94] c3z49)
noncomputable def c3z45 : ICode := .seq (.ops (some (82, false)) [⟨(some 91), .p (.pick (.tmp 85) (.const (.bool true)) (.tmp 90))⟩,
 ⟨(some 92), .p (.mv (.tmp 91))⟩])
 (.cut [1, 5, 6, 7, 10, 11, 12, 82, 92] c3z47)
noncomputable def c3z43 : ICode := .seq (.ops (some (85, false)) [⟨(some 86), .p (.mv (.tmp 10))⟩,
 ⟨(some 87), .p (.lenS (.tmp 86))⟩,
 ⟨(some 88), .p (.mv (.tmp 6))⟩,
 ⟨(some 89), .p (.lenS (.tmp 88))⟩,
 ⟨(some 90), .p (.bin .lss (.tmp 87) (.tmp 89))⟩])
 (.cut [1, 5, 6, 7, 10, 11, 12, 82, 85, 90] c3z45)
noncomputable def c3z41 : ICode := .seq (.ops (some (82, false)) [⟨(some 83), .p (.mv (.tmp 7))⟩,
 ⟨(some 84), .p (.bin .neq (.tmp 83) (.const (.int .i64 (0))))⟩,
 ⟨(some 85), .p (.mv (.tmp 84))⟩])
 (.cut [1, 5, 6, 7, 10, 11, 12, 82, 85] c3z43)
noncomputable def c3z39 : ICode := .cond (.tmp 96) (.seq (.ops none [⟨(some 4), .p (.mv (.const (.bool false)))⟩])
 (.ret))
 (.skip)
noncomputable def c3z33 : ICode := .ops none [⟨(some 56), .p (.mv (.tmp 11))⟩,
 ⟨(some 57), .p (.bin .add (.tmp 56) (.const (.int .i64 (1))))⟩,
 ⟨(some 11), .p (.mv (.tmp 57))⟩]
noncomputable def c3z27 : ICode := .seq (.block 1 (.seq (.ops none [⟨(some 58), .p (.mv (.tmp 10))⟩,
 ⟨(some 59), .p (.mv (.tmp 5))⟩,
 ⟨(some 60), .p (.mv (.tmp 1))⟩,
 ⟨(some 61), .p (.mv (.tmp 11))⟩,
 ⟨(some 62), .p (.adrSl 1 (.tmp 60) (.tmp 61))⟩,
 ⟨(some 63), .l (.load false 1 (.tmp 62))⟩,
 ⟨(some 64), .p (.conv .i64 (.tmp 63))⟩,
 ⟨(some 65), .p (.mv (.tmp 5))⟩,
 ⟨(some 66), .p (.lenSl (.tmp 65))⟩,
 ⟨(some 67), .p (.bin .rem (.tmp 64) (.tmp 66))⟩,
 ⟨(some 68), .p (.adrSl 1 (.tmp 59) (.tmp 67))⟩,
 ⟨(some 69), .l (.load false 1 (.tmp 68))⟩,
 ⟨(some 70), .p (.bin .add (.tmp 58) (.tmp 69))⟩,
 ⟨(some 10), .p (.mv (.tmp 70))⟩])
 (.seq (.seq (.ops none [⟨(some 71), .p (.mv (.tmp 10))⟩,
 ⟨(some 72), .p (.lenS (.tmp 71))⟩,
 ⟨(some 73), .p (.bin .gtr (.tmp 72) (.const (.int .i64 (200))))⟩])
 (.cond (.tmp 73) (.exit 0)
 (.skip)))
 (.seq (.ops none [⟨(some 75), .p (.mv (.tmp 5))⟩,
 ⟨(some 76), .p (.mv (.tmp 10))⟩,
 ⟨(some 77), .call 10 [(.tmp 75), (.tmp 76)]⟩,
 ⟨(some 74), .p (.mv (.tmp 77))⟩,
 ⟨(some 78), .p (.ext (.tmp 74) 0)⟩,
 ⟨(some 79), .p (.ext (.tmp 74) 1)⟩,
 ⟨(some 12), .p (.mv (.tmp 78))⟩,
 ⟨(some 13), .p (.mv (.tmp 79))⟩])
 (.seq (.seq (.ops none [⟨(some 80), .p (.mv (.tmp 13))⟩,
 ⟨(some 81), .p (.bin .neq (.tmp 80) (.const (.int .i64 (0))))⟩,
 ⟨(some 82), .p (.mv (.tmp 81))⟩])
 (.cut [1, 5, 6, 7, 10, 11, 12, 82] c3z41)) c3z39))))) c3z33
noncomputable def c3z26 : ICode := .seq (.seq (.seq (.ops none [⟨(some 48), .p (.mv (.tmp 11))⟩,
 ⟨(some 49), .p (.mv (.tmp 1))⟩,
 ⟨(some 50), .p (.lenSl (.tmp 49))⟩,
 ⟨(some 51), .p (.bin .lss (.tmp 48) (.tmp 50))⟩,
 ⟨(some 52), .p (.mv (.tmp 51))⟩])
 (.cut [1, 5, 6, 7, 10, 11, 52] c3z30)) c3z28) c3z27
noncomputable def c3z62 : ICode := .ops none [⟨(some 105), .p (.pick (.tmp 103) (.tmp 104) (.const (.bool false)))⟩,
 ⟨(some 4), .p (.mv (.tmp 105))⟩]
noncomputable def c3z60 : ICode := .seq (.ops (some (103, true)) [⟨(some 104), .call 15 []⟩])
 (.cut [103, 104] c3z62)
noncomputable def c3z58 : ICode := .seq (.ops none [⟨(some 102), .p (.pick (.tmp 99) (.const (.bool true)) (.tmp 101))⟩,
 ⟨(some 103), .p (.mv (.tmp 102))⟩])
 (.cut [103] c3z60)
noncomputable def c3z56 : ICode := .seq (.ops (some (99, false)) [⟨(some 100), .p (.mv (.tmp 7))⟩,
 ⟨(some 101), .p (.bin .eql (.tmp 100) (.const (.int .i64 (5))))⟩])
 (.cut [99, 101] c3z58)
noncomputable def c3z54 : ICode := .ret
noncomputable def c3z53 : ICode := .seq (.seq (.ops none [⟨(some 97), .p (.mv (.tmp 7))⟩,
 ⟨(some 98), .p (.bin .eql (.tmp 97) (.const (.int .i64 (0))))⟩,
 ⟨(some 99), .p (.mv (.tmp 98))⟩])
 (.cut [7, 99] c3z56)) c3z54
noncomputable def c3z23 : ICode := .cut [7] c3z53
noncomputable def c3z21 : ICode := .seq (.ops none [⟨(some 10), .p (.mv (.const (.string ⟨#[]⟩)))⟩])
 (.seq (.seq (.ops none [⟨(some 11), .p (.mv (.const (.int .i64 (0))))⟩])
 (.block 0 (.loop [1, 5, 6, 7] [10, 11] c3z26))) c3z23)
noncomputable def c3z4 : ICode := .cut [1, 5, 6, 7] c3z21
noncomputable def c3 : ICode := .seq (.ops none [⟨(some 4), .p (.mv (.const (.bool false)))⟩])
 (.seq (.ops none [⟨(some 14), .p (.mv (.tmp 0))⟩,
 ⟨(some 15), .call 8 [(.tmp 14)]⟩,
 ⟨(some 5), .p (.mv (.tmp 15))⟩])
 (.seq (.ops none [⟨(some 17), .p (.mv (.tmp 5))⟩,
 ⟨(some 18), .call 9 [(.tmp 17)]⟩,
 ⟨(some 16), .p (.mv (.tmp 18))⟩,
 ⟨(some 19), .p (.ext (.tmp 16) 0)⟩,
 ⟨(some 20), .p (.ext (.tmp 16) 1)⟩,
 ⟨(some 6), .p (.mv (.tmp 19))⟩,
 ⟨(some 7), .p (.mv (.tmp 20))⟩])
 (.seq (.seq (.seq (.ops none [⟨(some 21), .p (.mv (.tmp 7))⟩,
 ⟨(some 22), .p (.bin .eql (.tmp 21) (.const (.int .i64 (0))))⟩,
 ⟨(some 23), .p (.mv (.tmp 22))⟩])
 (.cut [1, 5, 6, 7, 23] c3z7)) c3z5) c3z4)))
theorem k3 : compFn Tryz.prog 3 [[], [], [], [1, 5, 6, 7, 23], [1, 5, 6, 7, 23, 26], [], [], [1, 5, 6, 7, 8, 36], [1, 5, 6, 7, 8, 36, 39], [1, 5, 6, 7, 8, 41], [1, 5, 6, 7, 41, 46], [], [], [1, 5, 6, 7], [], [], [1, 5, 6, 7], [10, 11], [1, 5, 6, 7, 10, 11, 52], [1, 5, 6, 7, 10, 11, 52, 54], [], [], [], [], [], [], [1, 5, 6, 7, 10, 11, 12, 82], [1, 5, 6, 7, 10, 11, 12, 82, 85], [1, 5, 6, 7, 10, 11, 12, 82, 85, 90], [1, 5, 6, 7, 10, 11, 12, 82, 92], [1, 5, 6, 7, 10, 11, 82, 92, 94], [1, 5, 6, 7, 10, 11, 82, 95], [], [], [], [7], [7, 99], [99, 101], [103], [103, 104], []] = some (106, c3, [.tmp 4]) := by kernel_rfl
def K3z0 (_P : Program) (K : VK) : Kont := bodyP [.tmp 4] K
def K3z4 : Kont := thenK (iwpP P c3z4 (K3z0 P K)) (K3z0 P K)
def K3z5 : Kont := thenK (iwpP P c3z5 (K3z4 P K)) (K3z4 P K)
def K3z11 : Kont := thenK (iwpP P c3z11 (K3z4 P K)) (K3z4 P K)
def K3z23 : Kont := thenK (iwpP P c3z23 (K3z0 P K)) (K3z0 P K)
def K3z25 : Kont := inBlockK 0 (K3z23 P K)
def K3z26 (y1 l5 s6 e7 : Value) (L1 : LK) : Kont := thenK (fun f' h'' => (([1, 5, 6, 7] : List Nat).map f' : List Value) = [y1, l5, s6, e7] ∧ L1 (([10, 11] : List Nat).map f') h'') (K3z25 P K)
def K3z27 (y1 l5 s6 e7 : Value) (L1 : LK) : Kont := thenK (iwpP P c3z27 (K3z26 P K y1 l5 s6 e7 L1)) (K3z26 P K y1 l5 s6 e7 L1)
def K3z28 (y1 l5 s6 e7 : Value) (L1 : LK) : Kont := thenK (iwpP P c3z28 (K3z27 P K y1 l5 s6 e7 L1)) (K3z27 P K y1 l5 s6 e7 L1)
def K3z33 (y1 l5 s6 e7 : Value) (L1 : LK) : Kont := thenK (iwpP P c3z33 (K3z26 P K y1 l5 s6 e7 L1)) (K3z26 P K y1 l5 s6 e7 L1)
def K3z34 (y1 l5 s6 e7 : Value) (L1 : LK) : Kont := inBlockK 1 (K3z33 P K y1 l5 s6 e7 L1)
def K3z39 (y1 l5 s6 e7 : Value) (L1 : LK) : Kont := thenK (iwpP P c3z39 (K3z34 P K y1 l5 s6 e7 L1)) (K3z34 P K y1 l5 s6 e7 L1)
def K3z54 : Kont := thenK (iwpP P c3z54 (K3z0 P K)) (K3z0 P K)
def p3z7 (y1 l5 s6 e7 x23 : Value) (h : Heap) : Prop := CutP (iwpP P c3z7 (K3z5 P K)) [1, 5, 6, 7, 23] [y1, l5, s6, e7, x23] h
def p3z9 (y1 l5 s6 e7 x23 x26 : Value) (h : Heap) : Prop := CutP (iwpP P c3z9 (K3z5 P K)) [1, 5, 6, 7, 23, 26] [y1, l5, s6, e7, x23, x26] h
def p3z13 (y1 l5 s6 e7 n8 x36 : Value) (h : Heap) : Prop := CutP (iwpP P c3z13 (K3z11 P K)) [1, 5, 6, 7, 8, 36] [y1, l5, s6, e7, n8, x36] h
def p3z15 (y1 l5 s6 e7 n8 x36 x39 : Value) (h : Heap) : Prop := CutP (iwpP P c3z15 (K3z11 P K)) [1, 5, 6, 7, 8, 36, 39] [y1, l5, s6, e7, n8, x36, x39] h
def p3z17 (y1 l5 s6 e7 n8 x41 : Value) (h : Heap) : Prop := CutP (iwpP P c3z17 (K3z11 P K)) [1, 5, 6, 7, 8, 41] [y1, l5, s6, e7, n8, x41] h
def p3z19 (y1 l5 s6 e7 x41 x46 : Value) (h : Heap) : Prop := CutP (iwpP P c3z19 (K3z11 P K)) [1, 5, 6, 7, 41, 46] [y1, l5, s6, e7, x41, x46] h
def p3z21 (y1 l5 s6 e7 : Value) (h : Heap) : Prop := CutP (iwpP P c3z21 (K3z0 P K)) [1, 5, 6, 7] [y1, l5, s6, e7] h
def p3z26 (y1 l5 s6 e7 : Value) (L1 : LK) (xs : List Value) (h : Heap) : Prop := CutP (iwpP P c3z26 (K3z26 P K y1 l5 s6 e7 L1)) ([1, 5, 6, 7] ++ [10, 11]) ([y1, l5, s6, e7] ++ xs) h
def p3z30 (y1 l5 s6 e7 t10 i11 x52 : Value) (L1 : LK) (h : Heap) : Prop := CutP (iwpP P c3z30 (K3z28 P K y1 l5 s6 e7 L1)) [1, 5, 6, 7, 10, 11, 52] [y1, l5, s6, e7, t10, i11, x52] h
def p3z32 (y1 l5 s6 e7 t10 i11 x52 x54 : Value) (L1 : LK) (h : Heap) : Prop := CutP (iwpP P c3z32 (K3z28 P K y1 l5 s6 e7 L1)) [1, 5, 6, 7, 10, 11, 52, 54] [y1, l5, s6, e7, t10, i11, x52, x54] h
def p3z41 (y1 l5 s6 e7 t10 i11 n12 x82 : Value) (L1 : LK) (h : Heap) : Prop := CutP (iwpP P c3z41 (K3z39 P K y1 l5 s6 e7 L1)) [1, 5, 6, 7, 10, 11, 12, 82] [y1, l5, s6, e7, t10, i11, n12, x82] h
def p3z43 (y1 l5 s6 e7 t10 i11 n12 x82 x85 : Value) (L1 : LK) (h : Heap) : Prop := CutP (iwpP P c3z43 (K3z39 P K y1 l5 s6 e7 L1)) [1, 5, 6, 7, 10, 11, 12, 82, 85] [y1, l5, s6, e7, t10, i11, n12, x82, x85] h
def p3z45 (y1 l5 s6 e7 t10 i11 n12 x82 x85 x90 : Value) (L1 : LK) (h : Heap) : Prop := CutP (iwpP P c3z45 (K3z39 P K y1 l5 s6 e7 L1)) [1, 5, 6, 7, 10, 11, 12, 82, 85, 90] [y1, l5, s6, e7, t10, i11, n12, x82, x85, x90] h
def p3z47 (y1 l5 s6 e7 t10 i11 n12 x82 x92 : Value) (L1 : LK) (h : Heap) : Prop := CutP (iwpP P c3z47 (K3z39 P K y1 l5 s6 e7 L1)) [1, 5, 6, 7, 10, 11, 12, 82, 92] [y1, l5, s6, e7, t10, i11, n12, x82, x92] h
def p3z49 (y1 l5 s6 e7 t10 i11 x82 x92 x94 : Value) (L1 : LK) (h : Heap) : Prop := CutP (iwpP P c3z49 (K3z39 P K y1 l5 s6 e7 L1)) [1, 5, 6, 7, 10, 11, 82, 92, 94] [y1, l5, s6, e7, t10, i11, x82, x92, x94] h
def p3z51 (y1 l5 s6 e7 t10 i11 x82 x95 : Value) (L1 : LK) (h : Heap) : Prop := CutP (iwpP P c3z51 (K3z39 P K y1 l5 s6 e7 L1)) [1, 5, 6, 7, 10, 11, 82, 95] [y1, l5, s6, e7, t10, i11, x82, x95] h
def p3z53 (e7 : Value) (h : Heap) : Prop := CutP (iwpP P c3z53 (K3z0 P K)) [7] [e7] h
def p3z56 (e7 x99 : Value) (h : Heap) : Prop := CutP (iwpP P c3z56 (K3z54 P K)) [7, 99] [e7, x99] h
def p3z58 (x99 x101 : Value) (h : Heap) : Prop := CutP (iwpP P c3z58 (K3z54 P K)) [99, 101] [x99, x101] h
def p3z60 (x103 : Value) (h : Heap) : Prop := CutP (iwpP P c3z60 (K3z54 P K)) [103] [x103] h
def p3z62 (x103 x104 : Value) (h : Heap) : Prop := CutP (iwpP P c3z62 (K3z54 P K)) [103, 104] [x103, x104] h
theorem q3z9 (y1 l5 s6 e7 x23 x26 : Value) (h : Heap) : p3z9 P K y1 l5 s6 e7 x23 x26 h =
 (OP (iPick x23 x26 (.bool false)) fun x27 =>
 IfP x27
 (CallP P 10 [l5, s6] h fun x31 h_1 =>
 OP (iExt 0 x31) fun x32 =>
 OP (iExt 1 x31) fun x33 =>
 OP (iBin .neq x33 (.int .i64 (0))) fun x35 =>
 p3z13 P K y1 l5 s6 e7 x32 x35 h_1)
 (p3z21 P K y1 l5 s6 e7 h)) := (CutP_def _ _ _ _).trans (by kernel_rfl)
theorem q3z7 (y1 l5 s6 e7 x23 : Value) (h : Heap) : p3z7 P K y1 l5 s6 e7 x23 h =
 (GdP x23 true
 (OP (iLenS s6) fun x25 =>
 OP (iBin .leq x25 (.int .i64 (200))) fun x26 =>
 p3z9 P K y1 l5 s6 e7 x23 x26 h)
 (p3z9 P K y1 l5 s6 e7 x23 undef h)) := (CutP_def _ _ _ _).trans (by kernel_rfl)
theorem q3z19 (y1 l5 s6 e7 x41 x46 : Value) (h : Heap) : p3z19 P K y1 l5 s6 e7 x41 x46 h =
 (OP (iPick x41 (.bool true) x46) fun x47 =>
 IfP x47
 (K (.bool false) h)
 (p3z21 P K y1 l5 s6 e7 h)) := (CutP_def _ _ _ _).trans (by kernel_rfl)
theorem q3z17 (y1 l5 s6 e7 n8 x41 : Value) (h : Heap) : p3z17 P K y1 l5 s6 e7 n8 x41 h =
 (GdP x41 false
 (CallP P 13 [n8] h fun x43 h_1 =>
 CallP P 14 [(.int .i64 (2))] h_1 fun x44 h_2 =>
 CallP P 12 [x43, x44] h_2 fun x45 h_3 =>
 OP (iBin .lss x45 (.int .i64 (0))) fun x46 =>
 p3z19 P K y1 l5 s6 e7 x41 x46 h_3)
 (p3z19 P K y1 l5 s6 e7 x41 undef h)) := (CutP_def _ _ _ _).trans (by kernel_rfl)
theorem q3z15 (y1 l5 s6 e7 n8 x36 x39 : Value) (h : Heap) : p3z15 P K y1 l5 s6 e7 n8 x36 x39 h =
 (OP (iPick x36 (.bool true) x39) fun x40 =>
 p3z17 P K y1 l5 s6 e7 n8 x40 h) := (CutP_def _ _ _ _).trans (by kernel_rfl)
theorem q3z13 (y1 l5 s6 e7 n8 x36 : Value) (h : Heap) : p3z13 P K y1 l5 s6 e7 n8 x36 h =
 (GdP x36 false
 (CallP P 11 [n8] h fun x38 h_1 =>
 OP (iUn .not x38) fun x39 =>
 p3z15 P K y1 l5 s6 e7 n8 x36 x39 h_1)
 (p3z15 P K y1 l5 s6 e7 n8 x36 undef h)) := (CutP_def _ _ _ _).trans (by kernel_rfl)
theorem q3z32 (y1 l5 s6 e7 t10 i11 x52 x54 : Value) (L1 : LK) (h : Heap) : p3z32 P K y1 l5 s6 e7 t10 i11 x52 x54 L1 h =
 (OP (iPick x52 x54 (.bool false)) fun x55 =>
 IfP x55
 (OP (iAdrSl 1 y1 i11) fun x62 =>
 OP (iLoad false 1 h x62) fun x63 =>
 OP (iConv .i64 x63) fun x64 =>
 OP (iLenSl l5) fun x66 =>
 OP (iBin .rem x64 x66) fun x67 =>
 OP (iAdrSl 1 l5 x67) fun x68 =>
 OP (iLoad false 1 h x68) fun x69 =>
 OP (iBin .add t10 x69) fun x70 =>
 OP (iLenS x70) fun x72 =>
 OP (iBin .gtr x72 (.int .i64 (200))) fun x73 =>
 IfP x73
 (p3z53 P K e7 h)
 (CallP P 10 [l5, x70] h fun x77 h_1 =>
 OP (iExt 0 x77) fun x78 =>
 OP (iExt 1 x77) fun x79 =>
 OP (iBin .neq x79 (.int .i64 (0))) fun x81 =>
 p3z41 P K y1 l5 s6 e7 x70 i11 x78 x81 L1 h_1))
 (p3z53 P K e7 h)) := (CutP_def _ _ _ _).trans (by kernel_rfl)
theorem q3z30 (y1 l5 s6 e7 t10 i11 x52 : Value) (L1 : LK) (h : Heap) : p3z30 P K y1 l5 s6 e7 t10 i11 x52 L1 h =
 (GdP x52 true
 (OP (iBin .lss i11 (.int .i64 (12))) fun x54 =>
 p3z32 P K y1 l5 s6 e7 t10 i11 x52 x54 L1 h)
 (p3z32 P K y1 l5 s6 e7 t10 i11 x52 undef L1 h)) := (CutP_def _ _ _ _).trans (by kernel_rfl)
theorem q3z51 (y1 l5 s6 e7 t10 i11 x82 x95 : Value) (L1 : LK) (h : Heap) : p3z51 P K y1 l5 s6 e7 t10 i11 x82 x95 L1 h =
 (OP (iPick x82 (.bool true) x95) fun x96 =>
 IfP x96
 (K (.bool false) h)
 (OP (iBin .add i11 (.int .i64 (1))) fun x57 =>
 ([y1, l5, s6, e7] : List Value) = [y1, l5, s6, e7] ∧ L1 [t10, x57] h)) := (CutP_def _ _ _ _).trans (by kernel_rfl)
theorem q3z49 (y1 l5 s6 e7 t10 i11 x82 x92 x94 : Value) (L1 : LK) (h : Heap) : p3z49 P K y1 l5 s6 e7 t10 i11 x82 x92 x94 L1 h =
 (GdP x82 false
 (OP (iPick x92 x94 (.bool false)) fun x95 =>
 p3z51 P K y1 l5 s6 e7 t10 i11 x82 x95 L1 h)
 (p3z51 P K y1 l5 s6 e7 t10 i11 x82 undef L1 h)) := (CutP_def _ _ _ _).trans (by kernel_rfl)
theorem q3z47 (y1 l5 s6 e7 t10 i11 n12 x82 x92 : Value) (L1 : LK) (h : Heap) : p3z47 P K y1 l5 s6 e7 t10 i11 n12 x82 x92 L1 h =
 (GdP x92 true
 (OP (iBin .neq n12 (.string ⟨#[49]⟩)) fun x94 =>
 p3z49 P K y1 l5 s6 e7 t10 i11 x82 x92 x94 L1 h)
 (p3z49 P K y1 l5 s6 e7 t10 i11 x82 x92 undef L1 h)) := (CutP_def _ _ _ _).trans (by kernel_rfl)
theorem q3z45 (y1 l5 s6 e7 t10 i11 n12 x82 x85 x90 : Value) (L1 : LK) (h : Heap) : p3z45 P K y1 l5 s6 e7 t10 i11 n12 x82 x85 x90 L1 h =
 (GdP x82 false
 (OP (iPick x85 (.bool true) x90) fun x91 =>
 p3z47 P K y1 l5 s6 e7 t10 i11 n12 x82 x91 L1 h)
 (p3z47 P K y1 l5 s6 e7 t10 i11 n12 x82 undef L1 h)) := (CutP_def _ _ _ _).trans (by kernel_rfl)
theorem q3z43 (y1 l5 s6 e7 t10 i11 n12 x82 x85 : Value) (L1 : LK) (h : Heap) : p3z43 P K y1 l5 s6 e7 t10 i11 n12 x82 x85 L1 h =
 (GdP x85 false
 (OP (iLenS t10) fun x87 =>
 OP (iLenS s6) fun x89 =>
 OP (iBin .lss x87 x89) fun x90 =>
 p3z45 P K y1 l5 s6 e7 t10 i11 n12 x82 x85 x90 L1 h)
 (p3z45 P K y1 l5 s6 e7 t10 i11 n12 x82 x85 undef L1 h)) := (CutP_def _ _ _ _).trans (by kernel_rfl)
theorem q3z41 (y1 l5 s6 e7 t10 i11 n12 x82 : Value) (L1 : LK) (h : Heap) : p3z41 P K y1 l5 s6 e7 t10 i11 n12 x82 L1 h =
 (GdP x82 false
 (OP (iBin .neq e7 (.int .i64 (0))) fun x84 =>
 p3z43 P K y1 l5 s6 e7 t10 i11 n12 x82 x84 L1 h)
 (p3z43 P K y1 l5 s6 e7 t10 i11 n12 x82 undef L1 h)) := (CutP_def _ _ _ _).trans (by kernel_rfl)
theorem q3z26 (y1 l5 s6 e7 : Value) (L1 : LK) (t10 i11 : Value) (h : Heap) : p3z26 P K y1 l5 s6 e7 L1 [t10, i11] h =
 (OP (iLenSl y1) fun x50 =>
 OP (iBin .lss i11 x50) fun x51 =>
 p3z30 P K y1 l5 s6 e7 t10 i11 x51 L1 h) := (CutP_def _ _ _ _).trans (by kernel_rfl)
theorem q3z62 (x103 x104 : Value) (h : Heap) : p3z62 P K x103 x104 h =
 (OP (iPick x103 x104 (.bool false)) fun x105 =>
 K x105 h) := (CutP_def _ _ _ _).trans (by kernel_rfl)
theorem q3z60 (x103 : Value) (h : Heap) : p3z60 P K x103 h =
 (GdP x103 true
 (CallP P 15 [] h fun x104 h_1 =>
 p3z62 P K x103 x104 h_1)
 (p3z62 P K x103 undef h)) := (CutP_def _ _ _ _).trans (by kernel_rfl)
theorem q3z58 (x99 x101 : Value) (h : Heap) : p3z58 P K x99 x101 h =
 (OP (iPick x99 (.bool true) x101) fun x102 =>
 p3z60 P K x102 h) := (CutP_def _ _ _ _).trans (by kernel_rfl)
theorem q3z56 (e7 x99 : Value) (h : Heap) : p3z56 P K e7 x99 h =
 (GdP x99 false
 (OP (iBin .eql e7 (.int .i64 (5))) fun x101 =>
 p3z58 P K x99 x101 h)
 (p3z58 P K x99 undef h)) := (CutP_def _ _ _ _).trans (by kernel_rfl)
theorem q3z53 (e7 : Value) (h : Heap) : p3z53 P K e7 h =
 (OP (iBin .eql e7 (.int .i64 (0))) fun x98 =>
 p3z56 P K e7 x98 h) := (CutP_def _ _ _ _).trans (by kernel_rfl)
theorem q3z21 (y1 l5 s6 e7 : Value) (h : Heap) : p3z21 P K y1 l5 s6 e7 h =
 (LoopP [(.string ⟨#[]⟩), (.int .i64 (0))] h fun L1 xs hx =>
 p3z26 P K y1 l5 s6 e7 L1 xs hx) := (CutP_def _ _ _ _).trans (by kernel_rfl)
def T3 (x0 y1 : Value) (h : Heap) : Prop :=
 CallP P 8 [x0] h fun x15 h_1 =>
 CallP P 9 [x15] h_1 fun x18 h_2 =>
 OP (iExt 0 x18) fun x19 =>
 OP (iExt 1 x18) fun x20 =>
 OP (iBin .eql x20 (.int .i64 (0))) fun x22 =>
 p3z7 P K y1 x15 x19 x20 x22 h_2
theorem e3 (x0 y1 : Value) (h : Heap) : iwpP P c3 (bodyP [.tmp 4] K) (frame0 [x0, y1]) h = T3 P K x0 y1 h := by kernel_rfl
theorem f3 {K : VK} {x0 y1 : Value} {h : Heap} (H : T3 Tryz.prog K x0 y1 h) : CallP Tryz.prog 3 [x0, y1] h K :=
 callP_intro k3 (Nat.le_of_ble_eq_true rfl) ((e3 Tryz.prog K x0 y1 h).mpr H)
/-! F5: pommel/pommellaw08.MarkClear -/
noncomputable def c5z14 : ICode := .ops none [⟨(some 41), .p (.pick (.tmp 38) (.tmp 40) (.const (.bool false)))⟩]
noncomputable def c5z12 : ICode := .seq (.ops (some (38, true)) [⟨(some 39), .p (.mv (.tmp 12))⟩,
 ⟨(some 40), .p (.bin .lss (.tmp 39) (.const (.int .i64 (10))))⟩])
 (.cut [1, 2, 7, 9, 10, 11, 12, 38, 40] c5z14)
noncomputable def c5z10 : ICode := .cond (.tmp 41) (.skip)
 (.exit 0)
noncomputable def c5z9 : ICode := .seq (.block 1 (.seq (.ops none [⟨(some 44), .p (.mv (.tmp 1))⟩,
 ⟨(some 45), .p (.mv (.tmp 12))⟩,
 ⟨(some 46), .p (.adrSl 1 (.tmp 44) (.tmp 45))⟩,
 ⟨(some 47), .l (.load false 1 (.tmp 46))⟩,
 ⟨(some 48), .p (.conv .i64 (.tmp 47))⟩,
 ⟨(some 49), .p (.mv (.tmp 7))⟩,
 ⟨(some 50), .p (.lenSl (.tmp 49))⟩,
 ⟨(some 51), .p (.bin .rem (.tmp 48) (.tmp 50))⟩,
 ⟨(some 13), .p (.mv (.tmp 51))⟩])
 (.dops [(none, [⟨(some 52), .p (.mv (.tmp 10)), 0⟩,
 ⟨(some 53), .p (.mv (.tmp 7)), 0⟩,
 ⟨(some 54), .p (.mv (.tmp 13)), 0⟩,
 ⟨(some 55), .p (.adrSl 1 (.tmp 53) (.tmp 54)), 6⟩,
 ⟨(some 56), .l (.load false 1 (.tmp 55)), 14⟩,
 ⟨(some 57), .p (.bin .add (.tmp 52) (.tmp 56)), 31⟩,
 ⟨(some 58), .p (.mv (.tmp 11)), 0⟩,
 ⟨(some 59), .p (.mv (.tmp 13)), 0⟩,
 ⟨(some 60), .e (.mkSl 3 1 [(.int .i64 (0))] [(0, 1, (.tmp 59))]), 128⟩,
 ⟨(some 61), .e (.app 3 1 8 (.tmp 58) (.tmp 60)), 448⟩,
 ⟨(some 10), .p (.mv (.tmp 57)), 1023⟩,
 ⟨(some 11), .p (.mv (.tmp 61)), 2047⟩])])))
 (.ops none [⟨(some 42), .p (.mv (.tmp 12))⟩,
 ⟨(some 43), .p (.bin .add (.tmp 42) (.const (.int .i64 (1))))⟩,
 ⟨(some 12), .p (.mv (.tmp 43))⟩])
noncomputable def c5z8 : ICode := .seq (.seq (.seq (.ops none [⟨(some 34), .p (.mv (.tmp 12))⟩,
 ⟨(some 35), .p (.mv (.tmp 1))⟩,
 ⟨(some 36), .p (.lenSl (.tmp 35))⟩,
 ⟨(some 37), .p (.bin .lss (.tmp 34) (.tmp 36))⟩,
 ⟨(some 38), .p (.mv (.tmp 37))⟩])
 (.cut [1, 2, 7, 9, 10, 11, 12, 38] c5z12)) c5z10) c5z9
noncomputable def c5z29 : ICode := .ops none [⟨(some 69), .p (.pick (.tmp 66) (.tmp 68) (.const (.bool false)))⟩]
noncomputable def c5z27 : ICode := .seq (.ops (some (66, true)) [⟨(some 67), .p (.mv (.tmp 15))⟩,
 ⟨(some 68), .p (.bin .lss (.tmp 67) (.const (.int .i64 (10))))⟩])
 (.cut [2, 7, 9, 10, 11, 14, 15, 66, 68] c5z29)
noncomputable def c5z25 : ICode := .cond (.tmp 69) (.skip)
 (.exit 2)
noncomputable def c5z24 : ICode := .seq (.block 3 (.ops none [⟨(some 72), .p (.mv (.tmp 14))⟩,
 ⟨(some 73), .p (.mv (.tmp 7))⟩,
 ⟨(some 74), .p (.mv (.tmp 2))⟩,
 ⟨(some 75), .p (.mv (.tmp 15))⟩,
 ⟨(some 76), .p (.adrSl 1 (.tmp 74) (.tmp 75))⟩,
 ⟨(some 77), .l (.load false 1 (.tmp 76))⟩,
 ⟨(some 78), .p (.conv .i64 (.tmp 77))⟩,
 ⟨(some 79), .p (.mv (.tmp 7))⟩,
 ⟨(some 80), .p (.lenSl (.tmp 79))⟩,
 ⟨(some 81), .p (.bin .rem (.tmp 78) (.tmp 80))⟩,
 ⟨(some 82), .p (.adrSl 1 (.tmp 73) (.tmp 81))⟩,
 ⟨(some 83), .l (.load false 1 (.tmp 82))⟩,
 ⟨(some 84), .p (.bin .add (.tmp 72) (.tmp 83))⟩,
 ⟨(some 14), .p (.mv (.tmp 84))⟩]))
 (.ops none [⟨(some 70), .p (.mv (.tmp 15))⟩,
 ⟨(some 71), .p (.bin .add (.tmp 70) (.const (.int .i64 (1))))⟩,
 ⟨(some 15), .p (.mv (.tmp 71))⟩])
noncomputable def c5z23 : ICode := .seq (.seq (.seq (.ops none [⟨(some 62), .p (.mv (.tmp 15))⟩,
 ⟨(some 63), .p (.mv (.tmp 2))⟩,
 ⟨(some 64), .p (.lenSl (.tmp 63))⟩,
 ⟨(some 65), .p (.bin .lss (.tmp 62) (.tmp 64))⟩,
 ⟨(some 66), .p (.mv (.tmp 65))⟩])
 (.cut [2, 7, 9, 10, 11, 14, 15, 66] c5z27)) c5z25) c5z24
noncomputable def c5z74 : ICode := .ops none [⟨(some 159), .p (.pick (.tmp 156) (.const (.bool true)) (.tmp 158))⟩]
noncomputable def c5z72 : ICode := .seq (.ops (some (156, false)) [⟨(some 157), .call 15 []⟩,
 ⟨(some 158), .p (.un .not (.tmp 157))⟩])
 (.cut [7, 9, 10, 11, 16, 18, 156, 158] c5z74)
noncomputable def c5z70 : ICode := .seq (.ops none [⟨(some 155), .p (.pick (.tmp 145) (.const (.bool true)) (.tmp 154))⟩,
 ⟨(some 156), .p (.mv (.tmp 155))⟩])
 (.cut [7, 9, 10, 11, 16, 18, 156] c5z72)
noncomputable def c5z68 : ICode := .seq (.ops (some (145, false)) [⟨(some 146), .p (.mv (.tmp 22))⟩,
 ⟨(some 147), .call 13 [(.tmp 146)]⟩,
 ⟨(some 148), .p (.mv (.tmp 18))⟩,
 ⟨(some 149), .call 13 [(.tmp 148)]⟩,
 ⟨(some 150), .p (.mv (.tmp 20))⟩,
 ⟨(some 151), .call 13 [(.tmp 150)]⟩,
 ⟨(some 152), .call 26 [(.tmp 149), (.tmp 151)]⟩,
 ⟨(some 153), .call 12 [(.tmp 147), (.tmp 152)]⟩,
 ⟨(some 154), .p (.bin .lss (.tmp 153) (.const (.int .i64 (0))))⟩])
 (.cut [7, 9, 10, 11, 16, 18, 145, 154] c5z70)
noncomputable def c5z66 : ICode := .seq (.ops none [⟨(some 144), .p (.pick (.tmp 140) (.const (.bool true)) (.tmp 143))⟩,
 ⟨(some 145), .p (.mv (.tmp 144))⟩])
 (.cut [7, 9, 10, 11, 16, 18, 20, 22, 145] c5z68)
noncomputable def c5z64 : ICode := .seq (.ops (some (140, false)) [⟨(some 141), .p (.mv (.tmp 11))⟩,
 ⟨(some 142), .p (.mv (.tmp 16))⟩,
 ⟨(some 143), .call 25 [(.tmp 141), (.tmp 142)]⟩])
 (.cut [7, 9, 10, 11, 16, 18, 20, 22, 140, 143] c5z66)
noncomputable def c5z62 : ICode := .seq (.ops none [⟨(some 139), .p (.pick (.tmp 135) (.const (.bool true)) (.tmp 138))⟩,
 ⟨(some 140), .p (.mv (.tmp 139))⟩])
 (.cut [7, 9, 10, 11, 16, 18, 20, 22, 140] c5z64)
noncomputable def c5z60 : ICode := .seq (.ops (some (135, false)) [⟨(some 136), .p (.mv (.tmp 22))⟩,
 ⟨(some 137), .call 24 [(.tmp 136)]⟩,
 ⟨(some 138), .p (.un .not (.tmp 137))⟩])
 (.cut [7, 9, 10, 11, 16, 18, 20, 22, 135, 138] c5z62)
noncomputable def c5z58 : ICode := .seq (.ops none [⟨(some 134), .p (.pick (.tmp 130) (.const (.bool true)) (.tmp 133))⟩,
 ⟨(some 135), .p (.mv (.tmp 134))⟩])
 (.cut [7, 9, 10, 11, 16, 18, 20, 22, 135] c5z60)
noncomputable def c5z56 : ICode := .seq (.ops (some (130, false)) [⟨(some 131), .p (.mv (.tmp 20))⟩,
 ⟨(some 132), .call 24 [(.tmp 131)]⟩,
 ⟨(some 133), .p (.un .not (.tmp 132))⟩])
 (.cut [7, 9, 10, 11, 16, 18, 20, 22, 130, 133] c5z58)
noncomputable def c5z54 : ICode := .seq (.ops none [⟨(some 129), .p (.pick (.tmp 125) (.const (.bool true)) (.tmp 128))⟩,
 ⟨(some 130), .p (.mv (.tmp 129))⟩])
 (.cut [7, 9, 10, 11, 16, 18, 20, 22, 130] c5z56)
noncomputable def c5z52 : ICode := .seq (.ops (some (125, false)) [⟨(some 126), .p (.mv (.tmp 18))⟩,
 ⟨(some 127), .call 24 [(.tmp 126)]⟩,
 ⟨(some 128), .p (.un .not (.tmp 127))⟩])
 (.cut [7, 9, 10, 11, 16, 18, 20, 22, 125, 128] c5z54)
noncomputable def c5z50 : ICode := .seq (.ops none [⟨(some 124), .p (.pick (.tmp 121) (.const (.bool true)) (.tmp 123))⟩,
 ⟨(some 125), .p (.mv (.tmp 124))⟩])
 (.cut [7, 9, 10, 11, 16, 18, 20, 22, 125] c5z52)
noncomputable def c5z48 : ICode := .seq (.ops (some (121, false)) [⟨(some 122), .p (.mv (.tmp 23))⟩,
 ⟨(some 123), .p (.bin .neq (.tmp 122) (.const (.int .i64 (0))))⟩])
 (.cut [7, 9, 10, 11, 16, 18, 20, 22, 121, 123] c5z50)
noncomputable def c5z46 : ICode := .seq (.ops none [⟨(some 120), .p (.pick (.tmp 117) (.const (.bool true)) (.tmp 119))⟩,
 ⟨(some 121), .p (.mv (.tmp 120))⟩])
 (.cut [7, 9, 10, 11, 16, 18, 20, 22, 23, 121] c5z48)
noncomputable def c5z44 : ICode := .seq (.ops (some (117, false)) [⟨(some 118), .p (.mv (.tmp 21))⟩,
 ⟨(some 119), .p (.bin .neq (.tmp 118) (.const (.int .i64 (0))))⟩])
 (.cut [7, 9, 10, 11, 16, 18, 20, 22, 23, 117, 119] c5z46)
noncomputable def c5z42 : ICode := .seq (.ops none [⟨(some 116), .p (.pick (.tmp 113) (.const (.bool true)) (.tmp 115))⟩,
 ⟨(some 117), .p (.mv (.tmp 116))⟩])
 (.cut [7, 9, 10, 11, 16, 18, 20, 21, 22, 23, 117] c5z44)
noncomputable def c5z40 : ICode := .seq (.ops (some (113, false)) [⟨(some 114), .p (.mv (.tmp 19))⟩,
 ⟨(some 115), .p (.bin .neq (.tmp 114) (.const (.int .i64 (0))))⟩])
 (.cut [7, 9, 10, 11, 16, 18, 20, 21, 22, 23, 113, 115] c5z42)
noncomputable def c5z38 : ICode := .cond (.tmp 159) (.seq (.ops none [⟨(some 6), .p (.mv (.const (.bool false)))⟩])
 (.ret))
 (.skip)
noncomputable def c5z90 : ICode := .ops none [⟨(some 179), .p (.pick (.tmp 171) (.const (.bool true)) (.tmp 178))⟩]
noncomputable def c5z88 : ICode := .seq (.ops (some (171, false)) [⟨(some 172), .p (.mv (.tmp 16))⟩,
 ⟨(some 173), .p (.mv (.tmp 25))⟩,
 ⟨(some 174), .p (.adrSl 1 (.tmp 172) (.tmp 173))⟩,
 ⟨(some 175), .l (.load false 1 (.tmp 174))⟩,
 ⟨(some 176), .p (.mv (.tmp 7))⟩,
 ⟨(some 177), .p (.lenSl (.tmp 176))⟩,
 ⟨(some 178), .p (.bin .geq (.tmp 175) (.tmp 177))⟩])
 (.cut [7, 9, 10, 11, 16, 18, 24, 25, 171, 178] c5z90)
noncomputable def c5z86 : ICode := .cond (.tmp 179) (.seq (.ops none [⟨(some 6), .p (.mv (.const (.bool false)))⟩])
 (.ret))
 (.skip)
noncomputable def c5z85 : ICode := .ops none [⟨(some 180), .p (.mv (.tmp 24))⟩,
 ⟨(some 181), .p (.mv (.tmp 7))⟩,
 ⟨(some 182), .p (.mv (.tmp 16))⟩,
 ⟨(some 183), .p (.mv (.tmp 25))⟩,
 ⟨(some 184), .p (.adrSl 1 (.tmp 182) (.tmp 183))⟩,
 ⟨(some 185), .l (.load false 1 (.tmp 184))⟩,
 ⟨(some 186), .p (.adrSl 1 (.tmp 181) (.tmp 185))⟩,
 ⟨(some 187), .l (.load false 1 (.tmp 186))⟩,
 ⟨(some 188), .p (.bin .add (.tmp 180) (.tmp 187))⟩,
 ⟨(some 24), .p (.mv (.tmp 188))⟩]
noncomputable def c5z83 : ICode := .ops none [⟨(some 164), .p (.mv (.tmp 25))⟩,
 ⟨(some 165), .p (.bin .add (.tmp 164) (.const (.int .i64 (1))))⟩,
 ⟨(some 25), .p (.mv (.tmp 165))⟩]
noncomputable def c5z80 : ICode := .seq (.seq (.ops none [⟨(some 160), .p (.mv (.tmp 25))⟩,
 ⟨(some 161), .p (.mv (.tmp 16))⟩,
 ⟨(some 162), .p (.lenSl (.tmp 161))⟩,
 ⟨(some 163), .p (.bin .lss (.tmp 160) (.tmp 162))⟩])
 (.cond (.tmp 163) (.skip)
 (.exit 4)))
 (.seq (.block 5 (.seq (.seq (.seq (.ops none [⟨(some 166), .p (.mv (.tmp 16))⟩,
 ⟨(some 167), .p (.mv (.tmp 25))⟩,
 ⟨(some 168), .p (.adrSl 1 (.tmp 166) (.tmp 167))⟩,
 ⟨(some 169), .l (.load false 1 (.tmp 168))⟩,
 ⟨(some 170), .p (.bin .lss (.tmp 169) (.const (.int .i64 (0))))⟩,
 ⟨(some 171), .p (.mv (.tmp 170))⟩])
 (.cut [7, 9, 10, 11, 16, 18, 24, 25, 171] c5z88)) c5z86) c5z85)) c5z83)
noncomputable def c5z109 : ICode := .ops none [⟨(some 208), .p (.pick (.tmp 192) (.tmp 207) (.const (.bool false)))⟩,
 ⟨(some 6), .p (.mv (.tmp 208))⟩]
noncomputable def c5z107 : ICode := .seq (.ops (some (192, true)) [⟨(some 207), .p (.pick (.tmp 195) (.const (.bool true)) (.tmp 206))⟩])
 (.cut [192, 207] c5z109)
noncomputable def c5z105 : ICode := .seq (.ops (some (195, false)) [⟨(some 206), .p (.pick (.tmp 202) (.tmp 205) (.const (.bool false)))⟩])
 (.cut [192, 195, 206] c5z107)
noncomputable def c5z103 : ICode := .seq (.ops (some (202, true)) [⟨(some 203), .p (.mv (.tmp 16))⟩,
 ⟨(some 204), .p (.mv (.tmp 11))⟩,
 ⟨(some 205), .call 23 [(.tmp 203), (.tmp 204)]⟩])
 (.cut [192, 195, 202, 205] c5z105)
noncomputable def c5z101 : ICode := .seq (.ops (some (195, false)) [⟨(some 201), .p (.pick (.tmp 198) (.tmp 200) (.const (.bool false)))⟩,
 ⟨(some 202), .p (.mv (.tmp 201))⟩])
 (.cut [11, 16, 192, 195, 202] c5z103)
noncomputable def c5z99 : ICode := .seq (.ops (some (198, true)) [⟨(some 199), .p (.mv (.tmp 18))⟩,
 ⟨(some 200), .p (.bin .eql (.tmp 199) (.const (.string ⟨#[49]⟩)))⟩])
 (.cut [11, 16, 192, 195, 198, 200] c5z101)
noncomputable def c5z97 : ICode := .seq (.ops (some (195, false)) [⟨(some 196), .p (.mv (.tmp 9))⟩,
 ⟨(some 197), .p (.bin .eql (.tmp 196) (.const (.int .i64 (5))))⟩,
 ⟨(some 198), .p (.mv (.tmp 197))⟩])
 (.cut [11, 16, 18, 192, 195, 198] c5z99)
noncomputable def c5z95 : ICode := .seq (.ops (some (192, true)) [⟨(some 193), .p (.mv (.tmp 9))⟩,
 ⟨(some 194), .p (.bin .eql (.tmp 193) (.const (.int .i64 (0))))⟩,
 ⟨(some 195), .p (.mv (.tmp 194))⟩])
 (.cut [9, 11, 16, 18, 192, 195] c5z97)
noncomputable def c5z93 : ICode := .ret
noncomputable def c5z92 : ICode := .seq (.seq (.ops none [⟨(some 189), .p (.mv (.tmp 24))⟩,
 ⟨(some 190), .p (.mv (.tmp 10))⟩,
 ⟨(some 191), .p (.bin .eql (.tmp 189) (.tmp 190))⟩,
 ⟨(some 192), .p (.mv (.tmp 191))⟩])
 (.cut [9, 11, 16, 18, 192] c5z95)) c5z93
noncomputable def c5z77 : ICode := .cut [9, 10, 11, 16, 18, 24] c5z92
noncomputable def c5z37 : ICode := .seq (.ops none [⟨(some 24), .p (.mv (.const (.string ⟨#[]⟩)))⟩])
 (.seq (.seq (.ops none [⟨(some 25), .p (.mv (.const (.int .i64 (0))))⟩])
 (.block 4 (.loop [7, 9, 10, 11, 16, 18] [24, 25] c5z80))) c5z77)
noncomputable def c5z32 : ICode := .seq (.ops none [⟨(some 86), .p (.mv (.tmp 7))⟩,
 ⟨(some 87), .p (.mv (.tmp 10))⟩,
 ⟨(some 88), .call 17 [(.tmp 86), (.tmp 87)]⟩,
 ⟨(some 85), .p (.mv (.tmp 88))⟩,
 ⟨(some 89), .p (.ext (.tmp 85) 0)⟩,
 ⟨(some 90), .p (.ext (.tmp 85) 1)⟩,
 ⟨(some 16), .p (.mv (.tmp 89))⟩,
 ⟨(some 17), .p (.mv (.tmp 90))⟩])
 (.seq (.ops none [⟨(some 92), .p (.mv (.tmp 7))⟩,
 ⟨(some 93), .p (.mv (.tmp 10))⟩,
 ⟨(some 94), .call 10 [(.tmp 92), (.tmp 93)]⟩,
 ⟨(some 91), .p (.mv (.tmp 94))⟩,
 ⟨(some 95), .p (.ext (.tmp 91) 0)⟩,
 ⟨(some 96), .p (.ext (.tmp 91) 1)⟩,
 ⟨(some 18), .p (.mv (.tmp 95))⟩,
 ⟨(some 19), .p (.mv (.tmp 96))⟩])
 (.seq (.ops none [⟨(some 98), .p (.mv (.tmp 7))⟩,
 ⟨(some 99), .p (.mv (.tmp 14))⟩,
 ⟨(some 100), .call 10 [(.tmp 98), (.tmp 99)]⟩,
 ⟨(some 97), .p (.mv (.tmp 100))⟩,
 ⟨(some 101), .p (.ext (.tmp 97) 0)⟩,
 ⟨(some 102), .p (.ext (.tmp 97) 1)⟩,
 ⟨(some 20), .p (.mv (.tmp 101))⟩,
 ⟨(some 21), .p (.mv (.tmp 102))⟩])
 (.seq (.ops none [⟨(some 104), .p (.mv (.tmp 7))⟩,
 ⟨(some 105), .p (.mv (.tmp 10))⟩,
 ⟨(some 106), .p (.mv (.tmp 14))⟩,
 ⟨(some 107), .p (.bin .add (.tmp 105) (.tmp 106))⟩,
 ⟨(some 108), .call 10 [(.tmp 104), (.tmp 107)]⟩,
 ⟨(some 103), .p (.mv (.tmp 108))⟩,
 ⟨(some 109), .p (.ext (.tmp 103) 0)⟩,
 ⟨(some 110), .p (.ext (.tmp 103) 1)⟩,
 ⟨(some 22), .p (.mv (.tmp 109))⟩,
 ⟨(some 23), .p (.mv (.tmp 110))⟩])
 (.seq (.seq (.seq (.ops none [⟨(some 111), .p (.mv (.tmp 17))⟩,
 ⟨(some 112), .p (.bin .neq (.tmp 111) (.const (.int .i64 (0))))⟩,
 ⟨(some 113), .p (.mv (.tmp 112))⟩])
 (.cut [7, 9, 10, 11, 16, 18, 19, 20, 21, 22, 23, 113] c5z40)) c5z38) c5z37))))
noncomputable def c5z20 : ICode := .cut [7, 9, 10, 11, 14] c5z32
noncomputable def c5z18 : ICode := .seq (.ops none [⟨(some 14), .p (.mv (.const (.string ⟨#[]⟩)))⟩])
 (.seq (.seq (.ops none [⟨(some 15), .p (.mv (.const (.int .i64 (0))))⟩])
 (.block 2 (.loop [2, 7, 9, 10, 11] [14, 15] c5z23))) c5z20)
noncomputable def c5z5 : ICode := .cut [2, 7, 9, 10, 11] c5z18
noncomputable def c5 : ICode := .seq (.ops none [⟨(some 6), .p (.mv (.const (.bool false)))⟩])
 (.seq (.ops none [⟨(some 26), .p (.mv (.tmp 0))⟩,
 ⟨(some 27), .call 8 [(.tmp 26)]⟩,
 ⟨(some 7), .p (.mv (.tmp 27))⟩])
 (.seq (.ops none [⟨(some 29), .p (.mv (.tmp 7))⟩,
 ⟨(some 30), .call 9 [(.tmp 29)]⟩,
 ⟨(some 28), .p (.mv (.tmp 30))⟩,
 ⟨(some 31), .p (.ext (.tmp 28) 0)⟩,
 ⟨(some 32), .p (.ext (.tmp 28) 1)⟩,
 ⟨(some 8), .p (.mv (.tmp 31))⟩,
 ⟨(some 9), .p (.mv (.tmp 32))⟩])
 (.seq (.ops none [⟨(some 33), .e (.mkSl 3 0 [(.int .i64 (0))] [])⟩,
 ⟨(some 10), .p (.mv (.const (.string ⟨#[]⟩)))⟩,
 ⟨(some 11), .p (.mv (.tmp 33))⟩])
 (.seq (.seq (.ops none [⟨(some 12), .p (.mv (.const (.int .i64 (0))))⟩])
 (.block 0 (.loop [1, 2, 7, 9] [10, 11, 12] c5z8))) c5z5))))
theorem k5 : compFn Tryz.prog 5 [[], [], [], [], [], [1, 2, 7, 9], [10, 11, 12], [1, 2, 7, 9, 10, 11, 12, 38], [1, 2, 7, 9, 10, 11, 12, 38, 40], [], [], [], [], [2, 7, 9, 10, 11], [], [], [2, 7, 9, 10, 11], [14, 15], [2, 7, 9, 10, 11, 14, 15, 66], [2, 7, 9, 10, 11, 14, 15, 66, 68], [], [], [], [7, 9, 10, 11, 14], [], [], [], [], [7, 9, 10, 11, 16, 18, 19, 20, 21, 22, 23, 113], [7, 9, 10, 11, 16, 18, 20, 21, 22, 23, 113, 115], [7, 9, 10, 11, 16, 18, 20, 21, 22, 23, 117], [7, 9, 10, 11, 16, 18, 20, 22, 23, 117, 119], [7, 9, 10, 11, 16, 18, 20, 22, 23, 121], [7, 9, 10, 11, 16, 18, 20, 22, 121, 123], [7, 9, 10, 11, 16, 18, 20, 22, 125], [7, 9, 10, 11, 16, 18, 20, 22, 125, 128], [7, 9, 10, 11, 16, 18, 20, 22, 130], [7, 9, 10, 11, 16, 18, 20, 22, 130, 133], [7, 9, 10, 11, 16, 18, 20, 22, 135], [7, 9, 10, 11, 16, 18, 20, 22, 135, 138], [7, 9, 10, 11, 16, 18, 20, 22, 140], [7, 9, 10, 11, 16, 18, 20, 22, 140, 143], [7, 9, 10, 11, 16, 18, 20, 22, 145], [7, 9, 10, 11, 16, 18, 145, 154], [7, 9, 10, 11, 16, 18, 156], [7, 9, 10, 11, 16, 18, 156, 158], [], [], [], [], [], [7, 9, 10, 11, 16, 18], [24, 25], [], [], [7, 9, 10, 11, 16, 18, 24, 25, 171], [7, 9, 10, 11, 16, 18, 24, 25, 171, 178], [], [], [], [], [9, 10, 11, 16, 18, 24], [9, 11, 16, 18, 192], [9, 11, 16, 18, 192, 195], [11, 16, 18, 192, 195, 198], [11, 16, 192, 195, 198, 200], [11, 16, 192, 195, 202], [192, 195, 202, 205], [192, 195, 206], [192, 207], []] = some (209, c5, [.tmp 6]) := by kernel_rfl
def K5z0 (_P : Program) (K : VK) : Kont := bodyP [.tmp 6] K
def K5z5 : Kont := thenK (iwpP P c5z5 (K5z0 P K)) (K5z0 P K)
def K5z7 : Kont := inBlockK 0 (K5z5 P K)
def K5z8 (y1 z2 l7 e9 : Value) (L1 : LK) : Kont := thenK (fun f' h'' => (([1, 2, 7, 9] : List Nat).map f' : List Value) = [y1, z2, l7, e9] ∧ L1 (([10, 11, 12] : List Nat).map f') h'') (K5z7 P K)
def p5z8 (y1 z2 l7 e9 : Value) (L1 : LK) (xs : List Value) (h : Heap) : Prop := CutP (iwpP P c5z8 (K5z8 P K y1 z2 l7 e9 L1)) ([1, 2, 7, 9] ++ [10, 11, 12]) ([y1, z2, l7, e9] ++ xs) h
def T5 (x0 y1 z2 : Value) (h : Heap) : Prop :=
 CallP P 8 [x0] h fun x27 h_1 =>
 CallP P 9 [x27] h_1 fun x30 h_2 =>
 OP (iExt 0 x30) fun x31 =>
 OP (iExt 1 x30) fun x32 =>
 OH (iMkSl 3 0 [(.int .i64 (0))] h_2 []) fun x33 h_3 =>
 LoopP [(.string ⟨#[]⟩), x33, (.int .i64 (0))] h_3 fun L1 xs hx =>
 p5z8 P K y1 z2 x27 x32 L1 xs hx
theorem e5 (x0 y1 z2 : Value) (h : Heap) : iwpP P c5 (bodyP [.tmp 6] K) (frame0 [x0, y1, z2]) h = T5 P K x0 y1 z2 h := by kernel_rfl
theorem f5 {K : VK} {x0 y1 z2 : Value} {h : Heap} (H : T5 Tryz.prog K x0 y1 z2 h) : CallP Tryz.prog 5 [x0, y1, z2] h K :=
 callP_intro k5 (Nat.le_of_ble_eq_true rfl) ((e5 Tryz.prog K x0 y1 z2 h).mpr H)
/-! F6: pommel/pommellaw08.MarkKraft -/
noncomputable def c6z22 : ICode := .ops none [⟨(some 46), .p (.pick (.tmp 43) (.const (.bool true)) (.tmp 45))⟩]
noncomputable def c6z20 : ICode := .seq (.ops (some (43, false)) [⟨(some 44), .call 15 []⟩,
 ⟨(some 45), .p (.un .not (.tmp 44))⟩])
 (.cut [3, 5, 6, 43, 45] c6z22)
noncomputable def c6z18 : ICode := .seq (.ops none [⟨(some 42), .p (.pick (.tmp 35) (.const (.bool true)) (.tmp 41))⟩,
 ⟨(some 43), .p (.mv (.tmp 42))⟩])
 (.cut [3, 5, 6, 43] c6z20)
noncomputable def c6z16 : ICode := .seq (.ops (some (35, false)) [⟨(some 41), .p (.pick (.tmp 38) (.tmp 40) (.const (.bool false)))⟩])
 (.cut [3, 5, 6, 35, 41] c6z18)
noncomputable def c6z14 : ICode := .seq (.ops (some (38, true)) [⟨(some 39), .p (.mv (.tmp 5))⟩,
 ⟨(some 40), .p (.bin .neq (.tmp 39) (.const (.int .i64 (5))))⟩])
 (.cut [3, 5, 6, 35, 38, 40] c6z16)
noncomputable def c6z12 : ICode := .seq (.ops (some (35, false)) [⟨(some 36), .p (.mv (.tmp 5))⟩,
 ⟨(some 37), .p (.bin .neq (.tmp 36) (.const (.int .i64 (0))))⟩,
 ⟨(some 38), .p (.mv (.tmp 37))⟩])
 (.cut [3, 5, 6, 35, 38] c6z14)
noncomputable def c6z10 : ICode := .seq (.ops none [⟨(some 34), .p (.pick (.tmp 30) (.const (.bool true)) (.tmp 33))⟩,
 ⟨(some 35), .p (.mv (.tmp 34))⟩])
 (.cut [3, 5, 6, 35] c6z12)
noncomputable def c6z8 : ICode := .seq (.ops (some (30, false)) [⟨(some 31), .p (.mv (.tmp 6))⟩,
 ⟨(some 32), .call 24 [(.tmp 31)]⟩,
 ⟨(some 33), .p (.un .not (.tmp 32))⟩])
 (.cut [3, 5, 6, 30, 33] c6z10)
noncomputable def c6z6 : ICode := .cond (.tmp 46) (.seq (.ops none [⟨(some 2), .p (.mv (.const (.bool false)))⟩])
 (.ret))
 (.skip)
noncomputable def c6z30 : ICode := .ops none [⟨(some 57), .p (.pick (.tmp 54) (.tmp 56) (.const (.bool false)))⟩]
noncomputable def c6z28 : ICode := .seq (.ops (some (54, true)) [⟨(some 55), .p (.mv (.tmp 8))⟩,
 ⟨(some 56), .p (.un .not (.tmp 55))⟩])
 (.cut [3, 8, 54, 56] c6z30)
noncomputable def c6z26 : ICode := .cond (.tmp 57) (.seq (.ops none [⟨(some 2), .p (.mv (.const (.bool false)))⟩])
 (.ret))
 (.skip)
noncomputable def c6z39 : ICode := .ops none [⟨(some 72), .p (.pick (.tmp 68) (.tmp 71) (.const (.bool false)))⟩,
 ⟨(some 2), .p (.mv (.tmp 72))⟩]
noncomputable def c6z37 : ICode := .seq (.ops (some (68, true)) [⟨(some 69), .p (.mv (.tmp 9))⟩,
 ⟨(some 70), .p (.lenSl (.tmp 69))⟩,
 ⟨(some 71), .p (.bin .eql (.tmp 70) (.const (.int .i64 (0))))⟩])
 (.cut [68, 71] c6z39)
noncomputable def c6z35 : ICode := .ret
noncomputable def c6z49 : ICode := .ops none [⟨(some 87), .p (.pick (.tmp 80) (.const (.bool true)) (.tmp 86))⟩]
noncomputable def c6z47 : ICode := .seq (.ops (some (80, false)) [⟨(some 81), .p (.mv (.tmp 9))⟩,
 ⟨(some 82), .call 28 [(.tmp 81)]⟩,
 ⟨(some 83), .p (.mv (.tmp 3))⟩,
 ⟨(some 84), .call 28 [(.tmp 83)]⟩,
 ⟨(some 85), .call 23 [(.tmp 82), (.tmp 84)]⟩,
 ⟨(some 86), .p (.un .not (.tmp 85))⟩])
 (.cut [9, 80, 86] c6z49)
noncomputable def c6z45 : ICode := .seq (.ops none [⟨(some 79), .p (.pick (.tmp 75) (.const (.bool true)) (.tmp 78))⟩,
 ⟨(some 80), .p (.mv (.tmp 79))⟩])
 (.cut [3, 9, 80] c6z47)
noncomputable def c6z43 : ICode := .seq (.ops (some (75, false)) [⟨(some 76), .p (.mv (.tmp 9))⟩,
 ⟨(some 77), .call 30 [(.tmp 76)]⟩,
 ⟨(some 78), .p (.bin .neq (.tmp 77) (.const (.int .i64 (0))))⟩])
 (.cut [3, 9, 75, 78] c6z45)
noncomputable def c6z41 : ICode := .cond (.tmp 87) (.seq (.ops none [⟨(some 2), .p (.mv (.const (.bool false)))⟩])
 (.ret))
 (.skip)
noncomputable def c6z57 : ICode := .ops none [⟨(some 103), .p (.pick (.tmp 100) (.tmp 102) (.const (.bool false)))⟩,
 ⟨(some 2), .p (.mv (.tmp 103))⟩]
noncomputable def c6z55 : ICode := .seq (.ops (some (100, true)) [⟨(some 101), .p (.mv (.tmp 14))⟩,
 ⟨(some 102), .p (.bin .eql (.tmp 101) (.const (.int .i64 (5))))⟩])
 (.cut [100, 102] c6z57)
noncomputable def c6z53 : ICode := .ret
noncomputable def c6z40 : ICode := .seq (.ops none [⟨(some 89), .p (.mv (.tmp 9))⟩,
 ⟨(some 90), .call 31 [(.tmp 89)]⟩,
 ⟨(some 88), .p (.mv (.tmp 90))⟩,
 ⟨(some 91), .p (.ext (.tmp 88) 0)⟩,
 ⟨(some 92), .p (.ext (.tmp 88) 1)⟩,
 ⟨(some 11), .p (.mv (.tmp 91))⟩,
 ⟨(some 12), .p (.mv (.tmp 92))⟩])
 (.seq (.ops none [⟨(some 94), .p (.mv (.tmp 9))⟩,
 ⟨(some 95), .call 9 [(.tmp 94)]⟩,
 ⟨(some 93), .p (.mv (.tmp 95))⟩,
 ⟨(some 96), .p (.ext (.tmp 93) 0)⟩,
 ⟨(some 97), .p (.ext (.tmp 93) 1)⟩,
 ⟨(some 13), .p (.mv (.tmp 96))⟩,
 ⟨(some 14), .p (.mv (.tmp 97))⟩])
 (.seq (.seq (.ops none [⟨(some 98), .p (.mv (.tmp 12))⟩,
 ⟨(some 99), .p (.bin .eql (.tmp 98) (.const (.int .i64 (5))))⟩,
 ⟨(some 100), .p (.mv (.tmp 99))⟩])
 (.cut [14, 100] c6z55)) c6z53))
noncomputable def c6z33 : ICode := .seq (.seq (.seq (.ops none [⟨(some 73), .p (.mv (.tmp 10))⟩,
 ⟨(some 74), .p (.bin .neq (.tmp 73) (.const (.int .i64 (0))))⟩,
 ⟨(some 75), .p (.mv (.tmp 74))⟩])
 (.cut [3, 9, 75] c6z43)) c6z41) c6z40
noncomputable def c6z25 : ICode := .seq (.ops none [⟨(some 59), .p (.mv (.tmp 3))⟩,
 ⟨(some 60), .call 28 [(.tmp 59)]⟩,
 ⟨(some 61), .call 29 [(.tmp 60)]⟩,
 ⟨(some 58), .p (.mv (.tmp 61))⟩,
 ⟨(some 62), .p (.ext (.tmp 58) 0)⟩,
 ⟨(some 63), .p (.ext (.tmp 58) 1)⟩,
 ⟨(some 9), .p (.mv (.tmp 62))⟩,
 ⟨(some 10), .p (.mv (.tmp 63))⟩])
 (.seq (.seq (.ops none [⟨(some 64), .p (.mv (.tmp 8))⟩,
 ⟨(some 65), .p (.un .not (.tmp 64))⟩])
 (.cond (.tmp 65) (.seq (.seq (.ops none [⟨(some 66), .p (.mv (.tmp 10))⟩,
 ⟨(some 67), .p (.bin .eql (.tmp 66) (.const (.int .i64 (5))))⟩,
 ⟨(some 68), .p (.mv (.tmp 67))⟩])
 (.cut [9, 68] c6z37)) c6z35)
 (.skip))) c6z33)
noncomputable def c6z5 : ICode := .seq (.ops none [⟨(some 47), .p (.mv (.tmp 6))⟩,
 ⟨(some 48), .call 13 [(.tmp 47)]⟩,
 ⟨(some 49), .call 14 [(.const (.int .i64 (1)))]⟩,
 ⟨(some 50), .call 12 [(.tmp 48), (.tmp 49)]⟩,
 ⟨(some 51), .p (.bin .leq (.tmp 50) (.const (.int .i64 (0))))⟩,
 ⟨(some 8), .p (.mv (.tmp 51))⟩])
 (.seq (.seq (.seq (.ops none [⟨(some 52), .p (.mv (.tmp 5))⟩,
 ⟨(some 53), .p (.bin .eql (.tmp 52) (.const (.int .i64 (5))))⟩,
 ⟨(some 54), .p (.mv (.tmp 53))⟩])
 (.cut [3, 8, 54] c6z28)) c6z26) c6z25)
noncomputable def c6 : ICode := .seq (.ops none [⟨(some 2), .p (.mv (.const (.bool false)))⟩])
 (.seq (.ops none [⟨(some 15), .p (.mv (.tmp 0))⟩,
 ⟨(some 16), .call 8 [(.tmp 15)]⟩,
 ⟨(some 3), .p (.mv (.tmp 16))⟩])
 (.seq (.ops none [⟨(some 18), .p (.mv (.tmp 3))⟩,
 ⟨(some 19), .call 9 [(.tmp 18)]⟩,
 ⟨(some 17), .p (.mv (.tmp 19))⟩,
 ⟨(some 20), .p (.ext (.tmp 17) 0)⟩,
 ⟨(some 21), .p (.ext (.tmp 17) 1)⟩,
 ⟨(some 4), .p (.mv (.tmp 20))⟩,
 ⟨(some 5), .p (.mv (.tmp 21))⟩])
 (.seq (.ops none [⟨(some 23), .p (.mv (.tmp 3))⟩,
 ⟨(some 24), .call 28 [(.tmp 23)]⟩,
 ⟨(some 25), .call 27 [(.tmp 24)]⟩,
 ⟨(some 22), .p (.mv (.tmp 25))⟩,
 ⟨(some 26), .p (.ext (.tmp 22) 0)⟩,
 ⟨(some 27), .p (.ext (.tmp 22) 1)⟩,
 ⟨(some 6), .p (.mv (.tmp 26))⟩,
 ⟨(some 7), .p (.mv (.tmp 27))⟩])
 (.seq (.seq (.seq (.ops none [⟨(some 28), .p (.mv (.tmp 7))⟩,
 ⟨(some 29), .p (.bin .neq (.tmp 28) (.const (.int .i64 (0))))⟩,
 ⟨(some 30), .p (.mv (.tmp 29))⟩])
 (.cut [3, 5, 6, 30] c6z8)) c6z6) c6z5))))
theorem k6 : compFn Tryz.prog 6 [[], [], [], [], [3, 5, 6, 30], [3, 5, 6, 30, 33], [3, 5, 6, 35], [3, 5, 6, 35, 38], [3, 5, 6, 35, 38, 40], [3, 5, 6, 35, 41], [3, 5, 6, 43], [3, 5, 6, 43, 45], [], [], [], [], [3, 8, 54], [3, 8, 54, 56], [], [], [], [], [], [9, 68], [68, 71], [], [], [3, 9, 75], [3, 9, 75, 78], [3, 9, 80], [9, 80, 86], [], [], [], [], [], [14, 100], [100, 102], []] = some (104, c6, [.tmp 2]) := by kernel_rfl
def K6z0 (_P : Program) (K : VK) : Kont := bodyP [.tmp 2] K
def K6z5 : Kont := thenK (iwpP P c6z5 (K6z0 P K)) (K6z0 P K)
def K6z6 : Kont := thenK (iwpP P c6z6 (K6z5 P K)) (K6z5 P K)
def p6z8 (l3 e5 k6 x30 : Value) (h : Heap) : Prop := CutP (iwpP P c6z8 (K6z6 P K)) [3, 5, 6, 30] [l3, e5, k6, x30] h
def T6 (x0 : Value) (h : Heap) : Prop :=
 CallP P 8 [x0] h fun x16 h_1 =>
 CallP P 9 [x16] h_1 fun x19 h_2 =>
 OP (iExt 0 x19) fun x20 =>
 OP (iExt 1 x19) fun x21 =>
 CallP P 28 [x16] h_2 fun x24 h_3 =>
 CallP P 27 [x24] h_3 fun x25 h_4 =>
 OP (iExt 0 x25) fun x26 =>
 OP (iExt 1 x25) fun x27 =>
 OP (iBin .neq x27 (.int .i64 (0))) fun x29 =>
 p6z8 P K x16 x21 x26 x29 h_4
theorem e6 (x0 : Value) (h : Heap) : iwpP P c6 (bodyP [.tmp 2] K) (frame0 [x0]) h = T6 P K x0 h := by kernel_rfl
/-! F11: pommel/pommelref01.Integer -/
noncomputable def c11 : ICode := .seq (.ops none [⟨(some 2), .p (.mv (.const (.bool false)))⟩])
 (.seq (.ops none [⟨(some 6), .p (.mv (.tmp 0))⟩,
 ⟨(some 7), .call 51 [(.tmp 6)]⟩,
 ⟨(some 5), .p (.mv (.tmp 7))⟩,
 ⟨(some 8), .p (.ext (.tmp 5) 0)⟩,
 ⟨(some 9), .p (.ext (.tmp 5) 1)⟩,
 ⟨(some 3), .e (.alloc 38 [(.bool false), (.slice none 0 0), (.bool false), (.slice none 0 0)])⟩,
 ⟨none, .e (.store 4 (.tmp 3) (.tmp 8))⟩,
 ⟨(some 4), .p (.mv (.tmp 9))⟩])
 (.seq (.dops [(none, [⟨(some 10), .p (.mv (.tmp 4)), 0⟩,
 ⟨(some 11), .p (.mv (.tmp 10)), 1⟩]),
 ((some (11, true)), [⟨(some 12), .p (.fadr 2 (.tmp 3)), 3⟩,
 ⟨(some 13), .l (.load true 2 (.tmp 12)), 7⟩,
 ⟨(some 14), .call 22 [(.const (.int .i64 (1)))], 3⟩,
 ⟨(some 15), .call 52 [(.tmp 13), (.tmp 14)], 31⟩,
 ⟨(some 16), .p (.bin .eql (.tmp 15) (.const (.int .i64 (0)))), 63⟩]),
 (none, [⟨(some 17), .p (.pick (.tmp 11) (.tmp 16) (.const (.bool false))), 127⟩,
 ⟨(some 2), .p (.mv (.tmp 17)), 255⟩])])
 (.ret)))
theorem k11 : compFn Tryz.prog 11 [[], [], []] = some (18, c11, [.tmp 2]) := by kernel_rfl
def T11 (x0 : Value) (h : Heap) : Prop :=
 CallP P 51 [x0] h fun x7 h_1 =>
 OP (iExt 0 x7) fun x8 =>
 OP (iExt 1 x7) fun x9 =>
 OH (iAlloc 38 [(.bool false), (.slice none 0 0), (.bool false), (.slice none 0 0)] h_1) fun q3 h_2 =>
 OH (oStore 4 h_2 q3 x8) fun _ h_3 =>
 GdP x9 true
 (OP (iFadr 2 q3) fun x12 =>
 OP (iLoad true 2 h_3 x12) fun x13 =>
 (True) ∧
 CallP P 22 [(.int .i64 (1))] h_3 fun x14 h_4 =>
 (iLoad true 2 h_4 x12 = some x13 ∧ True) ∧
 CallP P 52 [x13, x14] h_4 fun x15 h_5 =>
 (True) ∧
 OP (iBin .eql x15 (.int .i64 (0))) fun x16 =>
 OP (iPick x9 x16 (.bool false)) fun x17 =>
 K x17 h_5)
 ((True) ∧
 (True) ∧
 OP (iPick x9 undef (.bool false)) fun x17 =>
 K x17 h_3)
theorem e11 (x0 : Value) (h : Heap) : iwpP P c11 (bodyP [.tmp 2] K) (frame0 [x0]) h = T11 P K x0 h := by kernel_rfl
theorem f11 {K : VK} {x0 : Value} {h : Heap} (H : T11 Tryz.prog K x0 h) : CallP Tryz.prog 11 [x0] h K :=
 callP_intro k11 (Nat.le_of_ble_eq_true rfl) ((e11 Tryz.prog K x0 h).mpr H)
/-! F24: pommel/pommelref01.Valid -/
end Go.Proofs.YthplaillblmgfaaGreatDoor

namespace Go.Proofs.YthplaillblmgfaaGreatDoor
open Go.Sim

theorem C11 {z : Int} {h : Heap} {K : Value → Heap → Prop} (hz : z.natAbs < bigW) (hk : ∀ h', EX h h' → K (B true) h') : CallP Tryz.prog 11 [S (numS z)] h K := by
  refine f11 (C51 hz ?_)
  intro r h1 x1 q
  obtain ⟨u, w, rfl, hu, hw⟩ := q
  have e1 : ∀ g : Heap, iAlloc 38 [(.bool false), (.slice none 0 0), (.bool false), (.slice none 0 0)] g = some (pt g.length 0, g ++ [.arr 38 z4]) := fun _ => rfl
  have k1 : (h1 ++ [IObj.arr 38 z4])[h1.length]? = some (.arr 38 z4) := get_last
  have xa : EX h1 (h1 ++ [IObj.arr 38 z4]) := EX.append _ _
  simp only [ext_tuple, pair0, pair1, OP_some, e1, OH_some]
  generalize h1 ++ [IObj.arr 38 z4] = g at k1 xa ⊢
  rw [store4 k1]
  simp only [OH_some]
  have k2 := set_get (o := .arr 38 [B (decide (z < 0)), u, B (decide ((1 : Int) < 0)), w]) k1
  have xb : EX h1 (g.set h1.length (.arr 38 [B (decide (z < 0)), u, B (decide ((1 : Int) < 0)), w])) := xa.set (Nat.le_refl _) _
  have hw2 : MagZ (g.set h1.length (.arr 38 [B (decide (z < 0)), u, B (decide ((1 : Int) < 0)), w])) w (1 : Int).natAbs := (hw.mono xa).setB k1 _
  generalize g.set h1.length (.arr 38 [B (decide (z < 0)), u, B (decide ((1 : Int) < 0)), w]) = g2 at k2 xb hw2 ⊢
  have l2 := load4b k2
  simp only [GdP_tt, fadr_pt, Nat.zero_add, OP_some, l2, true_and]
  refine C22 (z := 1) (by decide) ?_
  intro r1 g3 x3 z1
  refine ⟨⟨EX.load x3 l2, trivial⟩, ?_⟩
  have zw : ZV g3 (.agg #[B (decide ((1 : Int) < 0)), w]) 1 := ⟨w, rfl, hw2.mono x3⟩
  have b1 : (1 : Int).natAbs < bigW := lt_bigW (by decide)
  refine C52 zw z1 b1 b1 ?_
  intro g4 x4
  have e0 : iBin .eql (I (isgn (1 - 1))) (.int .i64 (0)) = some (B true) := rfl
  simp only [e0, OP_some, iPick_t, true_and]
  exact hk g4 (x1.trans (xb.trans (x3.trans x4)))

theorem C12 {va vb : Value} {a b c d : Int} {h : Heap} {K : Value → Heap → Prop} (ha : QZ h va a b) (hb : QZ h vb c d) (la : a.natAbs < bigW) (lb : b.natAbs < bigW) (lc : c.natAbs < bigW) (ld : d.natAbs < bigW) (lad : (a * d).natAbs < bigW) (lcb : (c * b).natAbs < bigW)
    (hk : ∀ h', EX h h' → K (I (isgn (a * d - c * b))) h') : CallP Tryz.prog 12 [va, vb] h K := by
  obtain ⟨u, w, rfl, hu, hw⟩ := ha
  obtain ⟨u', w', rfl, hu', hw'⟩ := hb
  refine f12 ?_
  unfold T12
  have e1 : ∀ (g : Heap) (s s' : Bool) (b d : Value), iBox 38 g (.agg #[B s, b, B s', d]) = some (pt g.length 0, g ++ [.arr 38 [B s, b, B s', d]]) := fun _ _ _ _ _ => rfl
  simp only [e1, OH_some]
  have x1 : EX h (h ++ [.arr 38 [B (decide (a < 0)), u, B (decide (b < 0)), w]]) := EX.append _ _
  have k1 : (h ++ [IObj.arr 38 [B (decide (a < 0)), u, B (decide (b < 0)), w]])[h.length]? = some (.arr 38 [B (decide (a < 0)), u, B (decide (b < 0)), w]) := get_last
  generalize h ++ [IObj.arr 38 [B (decide (a < 0)), u, B (decide (b < 0)), w]] = g at x1 k1 ⊢
  have x2 : EX g (g ++ [.arr 38 [B (decide (c < 0)), u', B (decide (d < 0)), w']]) := EX.append _ _
  have k2 : (g ++ [IObj.arr 38 [B (decide (c < 0)), u', B (decide (d < 0)), w']])[g.length]? = some (.arr 38 [B (decide (c < 0)), u', B (decide (d < 0)), w']) := get_last
  generalize g ++ [IObj.arr 38 [B (decide (c < 0)), u', B (decide (d < 0)), w']] = g2 at x2 k2 ⊢
  have k1 := x2.get k1
  have xx := x1.trans x2
  have za : ZV g2 (.agg #[B (decide (a < 0)), u]) a := ⟨u, rfl, hu.mono xx⟩
  have zb : ZV g2 (.agg #[B (decide (b < 0)), w]) b := ⟨w, rfl, hw.mono xx⟩
  have zc : ZV g2 (.agg #[B (decide (c < 0)), u']) c := ⟨u', rfl, hu'.mono xx⟩
  have zd : ZV g2 (.agg #[B (decide (d < 0)), w']) d := ⟨w', rfl, hw'.mono xx⟩
  have a0 := load4a k1
  have a2 := load4b k1
  have b0 := load4a k2
  have b2 := load4b k2
  simp only [fadr_pt, Nat.add_zero, Nat.zero_add, OP_some, a0, b2, true_and]
  refine C53 za zd la ld ?_
  intro r3 g3 x3 z3
  simp only [EX.load x3 b0, EX.load x3 a2, OP_some, b0, a2, true_and]
  refine C53 (zc.mono x3) (zb.mono x3) lc lb ?_
  intro r4 g4 x4 z4'
  refine C52 (z3.mono x4) z4' lad lcb ?_
  intro g5 x5
  exact hk g5 (xx.trans (x3.trans (x4.trans x5)))

theorem numS1 : numS ((1 : Nat) : Int) = [49] := by decide +kernel

theorem isgn_neg (x : Int) : decide (isgn x < 0) = decide (x < 0) := by
  unfold isgn
  refine decide_eq_decide.2 ?_
  split
  · omega
  · split <;> omega

theorem Rows'.flat_bits {W : List Tx} (ok : Ok W) {x : List Tx} (h : Rows' W x) : bitsB x.flatten = true := by
  induction x with
  | nil => rfl
  | cons v x ih =>
    rw [List.flatten_cons]
    exact bits_app (ok.bt v (h v List.mem_cons_self)) (ih h.tail)

theorem chkT {W : List Tx} (ok : Ok W) (h0 : W ≠ []) {s : Tx} (hs : s.length ≤ 200) (hb : bitsB s = true) : chkE W s = 0 := by
  have := ok.few
  unfold chkE
  rw [if_neg (by omega), if_neg (by simp [h0, hb]), if_pos ⟨ok.nd, fun w hw => ⟨ok.ne w hw, ok.le w hw, ok.bt w hw⟩⟩]

/-- Readings of a text of a code. -/
theorem readC {b : Nat} {v : Value} {W : List Tx} {s : Tx} {h : Heap} {K : Value → Heap → Prop} (ok : Ok W) (h0 : W ≠ []) (hv : OwnS b h 9 v (W.map S)) (hs : s.length ≤ 200) (hb : bitsB s = true)
    (hk : rdN W s s.length < bigW → ∀ h', EX h h' → K (.tuple #[S (numS (rdN W s s.length : Nat)), I 0]) h') : CallP Tryz.prog 10 [v, S s] h K :=
  C10 hv (ok_len ok).1 (ok_len ok).2 (by omega) (fun hc => absurd (chkT ok h0 hs hb) hc) fun _ => hk (small hs (by
    have hl := rdL_len W s s.length
    have := rdL_le (W := W) ok.few s s.length (rdN W s s.length) (by
      rw [rdN, List.getD_eq_getElem?_getD, List.getElem?_eq_getElem (by omega)]
      exact List.getElem_mem _)
    exact this))

section
variable {K : Value → Heap → Prop} (hk : ∀ h', K (B true) h')
include hk

theorem end3 (e : Int) (he : e = 0 ∨ e = 5) (g : Heap) : p3z53 Tryz.prog K (I e) g := by
  have last : p3z60 Tryz.prog K (B true) g := by
    rw [q3z60]
    simp only [GdP_tt]
    refine C15 ?_
    rw [q3z62]
    simp only [iPick_t, OP_some]
    exact hk _
  rw [q3z53]
  rcases he with rfl | rfl
  · simp only [bin_eql, decide_true, OP_some, q3z56, GdP_tf, q3z58, iPick_t]
    exact last
  · have e0 : decide ((5 : Int) = 0) = false := rfl
    simp only [bin_eql, e0, decide_true, OP_some, q3z56, GdP_ff, q3z58, iPick_f]
    exact last

theorem loop3 {b : Nat} {y v : Value} {ys : List Int} {W : List Tx} {s : Tx} {e : Int} {g : Heap} (ok : Ok W) (h0 : W ≠ []) (hy : INS g 5 .u8 y ys) (hys : ∀ x ∈ ys, 0 ≤ x ∧ x < 256) (hv : OwnS b g 9 v (W.map S))
    (he : e = 5 ∧ (∀ t, ¬ Amb W t) ∨ e = 0 ∧ ∀ t, Amb W t → s.length ≤ t.length) : p3z21 Tryz.prog K y v (S s) (I e) g := by
  have few := ok.few
  have he' : e = 0 ∨ e = 5 := he.elim (fun h => .inr h.1) fun h => .inl h.1
  rw [q3z21]
  refine loopL (σ := Nat × List Tx × Heap) (fun q => [S q.2.1.flatten, I q.1]) (fun q => q.2.2) (fun q => q.1 ≤ 12 ∧ Rows' W q.2.1 ∧ q.2.1.flatten.length ≤ 200 ∧ EX g q.2.2) (fun q => 12 - q.1) (0, [], g) rfl rfl ⟨Nat.zero_le _, fun w hw => by simp at hw, by simp, EX.refl g⟩ ?_
  rintro ⟨i, x, g1⟩ ⟨hi, hx, hxl, xg⟩ L hL
  simp only at hi hx hxl xg hL ⊢
  have hy1 : INS g1 5 .u8 y ys := IS.mono xg hy
  have hyl : iLenSl y = some (I ys.length) := IS.len hy1
  have hv1 := own9 xg hv
  have hs := own_ss hv1
  rw [q3z26]
  simp only [hyl, OP_some, bin_lss]
  rw [q3z30]
  by_cases h1 : i < ys.length
  · rw [decide_eq_true (show (i : Int) < ys.length by omega)]
    simp only [GdP_tt, bin_lss, OP_some]
    rw [q3z32]
    by_cases h2 : i < 12
    · rw [decide_eq_true (show (i : Int) < 12 by omega)]
      obtain ⟨bb, o, a1, a2⟩ := INS.at hy1 h1
      have hyi := hys _ (List.getElem_mem h1)
      obtain ⟨m, hm⟩ : ∃ m : Nat, ys[i] = (m : Int) := ⟨ys[i].toNat, by omega⟩
      rw [hm] at a2 hyi
      have wp : 0 < W.length := List.length_pos_iff.2 h0
      have cx : iConv .i64 (.int .u8 (m : Int)) = some (I m) := by rw [conv_int, wrap64 (by omega) (by omega)]
      have rm : iBin .rem (I m) (I W.length) = some (I ((m % W.length : Nat) : Int)) := rem_nat .i64 m W.length (by omega)
      have hlt := Nat.mod_lt m wp
      obtain ⟨b2, o2, c1, c2⟩ := hs.get _ hlt
      have mem := List.getElem_mem hlt
      have wl := ok.le _ mem
      have fl : x.flatten ++ W[m % W.length] = (x ++ [W[m % W.length]]).flatten := by simp
      have hx' : Rows' W (x ++ [W[m % W.length]]) := hx.snoc mem
      simp only [iPick_t, OP_some, IfP_true, a1, a2, cx, hs.len, rm, c1, c2, bin_addS (a := x.flatten) (b := W[m % W.length]) (by simp only [maxLen]; omega), lenS_S, bin_gtr, IfP_dec, fl]
      refine ⟨fun _ => end3 hk e he' g1, fun hlen => ?_⟩
      have hlen : (x ++ [W[m % W.length]]).flatten.length ≤ 200 := by omega
      refine readC ok h0 hv1 hlen (hx'.flat_bits ok) ?_
      intro _ g2 x2
      have next : L [S (x ++ [W[m % W.length]]).flatten, I ((i + 1 : Nat) : Int)] g2 := hL (i + 1, x ++ [W[m % W.length]], g2) ⟨by show i + 1 ≤ 12; omega, hx', hlen, xg.trans x2⟩ (by show 12 - (i + 1) < 12 - i; omega)
      have w := inc i (by omega)
      simp only [ext_tuple, pair0, pair1, OP_some, bin_neq, decide_true, Bool.not_true, q3z41, GdP_ff]
      have one : ¬ Amb W (x ++ [W[m % W.length]]).flatten → iBin .neq (S (numS (rdN W (x ++ [W[m % W.length]]).flatten (x ++ [W[m % W.length]]).flatten.length : Nat))) (.string ⟨#[49]⟩) = some (B false) := fun hn => by
        rw [rd_one ok.nd ok.ne hx' rfl hn, numS1]
        rfl
      rcases he with ⟨rfl, hn⟩ | ⟨rfl, hle⟩
      · have e5 : decide ((5 : Int) = 0) = false := rfl
        simp only [e5, Bool.not_false, q3z43, GdP_tf, q3z45, GdP_ff, iPick_t, OP_some, q3z47, GdP_tt, one (hn _), q3z49, q3z51, iPick_f, IfP_false, bin_add, w, true_and]
        exact next
      · simp only [decide_true, Bool.not_true, q3z43, GdP_ff, lenS_S, OP_some, bin_lss, q3z45, iPick_f, q3z47]
        by_cases hsh : (x ++ [W[m % W.length]]).flatten.length < s.length
        · rw [decide_eq_true (show ((x ++ [W[m % W.length]]).flatten.length : Int) < s.length by omega)]
          have hna : ¬ Amb W (x ++ [W[m % W.length]]).flatten := fun ha => by have := hle _ ha; omega
          simp only [GdP_tt, one hna, OP_some, q3z49, GdP_ff, iPick_t, q3z51, iPick_f, IfP_false, bin_add, w, true_and]
          exact next
        · rw [decide_eq_false (show ¬ ((x ++ [W[m % W.length]]).flatten.length : Int) < s.length by omega)]
          simp only [GdP_ft, q3z49, GdP_ff, iPick_f, OP_some, q3z51, IfP_false, bin_add, w, true_and]
          exact next
    · rw [decide_eq_false (show ¬ (i : Int) < 12 by omega)]
      simp only [iPick_t, OP_some, IfP_false]
      exact end3 hk e he' g1
  · rw [decide_eq_false (show ¬ (i : Int) < ys.length by omega)]
    simp only [GdP_ft]
    rw [q3z32]
    simp only [iPick_f, OP_some, IfP_false]
    exact end3 hk e he' g1

end

theorem C3 {vx vy : Value} {ns ys : List Int} {h : Heap} {K : Value → Heap → Prop} (hv : INS h 73 .u16 vx ns) (hnl : ns.length ≤ maxLen) (hns : ∀ x ∈ ns, 0 ≤ x ∧ x < 65536) (hy : INS h 5 .u8 vy ys) (hys : ∀ x ∈ ys, 0 ≤ x ∧ x < 256) (hk : ∀ h', K (B true) h') : CallP Tryz.prog 3 [vx, vy] h K := by
  refine f3 (C8 hv hnl hns ?_)
  intro W u h1 ok h0 x1 own
  have hy1 : INS h1 5 .u8 vy ys := IS.mono x1 hy
  refine clearC ok h0 own (fun hno h2 x2 => ?_) (fun t r hle h2 x2 => ?_)
  · have e5 : decide ((5 : Int) = 0) = false := rfl
    simp only [ext_tuple, pair0, pair1, OP_some, bin_eql, e5]
    rw [q3z7]
    simp only [GdP_ft, q3z9, iPick_f, OP_some, IfP_false]
    refine loop3 hk ok h0 (IS.mono x2 hy1) hys (own9 x2 own) (.inl ⟨rfl, fun t ha => ?_⟩)
    obtain ⟨t', r, _⟩ := ha.rc ok.ne
    exact hno t' r
  · have least : ∀ t', Amb W t' → t.length ≤ t'.length := fun t' ha => by
      obtain ⟨t2, r2, l2⟩ := ha.rc ok.ne
      have := rk_len (hle t2 r2)
      omega
    simp only [ext_tuple, pair0, pair1, OP_some, bin_eql, decide_true]
    rw [q3z7]
    simp only [GdP_tt, lenS_S, OP_some, bin_leq]
    rw [q3z9]
    simp only [iPick_t, OP_some, IfP_dec]
    refine ⟨fun hl => ?_, fun hl => loop3 hk ok h0 (IS.mono x2 hy1) hys (own9 x2 own) (.inr ⟨rfl, least⟩)⟩
    refine readC ok h0 (own9 x2 own) (by omega) (r.key ok).2 ?_
    intro hbig h3 x3
    have two := rd_amb ok.ne r.amb
    generalize rdN W t t.length = n at two hbig
    simp only [ext_tuple, pair0, pair1, OP_some, bin_neq, decide_true, Bool.not_true, q3z13, GdP_ff]
    have nb : (n : Int).natAbs < bigW := by rw [Int.natAbs_natCast]; exact hbig
    have b1 : (1 : Int).natAbs < bigW := lt_bigW (by decide)
    have b2 : (2 : Int).natAbs < bigW := lt_bigW (by decide)
    refine C11 nb ?_
    intro h4 x4
    simp only [un_not, OP_some, Bool.not_true, q3z15, iPick_f, q3z17, GdP_ff]
    refine C13 nb ?_
    intro r5 h5 x5 q5
    refine C14 (by decide) ?_
    intro r6 h6 x6 q6
    refine C12 (q5.mono x6) q6 nb b1 b2 b1 (by rw [Int.mul_one]; exact nb) (by decide) ?_
    intro h7 x7
    have xx := x2.trans (x3.trans (x4.trans (x5.trans (x6.trans x7))))
    have sg : decide (isgn ((n : Int) * 1 - 2 * 1) < 0) = false := by rw [isgn_neg]; exact decide_eq_false (by omega)
    simp only [bin_lss, sg, OP_some, q3z19, iPick_f, IfP_false]
    exact loop3 hk ok h0 (IS.mono xx hy1) hys (own9 xx own) (.inr ⟨rfl, least⟩)

end Go.Proofs.YthplaillblmgfaaGreatDoor

