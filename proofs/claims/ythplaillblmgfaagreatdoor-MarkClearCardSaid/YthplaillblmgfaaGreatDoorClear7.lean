/-
  Part 7 of the texts behind a statement of this seat: Rd2, Rd4, HMk14, Rd5, Rd6, HZR2, HZq2, HZR3, HNC, Rd3, Rd7, Rd8.
-/
import Derived.Test.YthplaillblmgfaaGreatDoorProg
import Derived.KernelRfl
import Derived.Test.YthplaillblmgfaaGreatDoorClear6
namespace Go.Proofs.YthplaillblmgfaaGreatDoor
open Go.Sim

theorem C84 {s p : Tx} {h : Heap} {K : Value → Heap → Prop} (hk : K (B (decide (p <:+ s))) h) (hs : s.length < 4611686018427387904) : CallP Tryz.prog 84 [S s, S p] h K := by
  refine f84 ?_
  unfold T84
  simp only [lenS_S, OP_some, bin_geq]
  rw [q84z4]
  by_cases hl : p.length ≤ s.length
  · rw [decide_eq_true (show (p.length : Int) ≤ s.length by omega)]
    have w : IntKind.wrap .i64 ((s.length : Int) - p.length) = ((s.length - p.length : Nat) : Int) := by rw [wrap64 (by omega) (by omega)]; omega
    simp only [GdP_tt, lenS_S, OP_some, bin_sub, w, slS_lo (a := s) (n := s.length - p.length) (by omega) .i64, bin_eqlS]
    rw [q84z6]
    simp only [iPick_t, OP_some]
    have : decide (s.drop (s.length - p.length) = p) = decide (p <:+ s) := decide_eq_decide.2 (by rw [List.suffix_iff_eq_drop]; exact eq_comm)
    rw [this]
    exact hk
  · rw [decide_eq_false (show ¬ (p.length : Int) ≤ s.length by omega)]
    simp only [GdP_ft, OP_some]
    rw [q84z6]
    simp only [iPick_f, OP_some]
    have : decide (p <:+ s) = false := decide_eq_false fun h => hl h.length_le
    rw [this] at hk
    exact hk

/-- Keeps what begins with a digit of the program's numbers. -/
def isW : Value → Bool
  | .int .u32 _ => true
  | _ => false

theorem DSw.keep {e : TypeId} {h h' : Heap} {v : Value} {xs : List Nat} (x : KP isW h h') (p : DS e .u32 h v xs) : DS e .u32 h' v xs := by
  refine p.imp id fun ⟨i, a, b⟩ => ⟨i, a, ?_⟩
  cases xs with
  | nil => exact .inl rfl
  | cons y ys =>
    obtain ⟨r, c⟩ := b.resolve_left (by simp)
    exact .inr ⟨r, x i _ _ c rfl⟩

theorem MagV.keep {h h' : Heap} {v : Value} {n : Nat} (x : KP isW h h') (p : MagV h v n) : MagV h' v n := let ⟨xs, a, b, c⟩ := p; ⟨xs, DSw.keep x a, b, c⟩
theorem IntV.keep {h h' : Heap} {v : Value} {a : Int} (x : KP isW h h') (p : IntV h v a) : IntV h' v a := let ⟨u, e, m⟩ := p; ⟨u, e, m.keep x⟩

/-- Numbers that are being gathered. -/
def OwnI (b : Nat) (h : Heap) (v : Value) (zs : List Nat) : Prop :=
  ∃ rows, OwnR b h 81 2 v rows ∧ rows.length = zs.length ∧ (∀ r ∈ rows, ∃ s t, r = .bool s :: t) ∧ ∀ (k : Nat) (row : List Value) (z : Nat), rows[k]? = some row → zs[k]? = some z → IntV h (.agg row.toArray) z

theorem flat_bool {rows : List (List Value)} (h : ∀ r ∈ rows, ∃ s t, r = .bool s :: t) : ∀ c r, rows.flatten = c :: r → isW c = false := by
  intro c r hc
  cases rows with
  | nil => simp at hc
  | cons x xs =>
    obtain ⟨s, t, rfl⟩ := h x (by simp)
    simp at hc
    rw [← hc.1]; rfl

theorem OwnI.ex {b : Nat} {h h' : Heap} {v : Value} {zs : List Nat} (x : EX h h') (o : OwnI b h v zs) : OwnI b h' v zs :=
  let ⟨rows, a, c, e, d⟩ := o; ⟨rows, a.ex x, c, e, fun k r q h1 h2 => (d k r q h1 h2).mono x⟩

/-- Another cell is written. -/
theorem OwnI.set {b : Nat} {h : Heap} {v : Value} {zs : List Nat} {j : Nat} {e : TypeId} {s : Bool} {r : List Value} (o : OwnI b h v zs) (hj : h[j]? = some (.arr e (.bool s :: r))) (hne : ∀ n, v ≠ sl 81 j 0 n) (ob : IObj) : OwnI b (h.set j ob) v zs :=
  let ⟨rows, a, c, e', d⟩ := o
  ⟨rows, a.keep fun d' n hv _ => List.getElem?_set_ne fun hjd => by subst hjd; exact hne n hv, c, e', fun k r q h1 h2 => (d k r q h1 h2).setB hj ob⟩

theorem OwnI.get {b : Nat} {h : Heap} {v : Value} {zs : List Nat} (p : OwnI b h v zs) {k : Nat} (hk : k < zs.length) : ∃ i o r, iAdrSl 2 v (I k) = some (pt i o) ∧ iLoad true 2 h (pt i o) = some r ∧ IntV h r zs[k] := by
  obtain ⟨rows, a, b, _, c⟩ := p
  have hk' : k < rows.length := by omega
  obtain ⟨i, o, cs, g1, g2, g3, g4⟩ := a.rs.get hk'
  exact ⟨i, o, _, g1, row_all g2 g3 g4, c k _ _ (List.getElem?_eq_getElem hk') (List.getElem?_eq_getElem hk)⟩

theorem IntV.cells {h : Heap} {v : Value} {a : Int} (p : IntV h v a) : noTuple v = true ∧ ∃ s u, v = .agg #[B s, u] ∧ vcells v = [B s, u] := by
  obtain ⟨u, rfl, _⟩ := p
  exact ⟨rfl, _, _, rfl, rfl⟩

theorem OwnI.app {h0 h : Heap} {v x : Value} {a : Nat} {zs : List Nat} {z0 : List Value} {K : Value → Heap → Prop} (o : OwnI h0.length h v zs) (hex : EX h0 h) (hx : IntV h x a) (hz : z0.length = 2) (hl : zs.length ≤ 10000)
    (hk : ∀ v' h', EX h0 h' → OwnI h0.length h' v' (zs ++ [a]) → K v' h') : OH (iMkSl 81 1 z0 h [(0, 2, x)]) fun y h2 => OH (iApp 81 2 32 h2 v y) K := by
  obtain ⟨rows, o1, o2, o3, o4⟩ := o
  obtain ⟨t1, s, u, e1, e2⟩ := hx.cells
  refine o1.app hex hz t1 e2 rfl (by omega) (by simp [maxLen]; omega) ?_
  intro v' h' x' hold o'
  have kp : KP isW h h' := o1.kp (flat_bool o3) hold
  refine hk v' h' x' ⟨_, o', by simp [o2], fun r hr => ?_, fun k row q h1 h2 => ?_⟩
  · rcases List.mem_append.1 hr with hr | hr
    · exact o3 r hr
    · rw [List.mem_singleton.1 hr]; exact ⟨s, _, rfl⟩
  · by_cases hk : k < rows.length
    · rw [List.getElem?_append_left hk] at h1
      rw [List.getElem?_append_left (by omega)] at h2
      exact (o4 k row q h1 h2).keep kp
    · rw [List.getElem?_append_right (by omega)] at h1
      rw [List.getElem?_append_right (by omega), ← o2] at h2
      have h0 : k - rows.length = 0 := by
        have := (List.getElem?_eq_some_iff.1 h1).1
        simp at this; omega
      rw [h0] at h1 h2
      simp only [List.getElem?_cons_zero, Option.some.injEq] at h1 h2
      subst h1 h2
      rw [← e1]
      exact hx.keep kp

theorem small {n i : Nat} (hi : i ≤ 200) (h : n ≤ 12 ^ i) : n < bigW := by
  have h1 : 12 ^ i ≤ 16 ^ 200 := Nat.le_trans (Nat.pow_le_pow_left (by omega) i) (Nat.pow_le_pow_right (by omega) hi)
  have h2 : (16 : Nat) ^ 200 = 4294967296 ^ 25 := by rw [show (4294967296 : Nat) = 16 ^ 8 by decide, ← Nat.pow_mul]
  have h3 : (4294967296 : Nat) ^ 25 < 4294967296 ^ 100 := Nat.pow_lt_pow_right (by decide) (by decide)
  unfold bigW
  omega

theorem C10 {b : Nat} {v : Value} {W : List Tx} {s : Tx} {h : Heap} {K : Value → Heap → Prop} (hv : OwnS b h 9 v (W.map S)) (hl : W.length < 1000000) (hw : ∀ w ∈ W, w.length < 4611686018427387904) (hsl : s.length < 4611686018427387904)
    (he : chkE W s ≠ 0 → ∀ h', EX h h' → K (.tuple #[S [], I (chkE W s)]) h')
    (hk : chkE W s = 0 → ∀ h', EX h h' → K (.tuple #[S (numS (rdN W s s.length : Nat)), I 0]) h') : CallP Tryz.prog 10 [v, S s] h K := by
  refine f10 (C40 hv hl hw hsl ?_)
  intro h1 x1
  simp only [bin_neq, OP_some, IfP_ndec]
  refine ⟨fun hc => he hc h1 x1, fun hc => ?_⟩
  have hk := hk hc
  have ok : s.length ≤ 200 ∧ Ok W := by
    unfold chkE at hc
    split at hc
    · cases hc
    · rename_i g1
      split at hc
      · cases hc
      · split at hc
        · rename_i g3
          exact ⟨by omega, ⟨g3.1, fun w hw => (g3.2 w hw).1, fun w hw => (g3.2 w hw).2.1, fun w hw => (g3.2 w hw).2.2, by omega⟩⟩
        · cases hc
  obtain ⟨sl, ok⟩ := ok
  have few := ok.few
  have hs := (own_ss hv).mono x1
  refine C46 (by omega) (by omega) ?_
  intro r1 h2 x2 q1
  have start : OH (iMkSl 81 1 [(.bool false), (.slice none 0 0)] h2 [(0, 2, r1)]) fun x19 h_3 => LoopP [x19, (.int .i64 (1))] h_3 fun L1 xs hx => p10z10 Tryz.prog K v (S s) L1 xs hx := by
    obtain ⟨t1, sb, u, e1, e2⟩ := q1.cells
    have e0 : iMkSl 81 1 [(.bool false), (.slice none 0 0)] h2 [(0, 2, r1)] = some (Go.Sim.sl 81 h2.length 0 1, h2 ++ [.arr 81 [B sb, u]]) := by
      simp [iMkSl, fillL, zrep, t1, e2, setAt]
    rw [e0]
    simp only [OH_some]
    have x3 : EX h1 (h2 ++ [.arr 81 [B sb, u]]) := x2.trans (EX.append _ _)
    have own0 : OwnI h1.length (h2 ++ [.arr 81 [B sb, u]]) (Go.Sim.sl 81 h2.length 0 1) [1] :=
      ⟨[[B sb, u]], ⟨fun r hr => by rw [List.mem_singleton.1 hr]; rfl, .inr ⟨h2.length, x2.1, rfl, by simp⟩⟩, rfl, fun r hr => by rw [List.mem_singleton.1 hr]; exact ⟨_, _, rfl⟩, fun k row z g1 g2 => by
        have hk0 : k = 0 := by have := (List.getElem?_eq_some_iff.1 g1).1; simp at this; omega
        subst hk0
        simp at g1 g2
        subst g1 g2
        have := q1.mono (EX.append h2 [.arr 81 [B sb, u]])
        rw [e1] at this
        exact this⟩
    refine loopL (σ := Nat × Value × Heap) (fun q => [q.2.1, I ((q.1 : Int) + 1)]) (fun q => q.2.2) (fun q => q.1 ≤ s.length ∧ EX h1 q.2.2 ∧ OwnI h1.length q.2.2 q.2.1 (rdL W s q.1)) (fun q => s.length - q.1) (0, _, _) rfl rfl ⟨Nat.zero_le _, x3, own0⟩ ?_
    rintro ⟨i, vo, g⟩ ⟨hi, xg, own⟩ L hL
    simp only at hi xg own hL ⊢
    have le := rdL_le (W := W) few s i
    have ll := rdL_len W s i
    rw [q10z10]
    simp only [lenS_S, OP_some, bin_leq, IfP_dec]
    refine ⟨fun hlt => ?_, fun hge => ?_⟩
    · have hlt : i < s.length := by omega
      refine C46 (by omega) (by omega) ?_
      intro r2 g1 y1 z1
      obtain ⟨t2, sb2, u2, f1, f2⟩ := z1.cells
      have al : iAlloc 81 [(.bool false), (.slice none 0 0)] g1 = some (pt g1.length 0, g1 ++ [.arr 81 [(.bool false), (.slice none 0 0)]]) := rfl
      have kj : (g1 ++ [IObj.arr 81 [(.bool false), (.slice none 0 0)]])[g1.length]? = some (.arr 81 [(.bool false), (.slice none 0 0)]) := get_last
      have st : ∀ {g : Heap} {c1 c2 : Value} {x : Value} {sb u}, g[g1.length]? = some (.arr 81 [c1, c2]) → x = .agg #[B sb, u] → oStore 2 g (pt g1.length 0) x = some (undef, g.set g1.length (.arr 81 [B sb, u])) := by
        intro g c1 c2 x sb u hg hx
        subst hx
        simp [oStore, iStore, hg, noTuple, vcells, setAt, Value.cells]
      have hex2 : EX g (g1 ++ [IObj.arr 81 [(.bool false), (.slice none 0 0)]]) := y1.trans (EX.append _ _)
      simp only [al, OH_some, st kj f1, hs.len, OP_some]
      have nev : ∀ n, vo ≠ Go.Sim.sl 81 g1.length 0 n := fun n hv => by
        obtain ⟨rows, a, _⟩ := own
        have := (a.lt hv).2.1
        have := y1.1
        omega
      -- the words one after the other
      refine loopL (σ := Nat × Heap) (fun q => [I q.1]) (fun q => q.2) (fun q => q.1 ≤ W.length ∧ EX g q.2 ∧ OwnI h1.length q.2 vo (rdL W s i) ∧ ∃ sb u, q.2[g1.length]? = some (.arr 81 [B sb, u]) ∧ IntV q.2 (.agg #[B sb, u]) (sumR s (rdL W s i) (i + 1) (W.take q.1) : Nat)) (fun q => W.length - q.1) (0, _) rfl rfl ⟨Nat.zero_le _, hex2.set y1.1 _, (own.ex hex2).set kj nev _, sb2, u2, set_get kj, ?_⟩ ?_
      · have := (z1.mono (EX.append g1 [IObj.arr 81 [(.bool false), (.slice none 0 0)]])).setB kj (.arr 81 [B sb2, u2])
        rw [f1] at this
        simpa [sumR] using this
      rintro ⟨j, ga⟩ ⟨hj, xa, owna, sb3, u3, k3, i3⟩ L2 hL2
      simp only at hj xa owna k3 i3 hL2 ⊢
      have ld : iLoad true 2 ga (pt g1.length 0) = some (.agg #[B sb3, u3]) := by simp [iLoad, objCells, k3, iPart]
      rw [q10z19]
      simp only [bin_lss, OP_some, IfP_dec]
      refine ⟨fun hlt2 => ?_, fun hge2 => ?_⟩
      · have hlt2 : j < W.length := by omega
        obtain ⟨bb, o, a1, a2⟩ := hs.get j hlt2
        have mem := List.getElem_mem hlt2
        have wl := ok.le _ mem
        have wn := List.length_pos_iff.2 (ok.ne _ mem)
        have a3 := EX.load (xg.trans xa) a2
        have tk : iSlS (S s) none (some (I ((i : Int) + 1))) = some (S (s.take (i + 1))) := by
          have := slS_hi (a := s) (n := i + 1) (by omega) .i64
          simpa using this
        have sn := sumR_snoc (s := s) (cs := rdL W s i) (i := i + 1) (W.take j) W[j]
        rw [← List.take_succ_eq_append_getElem hlt2] at sn
        have nx : ∀ gb sb u, EX ga gb ∨ True → EX g gb → OwnI h1.length gb vo (rdL W s i) → gb[g1.length]? = some (.arr 81 [B sb, u]) → IntV gb (.agg #[B sb, u]) (sumR s (rdL W s i) (i + 1) (W.take (j + 1)) : Nat) → p10z26 Tryz.prog K v (S s) vo (I ((i : Int) + 1)) (pt g1.length 0) v (I W.length) (I j) L L2 gb := by
          intro gb sb u _ xb ob kb ib
          rw [q10z26]
          simp only [bin_add, OP_some, inc j (by omega), true_and]
          exact hL2 (j + 1, gb) ⟨hlt2, xb, ob, sb, u, kb, ib⟩ (by show W.length - (j + 1) < W.length - j; omega)
        simp only [a1, a3, OP_some, tk]
        refine f47 (C84 ?_ (by rw [List.length_take]; omega))
        cases hb : decide (W[j] <:+ s.take (i + 1)) with
        | false =>
          have hb' : sufB s (i + 1) W[j] = false := hb
          rw [hb'] at sn
          simp only [Bool.false_eq_true, if_false, Nat.add_zero] at sn
          simp only [IfP_false]
          exact nx ga sb3 u3 (.inr trivial) xa owna k3 (by rw [sn]; exact i3)
        | true =>
          have hb' : sufB s (i + 1) W[j] = true := hb
          rw [hb'] at sn
          simp only [if_true] at sn
          have suf := (of_decide_eq_true hb).length_le
          rw [List.length_take] at suf
          have w : IntKind.wrap .i64 ((i : Int) + 1 - W[j].length) = ((i + 1 - W[j].length : Nat) : Int) := by rw [wrap64 (by omega) (by omega)]; omega
          have hkk : i + 1 - W[j].length < (rdL W s i).length := by omega
          obtain ⟨p, o2, r4, b1, b2, b3⟩ := owna.get hkk
          have ge : (rdL W s i)[i + 1 - W[j].length] = (rdL W s i).getD (i + 1 - W[j].length) 0 := by simp [hkk]
          simp only [IfP_true, ld, OP_some, lenS_S, bin_sub, w, b1, b2, true_and]
          have l1 : sumR s (rdL W s i) (i + 1) (W.take j) ≤ 12 * 12 ^ i := sumR_le (by rw [List.length_take]; omega) le
          have l2 := le _ (List.getElem_mem hkk)
          have p12 : 12 * 12 ^ i = 12 ^ (i + 1) := by rw [Nat.pow_succ, Nat.mul_comm]
          refine C48 i3 b3 (by rw [Int.natAbs_natCast]; exact small (i := i + 1) (by omega) (by omega)) (by rw [Int.natAbs_natCast]; exact small (i := i + 1) (by omega) (by omega)) ?_
          intro r5 gb xb q5
          obtain ⟨t5, sb5, u5, f5, _⟩ := q5.cells
          have kb := xb.get k3
          rw [st kb f5]
          simp only [OH_some]
          have hgb : g.length ≤ g1.length := y1.1
          refine nx _ sb5 u5 (.inr trivial) ((xa.trans xb).set hgb _) ((owna.ex xb).set kb nev _) (set_get kb) ?_
          have := q5.setB kb (.arr 81 [B sb5, u5])
          rw [f5] at this
          rw [sn]
          rw [← ge]
          simpa using this
      · have hjw : j = W.length := by omega
        subst hjw
        rw [List.take_length] at i3
        rw [q10z27]
        simp only [ld, OP_some]
        refine OwnI.app owna (xg.trans xa) i3 rfl (by omega) ?_
        intro v' gc xc ownc
        rw [q10z28]
        have w : IntKind.wrap .i64 ((i : Int) + 1 + 1) = ((i + 1 : Nat) : Int) + 1 := by rw [wrap64 (by omega) (by omega)]; omega
        simp only [bin_add, OP_some, w, true_and]
        exact hL (i + 1, v', gc) ⟨hlt, xc, ownc⟩ (by show s.length - (i + 1) < s.length - i; omega)
    · have hie : i = s.length := by omega
      subst hie
      have hkk : s.length < (rdL W s s.length).length := by omega
      obtain ⟨p, o2, r4, b1, b2, b3⟩ := own.get hkk
      have ge : (rdL W s s.length)[s.length] = rdN W s s.length := by simp [rdN, hkk]
      rw [q10z29]
      simp only [lenS_S, OP_some, b1, b2]
      refine C49 b3 ?_
      intro r5 g5 x5 q5
      have l2 := le _ (List.getElem_mem hkk)
      refine C50 q5 (by rw [Int.natAbs_natCast]; exact small sl l2) ?_
      intro g6 x6
      simp only [ext_tuple, pair0, pair1, OP_some]
      rw [ge]
      exact hk g6 (x1.trans (xg.trans (x5.trans x6)))
  exact start

end Go.Proofs.YthplaillblmgfaaGreatDoor


namespace Go.Proofs.YthplaillblmgfaaGreatDoor
open Go.Sim

def Can (W : List Tx) (s : Tx) (i : Nat) : Prop := ∃ x, Rows' W x ∧ x.flatten = s.drop i
open Classical in
noncomputable def canB (W : List Tx) (s : Tx) (i : Nat) : Bool := decide (Can W s i)
noncomputable def fitB (W : List Tx) (s : Tx) (i : Nat) (w : Tx) : Bool := decide (w <+: s.drop i) && canB W s (i + w.length)

theorem can_end (W : List Tx) (s : Tx) : canB W s s.length = true := by
  simp only [canB, decide_eq_true_eq]
  exact ⟨[], fun w hw => by simp at hw, by simp⟩

theorem can_step {W : List Tx} {s : Tx} {i : Nat} (hi : i < s.length) : canB W s i = true ↔ ∃ w ∈ W, fitB W s i w = true := by
  simp only [fitB, canB, Bool.and_eq_true, decide_eq_true_eq]
  constructor
  · rintro ⟨x, hx, e⟩
    cases x with
    | nil =>
      have := congrArg List.length e
      simp at this
      omega
    | cons w x =>
      rw [List.flatten_cons] at e
      refine ⟨w, hx w List.mem_cons_self, ⟨_, e⟩, x, hx.tail, ?_⟩
      have : (s.drop i).drop w.length = x.flatten := by rw [← e, List.drop_left]
      rw [← this, List.drop_drop]
  · rintro ⟨w, hw, ⟨r, hr⟩, x, hx, e⟩
    refine ⟨w :: x, fun v hv => ?_, ?_⟩
    · rcases List.mem_cons.1 hv with rfl | hv
      · exact hw
      · exact hx v hv
    · rw [List.flatten_cons, e, ← hr, ← List.drop_drop, ← hr, List.drop_left]

structure RH (h g : Heap) (s : Tx) (cells : List Value) (tc ec ea fc : Nat) : Prop where
  ex : EX h g
  b : h.length ≤ tc ∧ h.length ≤ ec ∧ h.length ≤ ea ∧ h.length ≤ fc
  t : g[tc]? = some (.arr 9 [S s])
  e : g[ec]? = some (.arr 95 [sl 4 ea 0 (s.length + 1)])
  a : g[ea]? = some (.arr 4 cells)
  f : g[fc]? = some (.arr 96 [.func (.func 56) #[] #[pt tc 0, pt ec 0]])

variable {h : Heap} {s : Tx} {cells : List Value} {tc ec ea fc : Nat}

theorem RH.push {g g' : Heap} (r : RH h g s cells tc ec ea fc) (x : EX g g') : RH h g' s cells tc ec ea fc := ⟨r.ex.trans x, r.b, x.get r.t, x.get r.e, x.get r.a, x.get r.f⟩

theorem RH.setA {g : Heap} (r : RH h g s cells tc ec ea fc) (cells' : List Value) : RH h (g.set ea (.arr 4 cells')) s cells' tc ec ea fc := by
  have h1 : tc ≠ ea := by rintro rfl; have := r.t.symm.trans r.a; simp at this
  have h2 : ec ≠ ea := by rintro rfl; have := r.e.symm.trans r.a; simp at this
  have h3 : fc ≠ ea := by rintro rfl; have := r.f.symm.trans r.a; simp at this
  exact ⟨r.ex.set r.b.2.2.1 _, r.b, by rw [List.getElem?_set_ne (Ne.symm h1)]; exact r.t, by rw [List.getElem?_set_ne (Ne.symm h2)]; exact r.e, set_get r.a, by rw [List.getElem?_set_ne (Ne.symm h3)]; exact r.f⟩

theorem RH.lt {g : Heap} (r : RH h g s cells tc ec ea fc) : ea < g.length := (List.getElem?_eq_some_iff.1 r.a).1

theorem ld1 {g : Heap} {i : Nat} {e : TypeId} {v : Value} (hg : g[i]? = some (.arr e [v])) : iLoad false 1 g (pt i 0) = some v := by simp [iLoad, objCells, hg, iPart]

theorem C56 {W : List Tx} {g : Heap} {i : Nat} {w : Tx} {K : Value → Heap → Prop} (r : RH h g s cells tc ec ea fc) (hl : s.length ≤ 200) (hi : i ≤ s.length) (hc : w <+: s.drop i → cells[i + w.length]? = some (B (canB W s (i + w.length)))) (hlen : cells.length = s.length + 1) (hk : K (B (fitB W s i w)) g) : CallP Tryz.prog 56 [I i, S w, pt tc 0, pt ec 0] g K := by
  refine f56 ?_
  unfold T56
  simp only [ld1 r.t, OP_some, slS_lo (a := s) hi .i64]
  refine C43 ?_
  rw [q56z4]
  cases hb : decide (w <+: s.drop i) with
  | false =>
    simp only [GdP_ft, OP_some, q56z6, iPick_f]
    have : fitB W s i w = false := by simp only [fitB, hb, Bool.false_and]
    rwa [this] at hk
  | true =>
    have hp := of_decide_eq_true hb
    have hwl := hp.length_le
    rw [List.length_drop] at hwl
    have w1 : IntKind.wrap .i64 ((i : Int) + w.length) = ((i + w.length : Nat) : Int) := by rw [wrap64 (by omega) (by omega)]; omega
    have a1 : iAdrSl 1 (sl 4 ea 0 (s.length + 1)) (I ((i + w.length : Nat) : Int)) = some (pt ea (i + w.length)) := adr_sl (by omega)
    have a2 : iLoad false 1 g (pt ea (i + w.length)) = some (B (canB W s (i + w.length))) := by simp [iLoad, objCells, r.a, iPart, hc hp]
    simp only [GdP_tt, ld1 r.e, lenS_S, OP_some, bin_add, w1, a1, a2, q56z6, iPick_t]
    have : fitB W s i w = canB W s (i + w.length) := by simp only [fitB, hb, Bool.true_and]
    rwa [this] at hk

theorem C59 {v f1 : Value} {W : List Tx} {g : Heap} {p : Tx → Bool} {K : Value → Heap → Prop} (hv : SS g v W) (hl : W.length ≤ 1000) (hp : ∀ w ∈ W, ∀ k : Value → Heap → Prop, k (B (p w)) g → CallVP Tryz.prog f1 [S w] g k)
    (hyes : ∀ j (hj : j < W.length), p W[j] = true → (∀ i (hi : i < W.length), i < j → p W[i] = false) → K (I j) g) (hno : (∀ w ∈ W, p w = false) → K (I (-1)) g) : CallP Tryz.prog 59 [v, f1] g K := by
  refine f59 ?_
  unfold T59
  simp only [hv.len, OP_some]
  refine loopL (σ := Nat) (fun i => [I i]) (fun _ => g) (fun i => i ≤ W.length ∧ ∀ j (hj : j < W.length), j < i → p W[j] = false) (fun i => W.length - i) 0 rfl rfl ⟨Nat.zero_le _, fun _ _ hi => absurd hi (Nat.not_lt_zero _)⟩ ?_
  rintro i ⟨hi, hn⟩ L hL
  rw [q59z5]
  simp only [bin_lss, OP_some, IfP_dec]
  refine ⟨fun hlt => ?_, fun hge => hno fun w hw => ?_⟩
  · have hlt : i < W.length := by omega
    obtain ⟨b, o, a1, a2⟩ := hv.get i hlt
    simp only [a1, a2, OP_some]
    refine hp _ (List.getElem_mem hlt) _ ?_
    cases hb : p W[i] with
    | true =>
      simp only [IfP_true]
      exact hyes i hlt hb fun j hj hji => hn j hj hji
    | false =>
      simp only [IfP_false, bin_add, OP_some, inc i (by omega), true_and]
      refine hL (i + 1) ⟨hlt, fun j hj hji => ?_⟩ (by omega)
      rcases Nat.lt_succ_iff_lt_or_eq.1 hji with h' | h'
      · exact hn j hj h'
      · subst h'; exact hb
  · obtain ⟨j, hj, rfl⟩ := List.getElem_of_mem hw
    exact hn j hj (by omega)

/-- What the closures of the loops say. -/
theorem fitC {W : List Tx} {g : Heap} {F : FuncId} (hF : F = 58 ∨ F = 60) {ic i : Nat} (r : RH h g s cells tc ec ea fc) (hl : s.length ≤ 200) (hi : i ≤ s.length) (hic : g[ic]? = some (.arr 3 [I i])) (hlen : cells.length = s.length + 1)
    (hc : ∀ j, i < j → j ≤ s.length → cells[j]? = some (B (canB W s j))) (hn : ∀ w ∈ W, w ≠ []) : ∀ w ∈ W, ∀ k : Value → Heap → Prop, k (B (fitB W s i w)) g → CallVP Tryz.prog (.func (.func F) #[] #[pt fc 0, pt ic 0]) [S w] g k := by
  intro w hw k hk
  have wp := List.length_pos_iff.2 (hn w hw)
  have core : CallVP Tryz.prog (.func (.func 56) #[] #[pt tc 0, pt ec 0]) [I i, S w] g k := by
    refine callVP_fn (by kernel_rfl) ?_
    show CallP Tryz.prog 56 [I i, S w, pt tc 0, pt ec 0] g k
    exact C56 r hl hi (fun hp => hc _ (by omega) (by have := hp.length_le; rw [List.length_drop] at this; omega)) hlen hk
  rcases hF with rfl | rfl
  · refine callVP_fn (by kernel_rfl) ?_
    show CallP Tryz.prog 58 [S w, pt fc 0, pt ic 0] g k
    refine f58 ?_
    simp only [T58, ld1 r.f, ld1 hic, OP_some]
    exact core
  · refine callVP_fn (by kernel_rfl) ?_
    show CallP Tryz.prog 60 [S w, pt fc 0, pt ic 0] g k
    refine f60 ?_
    simp only [T60, ld1 r.f, ld1 hic, OP_some]
    exact core

theorem al1 (e : TypeId) (z v : Value) (g : Heap) (h1 : noTuple v = true) (h2 : vcells v = [v]) {K : Value → Heap → Prop} (hk : K (pt g.length 0) (g ++ [.arr e [v]])) :
    OH (iAlloc e [z] g) fun c g1 => OH (oStore 1 g1 c v) fun _ g2 => K c g2 := by
  have e1 : iAlloc e [z] g = some (pt g.length 0, g ++ [.arr e [z]]) := rfl
  have k1 : (g ++ [IObj.arr e [z]])[g.length]? = some (.arr e [z]) := get_last
  rw [e1]
  simp only [OH_some]
  rw [store_at k1 (by simp) h1 h2]
  simp only [OH_some]
  have : (g ++ [IObj.arr e [z]]).set g.length (.arr e ([z].set 0 v)) = g ++ [.arr e [v]] := by simp
  rw [this]
  exact hk

/-- The reading that takes the first word that fits, again and again. -/
inductive Grd (W : List Tx) (s : Tx) : Nat → List Nat → Prop
  | nil : Grd W s s.length []
  | cons {i j : Nat} {ix : List Nat} (hj : j < W.length) : i < s.length → fitB W s i W[j] = true → (∀ k (hk : k < W.length), k < j → fitB W s i W[k] = false) → Grd W s (i + W[j].length) ix → Grd W s i (j :: ix)

end Go.Proofs.YthplaillblmgfaaGreatDoor


namespace Go.Proofs.YthplaillblmgfaaGreatDoor
open Go.Sim

theorem app_own {h0 g : Heap} {v x : Value} {xs ys : List Value} {K : Value → Heap → Prop} (own : OwnS h0.length g 3 v xs) (hex : EX h0 g) (hs : sliceCells g 1 x = some ys) (hx : lenOfSl x = some ys.length) (hl : xs.length + ys.length ≤ 1000)
    (hk : ∀ v' g', EX h0 g' → (∀ d, d < g.length → (∀ n, v ≠ sl 3 d 0 n) → g'[d]? = g[d]?) → OwnS h0.length g' 3 v' (xs ++ ys) → K v' g') : OH (iApp 3 1 8 g v x) K := by
  rcases own with ⟨rfl, rfl⟩ | ⟨i, hi, rfl, hg⟩
  · by_cases h0' : ys.length = 0
    · have : ys = [] := List.length_eq_zero_iff.1 h0'
      subst this
      refine OH_of (v := .slice none 0 0) (h := g) ?_ (hk _ _ hex (fun _ _ _ => rfl) (.inl ⟨rfl, rfl⟩))
      simp only [iApp, hs, hx]
      rw [if_pos (by rfl)]
    · refine OH_of (v := sl 3 g.length 0 ys.length) (h := g ++ [.arr 3 ys]) ?_ (hk _ _ (hex.push _) (fun d hd _ => List.getElem?_append_left hd) (.inr ⟨g.length, hex.1, by simp, by simp⟩))
      simp only [iApp, hs, hx]
      simp at hl
      rw [if_neg h0', if_pos ⟨by omega, by simp [maxLen]; omega⟩]
  · have e : xs.length = xs.length * 1 := (Nat.mul_one _).symm
    by_cases h0' : ys.length = 0
    · have : ys = [] := List.length_eq_zero_iff.1 h0'
      subst this
      refine OH_of (v := sl 3 i 0 xs.length) (h := g) ?_ (hk _ _ hex (fun _ _ _ => rfl) (.inr ⟨i, hi, by simp, by simpa using hg⟩))
      simp only [iApp, hs, hx]
      simp only [sl, hg]
      rw [if_pos ⟨trivial, trivial, e, by simp; omega, by simp [maxLen]; omega⟩, if_pos (by rfl)]
    · refine OH_of (v := sl 3 g.length 0 (xs.length + ys.length)) (h := g.set i .dead ++ [.arr 3 (xs ++ ys)]) ?_ (hk _ _ ((hex.set hi _).push _) (fun d hd hne => ?_) (.inr ⟨g.length, hex.1, by simp, by simp⟩))
      · simp only [iApp, hs, hx]
        simp only [sl, hg]
        rw [if_pos ⟨trivial, trivial, e, by omega, by simp [maxLen]; omega⟩, if_neg h0']
      · have hdi : i ≠ d := by rintro rfl; exact hne _ rfl
        rw [List.getElem?_append_left (by simpa using hd), List.getElem?_set_ne hdi]

theorem mk0 (g : Heap) : iMkSl 3 0 [(.int .i64 (0))] g [] = some (sl 3 g.length 0 0, g ++ [.arr 3 []]) := rfl
theorem mk1 (g : Heap) (x : Int) : iMkSl 3 1 [(.int .i64 (0))] g [(0, 1, I x)] = some (sl 3 g.length 0 1, g ++ [.arr 3 [I x]]) := rfl
end Go.Proofs.YthplaillblmgfaaGreatDoor


namespace Go.Proofs.YthplaillblmgfaaGreatDoor
open Go.Sim

noncomputable def cellA (W : List Tx) (s : Tx) (a : Nat) : List Value := (List.range (s.length + 1)).map fun j => B (decide (a ≤ j) && canB W s j)
theorem cellA_len (W : List Tx) (s : Tx) (a : Nat) : (cellA W s a).length = s.length + 1 := by simp [cellA]
theorem cellA_get {W : List Tx} {s : Tx} {a j : Nat} (h1 : a ≤ j) (h2 : j ≤ s.length) : (cellA W s a)[j]? = some (B (canB W s j)) := by
  rw [cellA, List.getElem?_map, List.getElem?_range (by omega)]
  simp [h1]
theorem cellA_set {W : List Tx} {s : Tx} {a : Nat} : (cellA W s (a + 1)).set a (B (canB W s a)) = cellA W s a := by
  apply List.ext_getElem
  · simp [cellA]
  intro j h1 h2
  simp only [cellA, List.length_map, List.length_range] at h2
  rw [List.getElem_set]
  by_cases e : a = j
  · subst e; rw [if_pos rfl]; simp [cellA]
  · rw [if_neg e]
    simp only [cellA, List.getElem_map, List.getElem_range]
    have : decide (a + 1 ≤ j) = decide (a ≤ j) := decide_eq_decide.2 (by omega)
    rw [this]

section
variable {h : Heap} {W : List Tx} {s : Tx} {v : Value} {K : Value → Heap → Prop} {tc ec ea fc : Nat}

/-- Where readings begin, from the end on. -/
theorem endsC (hl : s.length ≤ 200) (few : W.length ≤ 12) (hn : ∀ w ∈ W, w ≠ []) (hv : SS h v W) {ic : Nat} {g : Heap} (r : RH h g s (cellA W s s.length) tc ec ea fc) (hic : g[ic]? = some (.arr 3 [I ((s.length : Int) - 1)]))
    (hk : ∀ g', RH h g' s (cellA W s 0) tc ec ea fc → p17z19 Tryz.prog K v (pt tc 0) (pt ec 0) (pt fc 0) g') : LoopP [pt ic 0] g fun L1 xs hx => p17z12 Tryz.prog K v (pt tc 0) (pt ec 0) (pt fc 0) L1 xs hx := by
  refine loopL (σ := Nat × Nat × Heap) (fun q => [pt q.2.1 0]) (fun q => q.2.2) (fun q => q.1 ≤ s.length ∧ RH h q.2.2 s (cellA W s q.1) tc ec ea fc ∧ q.2.2[q.2.1]? = some (.arr 3 [I ((q.1 : Int) - 1)])) (fun q => q.1) (s.length, ic, g) rfl rfl ⟨Nat.le_refl _, r, hic⟩ ?_
  rintro ⟨a, jc, g1⟩ ⟨ha, r1, hj⟩ L hL
  simp only at ha r1 hj hL ⊢
  rw [q17z12]
  simp only [ld1 hj, OP_some, bin_geq, IfP_dec]
  refine ⟨fun hge => ?_, fun hlt => ?_⟩
  · obtain ⟨a, rfl⟩ : ∃ b, a = b + 1 := ⟨a - 1, by omega⟩
    have ea1 : (((a + 1 : Nat) : Int) - 1) = (a : Int) := by omega
    rw [ea1] at hj
    have jne : jc ≠ ea := by rintro rfl; have := hj.symm.trans r1.a; simp at this
    simp only [ea1, ld1 r1.e, OP_some, true_and]
    have fin : ∀ b : Bool, b = canB W s a → (iLoad false 1 g1 (pt ec 0) = some (sl 4 ea 0 (s.length + 1)) ∧ iLoad false 1 g1 (pt jc 0) = some (I a) ∧ True) ∧
        OP (iAdrSl 1 (sl 4 ea 0 (s.length + 1)) (I a)) fun x40 => OH (oStore 1 g1 x40 (B b)) fun _ h_2 => OP (iLoad false 1 h_2 (pt jc 0)) fun x41 => OH (iAlloc 3 [(.int .i64 (0))] h_2) fun i9_1 h_3 => OH (oStore 1 h_3 i9_1 x41) fun _ h_4 => OP (iLoad false 1 h_4 i9_1) fun x33 => OP (iBin .sub x33 (.int .i64 (1))) fun x34 => OH (oStore 1 h_4 i9_1 x34) fun _ h_5 => L [i9_1] h_5 := by
      rintro b rfl
      refine ⟨⟨ld1 r1.e, ld1 hj, trivial⟩, ?_⟩
      rw [adr_sl (by omega)]
      simp only [OP_some]
      rw [store_at r1.a (by rw [cellA_len]; omega) rfl rfl]
      simp only [OH_some]
      rw [cellA_set]
      have r2 := r1.setA (cellA W s a)
      have hj2 : (g1.set ea (.arr 4 (cellA W s a)))[jc]? = some (.arr 3 [I a]) := by rw [List.getElem?_set_ne (Ne.symm jne)]; exact hj
      generalize g1.set ea (.arr 4 (cellA W s a)) = g2 at r2 hj2 ⊢
      simp only [ld1 hj2, OP_some]
      refine al1 3 _ (I a) g2 rfl rfl ?_
      have k3 : (g2 ++ [IObj.arr 3 [I (a : Int)]])[g2.length]? = some (.arr 3 [I a]) := get_last
      have w : IntKind.wrap .i64 ((a : Int) - 1) = (a : Int) - 1 := wrap64 (by omega) (by omega)
      simp only [ld1 k3, OP_some, bin_sub, w]
      rw [store_at k3 (by simp) rfl rfl]
      simp only [OH_some]
      have eqh : (g2 ++ [IObj.arr 3 [I (a : Int)]]).set g2.length (.arr 3 ([I (a : Int)].set 0 (I ((a : Int) - 1)))) = g2 ++ [.arr 3 [I ((a : Int) - 1)]] := by simp
      rw [eqh]
      exact hL (a, g2.length, g2 ++ [.arr 3 [I ((a : Int) - 1)]]) ⟨by omega, r2.push (EX.append _ _), get_last⟩ (by show a < a + 1; omega)
    refine f57 (C59 (p := fitB W s a) (hv.mono r1.ex) (by omega) (fitC (.inl rfl) r1 hl (by omega) hj (cellA_len ..) (fun j h1 h2 => cellA_get h1 h2) hn) (fun j hj' hb _ => ?_) (fun hno => ?_))
    · have : canB W s a = true := (can_step (by omega)).2 ⟨_, List.getElem_mem hj', hb⟩
      simp only [bin_geq, OP_some]
      rw [decide_eq_true (show (0 : Int) ≤ j by omega)]
      exact fin true this.symm
    · have : canB W s a = false := by
        cases hc : canB W s a with
        | false => rfl
        | true =>
          obtain ⟨w, hw, hf⟩ := (can_step (by omega)).1 hc
          rw [hno w hw] at hf
          cases hf
      have e0 : iBin .geq (I (-1)) (.int .i64 (0)) = some (B false) := rfl
      simp only [e0, OP_some]
      exact fin false this.symm
  · have : a = 0 := by omega
    subst this
    exact hk g1 r1

/-- The words one after the other. -/
theorem takeC (hl : s.length ≤ 200) (few : W.length ≤ 12) (hn : ∀ w ∈ W, w ≠ []) (hle : ∀ w ∈ W, w.length ≤ 10) (hv : SS h v W) {g : Heap} (r : RH h g s (cellA W s 0) tc ec ea fc) (hc0 : canB W s 0 = true)
    (hk : ∀ ix u h', Grd W s 0 ix → EX h h' → OwnS h.length h' 3 u (ix.map fun n : Nat => I n) → K (.tuple #[u, I 0]) h') :
    OH (iAlloc 3 [(.int .i64 (0))] g) fun i11 h_1 => OH (oStore 1 h_1 i11 (.int .i64 (0))) fun _ h_2 => LoopP [(.slice none 0 0), i11] h_2 fun L1 xs hx => p17z27 Tryz.prog K v (pt tc 0) (pt fc 0) L1 xs hx := by
  refine al1 3 _ (I 0) g rfl rfl ?_
  refine loopL (σ := Nat × List Nat × Value × Nat × Heap) (fun q => [q.2.2.1, pt q.2.2.2.1 0]) (fun q => q.2.2.2.2) (fun q => q.1 ≤ s.length ∧ canB W s q.1 = true ∧ q.2.1.length ≤ q.1 ∧ (∀ iy, Grd W s q.1 iy → Grd W s 0 (q.2.1 ++ iy)) ∧ RH h q.2.2.2.2 s (cellA W s 0) tc ec ea fc ∧ q.2.2.2.2[q.2.2.2.1]? = some (.arr 3 [I q.1]) ∧ h.length ≤ q.2.2.2.1 ∧ OwnS h.length q.2.2.2.2 3 q.2.2.1 (q.2.1.map fun n : Nat => I n) ∧ ∀ n, q.2.2.1 ≠ sl 3 q.2.2.2.1 0 n) (fun q => s.length - q.1)
    (0, [], .slice none 0 0, g.length, g ++ [.arr 3 [I 0]]) rfl rfl ⟨Nat.zero_le _, hc0, Nat.le_refl _, fun iy h => h, r.push (EX.append _ _), get_last, r.ex.1, .inl ⟨rfl, rfl⟩, fun n hn => by cases hn⟩ ?_
  rintro ⟨i, ix, vo, ic, g1⟩ ⟨hi, hc, hix, hg, r1, hic, hib, own, nev⟩ L hL
  simp only at hi hc hix hg r1 hic hib own nev hL ⊢
  rw [q17z27]
  simp only [ld1 hic, ld1 r1.t, lenS_S, OP_some, bin_lss, IfP_dec]
  refine ⟨fun hlt => ?_, fun hge => ?_⟩
  · have hlt : i < s.length := by omega
    refine C59 (p := fitB W s i) (hv.mono r1.ex) (by omega) (fitC (.inr rfl) r1 hl hi hic (cellA_len ..) (fun j _ h2 => cellA_get (Nat.zero_le _) h2) hn) (fun j hj hb hfst => ?_) (fun hno => ?_)
    · have wl := hle _ (List.getElem_mem hj)
      have wp := List.length_pos_iff.2 (hn _ (List.getElem_mem hj))
      have hb' : (decide (W[j] <+: s.drop i) && canB W s (i + W[j].length)) = true := hb
      rw [Bool.and_eq_true, decide_eq_true_eq] at hb'
      have hpl := hb'.1.length_le
      rw [List.length_drop] at hpl
      refine app1p own (by simp; omega) (by simp [maxLen]; omega) rfl rfl ?_
      intro w1 g3 _ hlen3 hold hnew
      have keep : ∀ d o, g1[d]? = some o → (∀ xs, o ≠ .arr 3 xs ∨ d = ic) → g3[d]? = some o := by
        intro d o hd hne
        rw [hold d (List.getElem?_eq_some_iff.1 hd).1 fun n hvn => ?_]
        · exact hd
        · have := (own.lt hvn).2.2
          rcases hne (ix.map fun n : Nat => I n) with h1 | rfl
          · exact h1 (Option.some.inj (hd.symm.trans this))
          · exact nev n hvn
      have x3 : EX h g3 := ⟨by have := r1.ex.1; omega, fun d hd => by
        rw [hold d (by have := r1.ex.1; omega) fun n hvn => by have := (own.lt hvn).1; omega]
        exact r1.ex.2 d hd⟩
      have r3 : RH h g3 s (cellA W s 0) tc ec ea fc := ⟨x3, r1.b, keep _ _ r1.t fun xs => .inl (by simp), keep _ _ r1.e fun xs => .inl (by simp), keep _ _ r1.a fun xs => .inl (by simp), keep _ _ r1.f fun xs => .inl (by simp)⟩
      have ic3 : g3[ic]? = some (.arr 3 [I i]) := keep _ _ hic fun xs => .inr rfl
      have icl : ic < g1.length := (List.getElem?_eq_some_iff.1 hic).1
      obtain ⟨bb, o, a1, a2⟩ := (hv.mono x3).get j hj
      have w : IntKind.wrap .i64 ((i : Int) + W[j].length) = ((i + W[j].length : Nat) : Int) := by rw [wrap64 (by omega) (by omega)]; omega
      simp only [OH_some, ld1 ic3, OP_some, a1, a2, lenS_S, bin_add, w, true_and]
      rw [store_at ic3 (by simp) rfl rfl]
      have setn : [I (i : Int)].set 0 (I ((i + W[j].length : Nat) : Int)) = [I ((i + W[j].length : Nat) : Int)] := rfl
      rw [setn]
      simp only [OH_some]
      -- the cell of this turn is written, the next turn has one of its own
      have own3 : OwnS h.length g3 3 (sl 3 (g1.length + 1) 0 ((ix.map fun n : Nat => I n).length + 1)) ((ix ++ [j]).map fun n : Nat => I n) :=
        .inr ⟨g1.length + 1, by have := r1.ex.1; omega, by simp, by rw [List.map_append]; exact hnew⟩
      have nes : ∀ d, (∃ o, g1[d]? = some o ∧ ∀ xs, o ≠ .arr 3 xs) → d ≠ ic := by
        rintro d ⟨o, h1, h2⟩ rfl
        exact h2 _ (Option.some.inj (h1.symm.trans hic))
      have r4 : RH h (g3.set ic (.arr 3 [I ((i + W[j].length : Nat) : Int)])) s (cellA W s 0) tc ec ea fc := by
        refine ⟨x3.set hib _, r1.b, ?_, ?_, ?_, ?_⟩
        · rw [List.getElem?_set_ne (Ne.symm (nes _ ⟨_, r1.t, fun xs => by simp⟩))]; exact r3.t
        · rw [List.getElem?_set_ne (Ne.symm (nes _ ⟨_, r1.e, fun xs => by simp⟩))]; exact r3.e
        · rw [List.getElem?_set_ne (Ne.symm (nes _ ⟨_, r1.a, fun xs => by simp⟩))]; exact r3.a
        · rw [List.getElem?_set_ne (Ne.symm (nes _ ⟨_, r1.f, fun xs => by simp⟩))]; exact r3.f
      have own4 : OwnS h.length (g3.set ic (.arr 3 [I ((i + W[j].length : Nat) : Int)])) 3 (sl 3 (g1.length + 1) 0 ((ix.map fun n : Nat => I n).length + 1)) ((ix ++ [j]).map fun n : Nat => I n) :=
        own3.keep fun d n hvn _ => List.getElem?_set_ne fun e => by
          obtain ⟨e1, _⟩ := sl_inj hvn
          omega
      have ic4 : (g3.set ic (.arr 3 [I ((i + W[j].length : Nat) : Int)]))[ic]? = some (.arr 3 [I ((i + W[j].length : Nat) : Int)]) := set_get ic3
      have len4 : (g3.set ic (.arr 3 [I ((i + W[j].length : Nat) : Int)])).length = g1.length + 2 := by simp [hlen3]
      generalize g3.set ic (.arr 3 [I ((i + W[j].length : Nat) : Int)]) = g4 at r4 own4 ic4 len4 ⊢
      simp only [ld1 ic4, OP_some]
      refine al1 3 _ (I ((i + W[j].length : Nat) : Int)) g4 rfl rfl ?_
      refine hL (i + W[j].length, ix ++ [j], _, g4.length, g4 ++ [.arr 3 [I ((i + W[j].length : Nat) : Int)]]) ⟨by show i + W[j].length ≤ s.length; omega, hb'.2, by show (ix ++ [j]).length ≤ i + W[j].length; simp; omega, fun iy hy => ?_, r4.push (EX.append _ _), get_last, by show h.length ≤ g4.length; have := r1.ex.1; omega, ?_, fun n hvn => ?_⟩ (by show s.length - (i + W[j].length) < s.length - i; omega)
      · show Grd W s 0 ((ix ++ [j]) ++ iy)
        rw [List.append_assoc]
        exact hg _ (Grd.cons hj hlt hb hfst hy)
      · exact own4.keep fun d n hvn hd => (EX.append g4 _).2 d (own4.lt hvn).2.1
      · obtain ⟨e1, _⟩ := sl_inj hvn
        have e1 : g1.length + 1 = g4.length := e1
        omega
    · obtain ⟨w, hw, hf⟩ := (can_step hlt).1 hc
      rw [hno w hw] at hf
      cases hf
  · have : i = s.length := by omega
    subst this
    rw [q17z35]
    have := hg [] Grd.nil
    rw [List.append_nil] at this
    exact hk ix vo g1 this r1.ex own

end

theorem C17 {b : Nat} {v : Value} {W : List Tx} {s : Tx} {h : Heap} {K : Value → Heap → Prop} (hv : OwnS b h 9 v (W.map S)) (hl : W.length < 1000000) (hw : ∀ w ∈ W, w.length < 4611686018427387904) (hsl : s.length < 4611686018427387904)
    (he : chkE W s ≠ 0 → ∀ h', EX h h' → K (.tuple #[.slice none 0 0, I (chkE W s)]) h')
    (hno : chkE W s = 0 → canB W s 0 = false → ∀ h', EX h h' → K (.tuple #[.slice none 0 0, I 5]) h')
    (hk : chkE W s = 0 → canB W s 0 = true → ∀ ix u h', Grd W s 0 ix → EX h h' → OwnS h.length h' 3 u (ix.map fun n : Nat => I n) → K (.tuple #[u, I 0]) h') : CallP Tryz.prog 17 [v, S s] h K := by
  refine f17 ?_
  unfold T17
  have e1 : iBox 9 h (S s) = some (pt h.length 0, h ++ [.arr 9 [S s]]) := rfl
  have x0 : EX h (h ++ [.arr 9 [S s]]) := EX.append _ _
  have t0 : (h ++ [IObj.arr 9 [S s]])[h.length]? = some (.arr 9 [S s]) := get_last
  simp only [e1, OH_some]
  generalize h ++ [IObj.arr 9 [S s]] = g0 at x0 t0 ⊢
  simp only [ld1 t0, OP_some]
  refine C40 (own9 x0 hv) hl hw hsl ?_
  intro g1 x1
  simp only [bin_neq, OP_some, IfP_ndec]
  refine ⟨fun hc => he hc g1 (x0.trans x1), fun hc => ?_⟩
  have hno := hno hc
  have hk := hk hc
  have ok : s.length ≤ 200 ∧ Ok W := by
    unfold chkE at hc
    split at hc
    · cases hc
    · rename_i g1
      split at hc
      · cases hc
      · split at hc
        · rename_i g3
          exact ⟨by omega, ⟨g3.1, fun w hw => (g3.2 w hw).1, fun w hw => (g3.2 w hw).2.1, fun w hw => (g3.2 w hw).2.2, by omega⟩⟩
        · cases hc
  obtain ⟨sl2, ok⟩ := ok
  have t1 := x1.get t0
  have x01 := x0.trans x1
  have w1 : IntKind.wrap .i64 ((s.length : Int) + 1) = ((s.length + 1 : Nat) : Int) := by rw [wrap64 (by omega) (by omega)]; omega
  have mk : iMake 4 1 [(.bool false)] g1 (I ((s.length + 1 : Nat) : Int)) (I ((s.length + 1 : Nat) : Int)) = some (sl 4 g1.length 0 (s.length + 1), g1 ++ [.arr 4 (List.replicate (s.length + 1) (B false))]) := by
    simp only [iMake]
    rw [if_pos (by omega), zrep_one]; rfl
  simp only [ld1 t1, lenS_S, OP_some, bin_add, w1, mk, OH_some]
  have x2 : EX g1 (g1 ++ [.arr 4 (List.replicate (s.length + 1) (B false))]) := EX.append _ _
  have a2 : (g1 ++ [IObj.arr 4 (List.replicate (s.length + 1) (B false))])[g1.length]? = some (.arr 4 (List.replicate (s.length + 1) (B false))) := get_last
  have t2 := x2.get t1
  generalize g1 ++ [IObj.arr 4 (List.replicate (s.length + 1) (B false))] = g2 at x2 a2 t2 ⊢
  refine al1 95 _ (sl 4 g1.length 0 (s.length + 1)) g2 rfl rfl ?_
  have x3 : EX g2 (g2 ++ [.arr 95 [sl 4 g1.length 0 (s.length + 1)]]) := EX.append _ _
  have e3 : (g2 ++ [IObj.arr 95 [sl 4 g1.length 0 (s.length + 1)]])[g2.length]? = some (.arr 95 [sl 4 g1.length 0 (s.length + 1)]) := get_last
  have a3 := x3.get a2
  have t3 := x3.get t2
  generalize g2 ++ [IObj.arr 95 [sl 4 g1.length 0 (s.length + 1)]] = g3 at x3 e3 a3 t3 ⊢
  have ad : iAdrSl 1 (sl 4 g1.length 0 (s.length + 1)) (I s.length) = some (pt g1.length s.length) := adr_sl (by omega)
  simp only [ld1 e3, ld1 t3, lenS_S, OP_some, ad]
  rw [store_at a3 (by simp) rfl rfl]
  simp only [OH_some]
  have cl : (List.replicate (s.length + 1) (B false)).set s.length (.bool true) = cellA W s s.length := by
    apply List.ext_getElem
    · simp [cellA]
    intro j h1 h2
    simp only [cellA, List.length_map, List.length_range] at h2
    rw [List.getElem_set]
    simp only [cellA, List.getElem_map, List.getElem_range, List.getElem_replicate]
    by_cases e : s.length = j
    · subst e; rw [if_pos rfl, can_end]; simp
    · rw [if_neg e, decide_eq_false (by omega)]; rfl
  rw [cl]
  have hg12 : g1.length ≤ g2.length := x2.1
  have ne1 : g2.length ≠ g1.length := by have := (List.getElem?_eq_some_iff.1 a2).1; omega
  have ne2 : h.length ≠ g1.length := by have := (List.getElem?_eq_some_iff.1 t1).1; omega
  have hhg : h.length ≤ g1.length := x01.1
  have x4 : EX h (g3.set g1.length (.arr 4 (cellA W s s.length))) := (x01.trans (x2.trans x3)).set hhg _
  have a4 : (g3.set g1.length (.arr 4 (cellA W s s.length)))[g1.length]? = some (.arr 4 (cellA W s s.length)) := set_get a3
  have e4 : (g3.set g1.length (.arr 4 (cellA W s s.length)))[g2.length]? = some (.arr 95 [sl 4 g1.length 0 (s.length + 1)]) := by rw [List.getElem?_set_ne (Ne.symm ne1)]; exact e3
  have t4 : (g3.set g1.length (.arr 4 (cellA W s s.length)))[h.length]? = some (.arr 9 [S s]) := by rw [List.getElem?_set_ne (Ne.symm ne2)]; exact t3
  generalize g3.set g1.length (.arr 4 (cellA W s s.length)) = g4 at x4 a4 e4 t4 ⊢
  refine al1 96 _ (.func (.func 56) #[] #[pt h.length 0, pt g2.length 0]) g4 rfl rfl ?_
  have x5 : EX g4 (g4 ++ [.arr 96 [.func (.func 56) #[] #[pt h.length 0, pt g2.length 0]]]) := EX.append _ _
  have f5 : (g4 ++ [IObj.arr 96 [.func (.func 56) #[] #[pt h.length 0, pt g2.length 0]]])[g4.length]? = some (.arr 96 [.func (.func 56) #[] #[pt h.length 0, pt g2.length 0]]) := get_last
  have r5 : RH h (g4 ++ [.arr 96 [.func (.func 56) #[] #[pt h.length 0, pt g2.length 0]]]) s (cellA W s s.length) h.length g2.length g1.length g4.length :=
    ⟨x4.trans x5, ⟨Nat.le_refl _, by omega, hhg, x4.1⟩, x5.get t4, x5.get e4, x5.get a4, f5⟩
  generalize g4 ++ [IObj.arr 96 [.func (.func 56) #[] #[pt h.length 0, pt g2.length 0]]] = g5 at r5 ⊢
  have w2 : IntKind.wrap .i64 ((s.length : Int) - 1) = (s.length : Int) - 1 := wrap64 (by omega) (by omega)
  simp only [ld1 r5.t, lenS_S, OP_some, bin_sub, w2]
  refine al1 3 _ (I ((s.length : Int) - 1)) g5 rfl rfl ?_
  refine endsC sl2 ok.few ok.ne (own_ss hv) (r5.push (EX.append _ _)) get_last ?_
  intro g6 r6
  rw [q17z19]
  have ad0 : iAdrSl 1 (sl 4 g1.length 0 (s.length + 1)) (.int .i64 (0)) = some (pt g1.length 0) := adr_sl (j := 0) (by omega)
  have c0 : iLoad false 1 g6 (pt g1.length 0) = some (B (canB W s 0)) := by
    have := cellA_get (W := W) (s := s) (a := 0) (j := 0) (Nat.le_refl _) (Nat.zero_le _)
    simp [iLoad, objCells, r6.a, iPart, this]
  simp only [ld1 r6.e, OP_some, ad0, c0, un_not]
  cases hc0 : canB W s 0 with
  | false =>
    simp only [Bool.not_false, IfP_true]
    exact hno hc0 g6 r6.ex
  | true =>
    simp only [Bool.not_true, IfP_false]
    exact takeC sl2 ok.few ok.ne ok.le (own_ss hv) r6 hc0 (hk hc0)

end Go.Proofs.YthplaillblmgfaaGreatDoor


namespace Go.Proofs.YthplaillblmgfaaGreatDoor
open Go.Sim

theorem nodup_leG {α : Type} [DecidableEq α] : ∀ {l m : List α}, l.Nodup → (∀ a ∈ l, a ∈ m) → l.length ≤ m.length
  | [], _, _, _ => Nat.zero_le _
  | a :: l, m, hn, hm => by
    rw [List.nodup_cons] at hn
    have ha := hm a List.mem_cons_self
    have := nodup_leG (l := l) (m := m.erase a) hn.2 fun b hb => by
      refine (List.mem_erase_of_ne ?_).2 (hm b (List.mem_cons_of_mem _ hb))
      rintro rfl
      exact hn.1 hb
    rw [List.length_erase_of_mem ha] at this
    have := List.length_pos_of_mem ha
    rw [List.length_cons]; omega

theorem flat_nil {W x : List Tx} (hn : ∀ w ∈ W, w ≠ []) (hx : Rows' W x) (e : x.flatten = []) : x = [] := by
  cases x with
  | nil => rfl
  | cons v x =>
    rw [List.flatten_cons, List.append_eq_nil_iff] at e
    exact absurd e.1 (hn v (hx v List.mem_cons_self))

theorem app_inj {W x x' y y' : List Tx} (hn : ∀ w ∈ W, w ≠ []) (hx : Rows' W x) (hx' : Rows' W x') (e : x.flatten = x'.flatten) (h : x ++ y = x' ++ y') : x = x' := by
  have key : ∀ {x x' : List Tx}, Rows' W x' → x.flatten = x'.flatten → x <+: x' → x = x' := by
    rintro x _ hx' e ⟨z, rfl⟩
    rw [List.flatten_append] at e
    have ez : z.flatten = [] := by
      have := congrArg List.length e
      rw [List.length_append] at this
      exact List.length_eq_zero_iff.1 (by omega)
    rw [flat_nil hn (fun w hw => hx' w (by simp [hw])) ez, List.append_nil]
  rcases List.prefix_or_prefix_of_prefix (show x <+: x ++ y from List.prefix_append _ _) (show x' <+: x ++ y from h ▸ List.prefix_append _ _) with hp | hp
  · exact key hx' e hp
  · exact (key hx e.symm hp).symm

/-- Both texts read, each in its ways. -/
theorem rd_mul {W : List Tx} (nd : W.Nodup) (hn : ∀ w ∈ W, w ≠ []) (s t : Tx) : rdN W s s.length * rdN W t t.length ≤ rdN W (s ++ t) (s ++ t).length := by
  simp only [rdN_row]
  have ms := row_mem (W := W) (s := s) hn s.length (Nat.le_refl _) s.length (Nat.le_refl _)
  have mt := row_mem (W := W) (s := t) hn t.length (Nat.le_refl _) t.length (Nat.le_refl _)
  have mb := row_mem (W := W) (s := s ++ t) hn (s ++ t).length (Nat.le_refl _) (s ++ t).length (Nat.le_refl _)
  have ns := row_nodup (W := W) (s := s) nd s.length s.length
  have nt := row_nodup (W := W) (s := t) nd t.length t.length
  simp only [List.take_length] at ms mt mb
  generalize (rowL W s s.length).getD s.length [] = Rs at ms ns
  generalize (rowL W t t.length).getD t.length [] = Rt at mt nt
  generalize (rowL W (s ++ t) (s ++ t).length).getD (s ++ t).length [] = Rb at mb
  have len : ∀ V : List (List Tx), (V.flatMap fun x => Rt.map (x ++ ·)).length = V.length * Rt.length := by
    intro V
    induction V with
    | nil => simp
    | cons v V ih => rw [List.flatMap_cons, List.length_append, ih, List.length_map, List.length_cons, Nat.succ_mul, Nat.add_comm]
  rw [← len Rs]
  have nodup : ∀ V : List (List Tx), V.Nodup → (∀ x ∈ V, x ∈ Rs) → (V.flatMap fun x => Rt.map (x ++ ·)).Nodup := by
    intro V hv hm
    induction V with
    | nil => exact List.nodup_nil
    | cons v V ih =>
      rw [List.nodup_cons] at hv
      rw [List.flatMap_cons]
      refine List.nodup_append.2 ⟨List.pairwise_map.2 (nt.imp fun h e => h (List.append_cancel_left e)), ih hv.2 fun x hx => hm x (List.mem_cons_of_mem _ hx), fun a ha b hb e => ?_⟩
      obtain ⟨y, _, rfl⟩ := List.mem_map.1 ha
      obtain ⟨x', hx', hb'⟩ := List.mem_flatMap.1 hb
      obtain ⟨y', _, rfl⟩ := List.mem_map.1 hb'
      obtain ⟨a1, a2⟩ := (ms v).1 (hm v List.mem_cons_self)
      obtain ⟨b1, b2⟩ := (ms x').1 (hm x' (List.mem_cons_of_mem _ hx'))
      have := app_inj hn a1 b1 (a2.trans b2.symm) e
      subst this
      exact hv.1 hx'
  refine nodup_leG (nodup Rs ns fun x hx => hx) fun z hz => ?_
  obtain ⟨x, hx, hz'⟩ := List.mem_flatMap.1 hz
  obtain ⟨y, hy, rfl⟩ := List.mem_map.1 hz'
  obtain ⟨a1, a2⟩ := (ms x).1 hx
  obtain ⟨b1, b2⟩ := (mt y).1 hy
  refine (mb _).2 ⟨fun w hw => ?_, by rw [List.flatten_append, a2, b2]⟩
  rcases List.mem_append.1 hw with hw | hw
  · exact a1 w hw
  · exact b1 w hw

/-- The words of numbers. -/
def wds (W : List Tx) (ix : List Nat) : List Tx := ix.map fun j => W.getD j []

theorem getD_mem {W : List Tx} {j : Nat} (hj : j < W.length) : W.getD j [] = W[j] := by simp [hj]

theorem wds_rows {W : List Tx} {ix : List Nat} (h : ∀ j ∈ ix, j < W.length) : Rows' W (wds W ix) := fun w hw => by
  obtain ⟨j, hj, rfl⟩ := List.mem_map.1 hw
  rw [getD_mem (h j hj)]
  exact List.getElem_mem _

theorem wds_inj {W : List Tx} (nd : W.Nodup) : ∀ {ix iy : List Nat}, (∀ j ∈ ix, j < W.length) → (∀ j ∈ iy, j < W.length) → wds W ix = wds W iy → ix = iy
  | [], [], _, _, _ => rfl
  | [], _ :: _, _, _, e => by simp [wds] at e
  | _ :: _, [], _, _, e => by simp [wds] at e
  | i :: ix, j :: iy, h1, h2, e => by
    simp only [wds, List.map_cons, List.cons.injEq] at e
    have hi := h1 i List.mem_cons_self
    have hj := h2 j List.mem_cons_self
    rw [getD_mem hi, getD_mem hj] at e
    have : i = j := by
      apply Classical.byContradiction
      intro hne
      rcases Nat.lt_or_gt_of_ne hne with h | h
      · exact (List.pairwise_iff_getElem.1 nd) i j hi hj h e.1
      · exact (List.pairwise_iff_getElem.1 nd) j i hj hi h e.1.symm
    rw [this, wds_inj nd (fun k hk => h1 k (List.mem_cons_of_mem _ hk)) (fun k hk => h2 k (List.mem_cons_of_mem _ hk)) e.2]

theorem Grd.read {W : List Tx} {s : Tx} {i : Nat} {ix : List Nat} (g : Grd W s i ix) : (∀ j ∈ ix, j < W.length) ∧ (wds W ix).flatten = s.drop i := by
  induction g with
  | nil => exact ⟨fun j hj => by simp at hj, by simp [wds]⟩
  | @cons i j ix hj hi hf _ _ ih =>
    refine ⟨fun k hk => ?_, ?_⟩
    · rcases List.mem_cons.1 hk with rfl | hk
      · exact hj
      · exact ih.1 k hk
    · have hp : W[j] <+: s.drop i := by
        simp only [fitB, Bool.and_eq_true, decide_eq_true_eq] at hf
        exact hf.1
      obtain ⟨r, hr⟩ := hp
      have e : wds W (j :: ix) = W[j] :: wds W ix := by simp only [wds, List.map_cons, getD_mem hj]
      rw [e, List.flatten_cons, ih.2, ← List.drop_drop, ← hr, List.drop_left]

/-- Of two rows the first in order. -/
def Lex (a b : List Nat) : Prop := a = b ∨ ∃ k, ∃ (h1 : k < a.length) (h2 : k < b.length), (∀ j (j1 : j < a.length) (j2 : j < b.length), j < k → a[j] = b[j]) ∧ a[k] < b[k]

theorem Lex.cons {a b : List Nat} (x : Nat) (h : Lex a b) : Lex (x :: a) (x :: b) := by
  rcases h with rfl | ⟨k, h1, h2, he, hl⟩
  · exact .inl rfl
  · refine .inr ⟨k + 1, by simp; omega, by simp; omega, fun j j1 j2 hj => ?_, by simpa using hl⟩
    cases j with
    | zero => rfl
    | succ j =>
      simp only [List.getElem_cons_succ]
      exact he j (by simpa using j1) (by simpa using j2) (by omega)

theorem Grd.least {W : List Tx} {s : Tx} (hn : ∀ w ∈ W, w ≠ []) {i : Nat} {ix : List Nat} (g : Grd W s i ix) : ∀ {iy : List Nat}, (∀ j ∈ iy, j < W.length) → (wds W iy).flatten = s.drop i → Lex ix iy := by
  induction g with
  | nil =>
    intro iy h e
    rw [List.drop_length] at e
    have := flat_nil hn (wds_rows h) e
    have : iy = [] := by simpa [wds] using this
    exact .inl this.symm
  | @cons i j ix hj hi hf hfst _ ih =>
    intro iy h e
    cases iy with
    | nil =>
      have := congrArg List.length e
      simp [wds] at this
      omega
    | cons k iy =>
      have hk := h k List.mem_cons_self
      have h' : ∀ a ∈ iy, a < W.length := fun a ha => h a (List.mem_cons_of_mem _ ha)
      have e' : W[k] ++ (wds W iy).flatten = s.drop i := by
        rw [← e]
        simp only [wds, List.map_cons, List.flatten_cons, getD_mem hk]
      have er : (wds W iy).flatten = s.drop (i + W[k].length) := by
        rw [← List.drop_drop, ← e', List.drop_left]
      have fk : fitB W s i W[k] = true := by
        simp only [fitB, canB, Bool.and_eq_true, decide_eq_true_eq]
        exact ⟨⟨_, e'⟩, _, wds_rows h', er⟩
      rcases Nat.lt_trichotomy j k with hlt | heq | hgt
      · exact .inr ⟨0, by simp, by simp, fun a _ _ ha => absurd ha (Nat.not_lt_zero _), by simpa using hlt⟩
      · subst heq
        exact (ih h' er).cons j
      · rw [hfst k hk hgt] at fk
        cases fk

theorem C25x {va vb : Value} {a b : List Nat} {h : Heap} {K : Value → Heap → Prop} (ha : NS h va .i64 (a.map fun l : Nat => (l : Int))) (hb : NS h vb .i64 (b.map fun l : Nat => (l : Int))) (hl : a.length ≤ 1000) (hx : Lex b a) (hk : K (B false) h) : CallP Tryz.prog 25 [va, vb] h K := by
  rcases hx with rfl | ⟨k, h1, h2, he, hlt⟩
  · exact C25 ha hb (by rw [List.length_map]; exact hl) hk
  · refine f25 ?_
    unfold T25
    refine loopL (σ := Nat) (fun i => [I i]) (fun _ => h) (fun i => i ≤ k) (fun i => k - i) 0 rfl rfl (Nat.zero_le _) ?_
    intro i hi L hL
    rw [q25z5]
    simp only [ha.lenN, hb.lenN, OP_some, bin_lss]
    rw [q25z9, decide_eq_true (show (i : Int) < a.length by omega)]
    simp only [GdP_tt, hb.lenN, OP_some, bin_lss]
    rw [q25z11, decide_eq_true (show (i : Int) < b.length by omega)]
    obtain ⟨c, o, a1, a2⟩ := ha.getN (show i < a.length by omega)
    obtain ⟨c', o', b1, b2⟩ := hb.getN (show i < b.length by omega)
    simp only [iPick_t, OP_some, IfP_true, a1, a2, b1, b2, true_and, bin_neq, bin_lss, bin_add, inc i (by omega)]
    by_cases hik : i = k
    · subst hik
      rw [decide_eq_false (show ¬ ((a[i] : Nat) : Int) = (b[i] : Nat) by omega), decide_eq_false (show ¬ ((a[i] : Nat) : Int) < (b[i] : Nat) by omega)]
      simp only [Bool.not_false, IfP_true]
      exact hk
    · have := he i (by omega) (by omega) (by omega)
      rw [decide_eq_true (show ((a[i] : Nat) : Int) = (b[i] : Nat) by omega)]
      simp only [Bool.not_true, IfP_false]
      exact hL (i + 1) (by omega) (by omega)

end Go.Proofs.YthplaillblmgfaaGreatDoor


namespace Go.Proofs.YthplaillblmgfaaGreatDoor
open Go.Sim
variable (P : Program) (K : VK)
/-! F12: pommel/pommelref01.CmpQ -/
noncomputable def c12 : ICode := .seq (.ops none [⟨some 2, .e (.box 38 (.tmp 0))⟩,⟨some 3, .e (.box 38 (.tmp 1))⟩,⟨some 4, .p (.mv (ci (0)))⟩])
 (.seq (.dops [(none, [⟨some 5, .p (.fadr 0 (.tmp 2)), 0⟩,⟨some 6, .l (.load true 2 (.tmp 5)), 1⟩,⟨some 7, .p (.fadr 2 (.tmp 3)), 0⟩,⟨some 8, .l (.load true 2 (.tmp 7)), 4⟩,⟨some 9, .call 53 [(.tmp 6), (.tmp 8)], 15⟩,⟨some 10, .p (.fadr 0 (.tmp 3)), 0⟩,⟨some 11, .l (.load true 2 (.tmp 10)), 32⟩,⟨some 12, .p (.fadr 2 (.tmp 2)), 0⟩,⟨some 13, .l (.load true 2 (.tmp 12)), 128⟩,⟨some 14, .call 53 [(.tmp 11), (.tmp 13)], 511⟩,⟨some 15, .call 52 [(.tmp 9), (.tmp 14)], 1023⟩,gd 4 15 2047])])
 (.ret))
theorem k12 : compFn Tryz.prog 12 [[], []] = some (16, c12, [.tmp 4]) := by kernel_rfl
def T12 (a0 b1 : Value) (h : Heap) : Prop :=
 OH (iBox 38 h a0) fun a2 h_1 =>
 OH (iBox 38 h_1 b1) fun b3 h_2 =>
 OP (iFadr 0 a2) fun x5 =>
 OP (iLoad true 2 h_2 x5) fun x6 =>
 (True) ∧
 OP (iFadr 2 b3) fun x7 =>
 OP (iLoad true 2 h_2 x7) fun x8 =>
 (True) ∧
 CallP P 53 [x6, x8] h_2 fun x9 h_3 =>
 (True) ∧
 OP (iFadr 0 b3) fun x10 =>
 OP (iLoad true 2 h_3 x10) fun x11 =>
 (iLoad true 2 h_2 x10 = some x11 ∧ True) ∧
 OP (iFadr 2 a2) fun x12 =>
 OP (iLoad true 2 h_3 x12) fun x13 =>
 (iLoad true 2 h_2 x12 = some x13 ∧ True) ∧
 CallP P 53 [x11, x13] h_3 fun x14 h_4 =>
 (True) ∧
 CallP P 52 [x9, x14] h_4 fun x15 h_5 =>
 (True) ∧
 K x15 h_5
theorem e12 (a0 b1 : Value) (h : Heap) : iwpP P c12 (bodyP [.tmp 4] K) (frame0 [a0, b1]) h = T12 P K a0 b1 h := by kernel_rfl
theorem f12 {K : VK} {a0 b1 : Value} {h : Heap} (H : T12 Tryz.prog K a0 b1 h) : CallP Tryz.prog 12 [a0, b1] h K :=
 callP_intro k12 (Nat.le_of_ble_eq_true rfl) ((e12 Tryz.prog K a0 b1 h).mpr H)
/-! F21: pommel/pommelref01.Is -/
/-! F36: pommel/pommelref01.Make -/
/-! F64: pommel/pommelref01.Num -/
/-! F73: pommel/pommelref01.Lowest -/
/-! F91: pommel/pommelref01.Gcd -/
/-! F106: pommel/pommelref01.DivMod -/
end Go.Proofs.YthplaillblmgfaaGreatDoor

namespace Go.Proofs.YthplaillblmgfaaGreatDoor
open Go.Sim

theorem RatV.mono {h h' : Heap} {v : Value} {a b : Int} (x : EX h h') (p : RatV h v a b) : RatV h' v a b := let ⟨u, w, e, m, n⟩ := p; ⟨u, w, e, m.mono x, n.mono x⟩
theorem RatV.setB {h : Heap} {v : Value} {a b : Int} {j : Nat} {e : TypeId} {s : Bool} {r : List Value} (p : RatV h v a b) (hj : h[j]? = some (.arr e (.bool s :: r))) (o : IObj) : RatV (h.set j o) v a b :=
  let ⟨u, w, e, m, n⟩ := p; ⟨u, w, e, m.setB hj o, n.setB hj o⟩

end Go.Proofs.YthplaillblmgfaaGreatDoor


namespace Go.Proofs.YthplaillblmgfaaGreatDoor
open Go.Sim
variable (P : Program) (K : VK)
/-! F74: pommel/pommelref01.Over -/
end Go.Proofs.YthplaillblmgfaaGreatDoor

namespace Go.Proofs.YthplaillblmgfaaGreatDoor
open Go.Sim
variable (P : Program) (K : VK)
/-! F3: pommel/pommellaw08.MarkUnclear -/
noncomputable def c3z9 : ICode := .ops none [⟨some 27, .p (.pick (.tmp 23) (.tmp 26) (.const (.bool false)))⟩]
noncomputable def c3z7 : ICode := .seq (.ops (some (23, true)) [gm 24 6,⟨some 25, .p (.lenS (.tmp 24))⟩,⟨some 26, .p (.bin .leq (.tmp 25) (ci (200)))⟩])
 (.cut [1, 5, 6, 7, 23, 26] c3z9)
noncomputable def c3z19 : ICode := .ops none [⟨some 47, .p (.pick (.tmp 41) (.const (.bool true)) (.tmp 46))⟩]
noncomputable def c3z17 : ICode := .seq (.ops (some (41, false)) [gm 42 8,⟨some 43, .call 13 [(.tmp 42)]⟩,⟨some 44, .call 14 [(ci (2))]⟩,⟨some 45, .call 12 [(.tmp 43), (.tmp 44)]⟩,⟨some 46, .p (.bin .lss (.tmp 45) (ci (0)))⟩])
 (.cut [1, 5, 6, 7, 41, 46] c3z19)
noncomputable def c3z15 : ICode := .seq (.ops none [⟨some 40, .p (.pick (.tmp 36) (.const (.bool true)) (.tmp 39))⟩,gm 41 40])
 (.cut [1, 5, 6, 7, 8, 41] c3z17)
noncomputable def c3z13 : ICode := .seq (.ops (some (36, false)) [gm 37 8,⟨some 38, .call 11 [(.tmp 37)]⟩,⟨some 39, .p (.un .not (.tmp 38))⟩])
 (.cut [1, 5, 6, 7, 8, 36, 39] c3z15)
noncomputable def c3z11 : ICode := .cond (.tmp 47) (.seq (.ops none [⟨some 4, .p (.mv (.const (.bool false)))⟩])
 (.ret))
 (.skip)
noncomputable def c3z5 : ICode := .cond (.tmp 27) (.seq (.ops none [gm 29 5,gm 30 6,⟨some 31, .call 10 [(.tmp 29), (.tmp 30)]⟩,gm 28 31,⟨some 32, .p (.ext (.tmp 28) 0)⟩,⟨some 33, .p (.ext (.tmp 28) 1)⟩,gm 8 32,gm 9 33])
 (.seq (.seq (.ops none [gm 34 9,⟨some 35, .p (.bin .neq (.tmp 34) (ci (0)))⟩,gm 36 35])
 (.cut [1, 5, 6, 7, 8, 36] c3z13)) c3z11))
 (.skip)
noncomputable def c3z32 : ICode := .ops none [⟨some 55, .p (.pick (.tmp 52) (.tmp 54) (.const (.bool false)))⟩]
noncomputable def c3z30 : ICode := .seq (.ops (some (52, true)) [gm 53 11,⟨some 54, .p (.bin .lss (.tmp 53) (ci (12)))⟩])
 (.cut [1, 5, 6, 7, 10, 11, 52, 54] c3z32)
noncomputable def c3z28 : ICode := .cond (.tmp 55) (.skip)
 (.exit 0)
noncomputable def c3z51 : ICode := .ops none [⟨some 96, .p (.pick (.tmp 82) (.const (.bool true)) (.tmp 95))⟩]
noncomputable def c3z49 : ICode := .seq (.ops (some (82, false)) [⟨some 95, .p (.pick (.tmp 92) (.tmp 94) (.const (.bool false)))⟩])
 (.cut [1, 5, 6, 7, 10, 11, 82, 95] c3z51)
noncomputable def c3z47 : ICode := .seq (.ops (some (92, true)) [gm 93 12,⟨some 94, .p (.bin .neq (.tmp 93) (.const (.string ⟨#[49]⟩)))⟩])
 (.cut [1, 5, 6, 7, 10, 11, 82, 92, 94] c3z49)
noncomputable def c3z45 : ICode := .seq (.ops (some (82, false)) [⟨some 91, .p (.pick (.tmp 85) (.const (.bool true)) (.tmp 90))⟩,gm 92 91])
 (.cut [1, 5, 6, 7, 10, 11, 12, 82, 92] c3z47)
noncomputable def c3z43 : ICode := .seq (.ops (some (85, false)) [gm 86 10,⟨some 87, .p (.lenS (.tmp 86))⟩,gm 88 6,⟨some 89, .p (.lenS (.tmp 88))⟩,⟨some 90, .p (.bin .lss (.tmp 87) (.tmp 89))⟩])
 (.cut [1, 5, 6, 7, 10, 11, 12, 82, 85, 90] c3z45)
noncomputable def c3z41 : ICode := .seq (.ops (some (82, false)) [gm 83 7,⟨some 84, .p (.bin .neq (.tmp 83) (ci (0)))⟩,gm 85 84])
 (.cut [1, 5, 6, 7, 10, 11, 12, 82, 85] c3z43)
noncomputable def c3z39 : ICode := .cond (.tmp 96) (.seq (.ops none [⟨some 4, .p (.mv (.const (.bool false)))⟩])
 (.ret))
 (.skip)
noncomputable def c3z33 : ICode := .ops none [gm 56 11,⟨some 57, .p (.bin .add (.tmp 56) (ci (1)))⟩,gm 11 57]
noncomputable def c3z27 : ICode := .seq (.block 1 (.seq (.ops none [gm 58 10,gm 59 5,gm 60 1,gm 61 11,⟨some 62, .p (.adrSl 1 (.tmp 60) (.tmp 61))⟩,⟨some 63, .l (.load false 1 (.tmp 62))⟩,⟨some 64, .p (.conv .i64 (.tmp 63))⟩,gm 65 5,⟨some 66, .p (.lenSl (.tmp 65))⟩,⟨some 67, .p (.bin .rem (.tmp 64) (.tmp 66))⟩,⟨some 68, .p (.adrSl 1 (.tmp 59) (.tmp 67))⟩,⟨some 69, .l (.load false 1 (.tmp 68))⟩,⟨some 70, .p (.bin .add (.tmp 58) (.tmp 69))⟩,gm 10 70])
 (.seq (.seq (.ops none [gm 71 10,⟨some 72, .p (.lenS (.tmp 71))⟩,⟨some 73, .p (.bin .gtr (.tmp 72) (ci (200)))⟩])
 (.cond (.tmp 73) (.exit 0)
 (.skip)))
 (.seq (.ops none [gm 75 5,gm 76 10,⟨some 77, .call 10 [(.tmp 75), (.tmp 76)]⟩,gm 74 77,⟨some 78, .p (.ext (.tmp 74) 0)⟩,⟨some 79, .p (.ext (.tmp 74) 1)⟩,gm 12 78,gm 13 79])
 (.seq (.seq (.ops none [gm 80 13,⟨some 81, .p (.bin .neq (.tmp 80) (ci (0)))⟩,gm 82 81])
 (.cut [1, 5, 6, 7, 10, 11, 12, 82] c3z41)) c3z39))))) c3z33
noncomputable def c3z26 : ICode := .seq (.seq (.seq (.ops none [gm 48 11,gm 49 1,⟨some 50, .p (.lenSl (.tmp 49))⟩,⟨some 51, .p (.bin .lss (.tmp 48) (.tmp 50))⟩,gm 52 51])
 (.cut [1, 5, 6, 7, 10, 11, 52] c3z30)) c3z28) c3z27
noncomputable def c3z62 : ICode := .ops none [⟨some 105, .p (.pick (.tmp 103) (.tmp 104) (.const (.bool false)))⟩,gm 4 105]
noncomputable def c3z60 : ICode := .seq (.ops (some (103, true)) [⟨some 104, .call 15 []⟩])
 (.cut [103, 104] c3z62)
noncomputable def c3z58 : ICode := .seq (.ops none [⟨some 102, .p (.pick (.tmp 99) (.const (.bool true)) (.tmp 101))⟩,gm 103 102])
 (.cut [103] c3z60)
noncomputable def c3z56 : ICode := .seq (.ops (some (99, false)) [gm 100 7,⟨some 101, .p (.bin .eql (.tmp 100) (ci (5)))⟩])
 (.cut [99, 101] c3z58)
noncomputable def c3z54 : ICode := .ret
noncomputable def c3z53 : ICode := .seq (.seq (.ops none [gm 97 7,⟨some 98, .p (.bin .eql (.tmp 97) (ci (0)))⟩,gm 99 98])
 (.cut [7, 99] c3z56)) c3z54
noncomputable def c3z23 : ICode := .cut [7] c3z53
noncomputable def c3z21 : ICode := .seq (.ops none [⟨some 10, .p (.mv (.const (.string ⟨#[]⟩)))⟩])
 (.seq (.seq (.ops none [⟨some 11, .p (.mv (ci (0)))⟩])
 (.block 0 (.loop [1, 5, 6, 7] [10, 11] c3z26))) c3z23)
noncomputable def c3z4 : ICode := .cut [1, 5, 6, 7] c3z21
noncomputable def c3 : ICode := .seq (.ops none [⟨some 4, .p (.mv (.const (.bool false)))⟩])
 (.seq (.ops none [gm 14 0,⟨some 15, .call 8 [(.tmp 14)]⟩,gm 5 15])
 (.seq (.ops none [gm 17 5,⟨some 18, .call 9 [(.tmp 17)]⟩,gm 16 18,⟨some 19, .p (.ext (.tmp 16) 0)⟩,⟨some 20, .p (.ext (.tmp 16) 1)⟩,gm 6 19,gm 7 20])
 (.seq (.seq (.seq (.ops none [gm 21 7,⟨some 22, .p (.bin .eql (.tmp 21) (ci (0)))⟩,gm 23 22])
 (.cut [1, 5, 6, 7, 23] c3z7)) c3z5) c3z4)))
theorem k3 : compFn Tryz.prog 3 [[], [], [], [1, 5, 6, 7, 23], [1, 5, 6, 7, 23, 26], [], [], [1, 5, 6, 7, 8, 36], [1, 5, 6, 7, 8, 36, 39], [1, 5, 6, 7, 8, 41], [1, 5, 6, 7, 41, 46], [], [], [1, 5, 6, 7], [], [], [1, 5, 6, 7], [10, 11], [1, 5, 6, 7, 10, 11, 52], [1, 5, 6, 7, 10, 11, 52, 54], [], [], [], [], [], [], [1, 5, 6, 7, 10, 11, 12, 82], [1, 5, 6, 7, 10, 11, 12, 82, 85], [1, 5, 6, 7, 10, 11, 12, 82, 85, 90], [1, 5, 6, 7, 10, 11, 12, 82, 92], [1, 5, 6, 7, 10, 11, 82, 92, 94], [1, 5, 6, 7, 10, 11, 82, 95], [], [], [], [7], [7, 99], [99, 101], [103], [103, 104], []] = some (106, c3, [.tmp 4]) := by kernel_rfl
def K3z0 (_P : Program) (K : VK) : Kont := bodyP [.tmp 4] K
def K3z4 : Kont := thenK (iwpP P c3z4 (K3z0 P K)) (K3z0 P K)
def K3z5 : Kont := thenK (iwpP P c3z5 (K3z4 P K)) (K3z4 P K)
def p3z7 (y1 l5 s6 e7 x23 : Value) (h : Heap) : Prop := CutP (iwpP P c3z7 (K3z5 P K)) [1, 5, 6, 7, 23] [y1, l5, s6, e7, x23] h
def T3 (x0 y1 : Value) (h : Heap) : Prop :=
 CallP P 8 [x0] h fun x15 h_1 =>
 CallP P 9 [x15] h_1 fun x18 h_2 =>
 OP (iExt 0 x18) fun x19 =>
 OP (iExt 1 x18) fun x20 =>
 OP (iBin .eql x20 (.int .i64 (0))) fun x22 =>
 p3z7 P K y1 x15 x19 x20 x22 h_2
theorem e3 (x0 y1 : Value) (h : Heap) : iwpP P c3 (bodyP [.tmp 4] K) (frame0 [x0, y1]) h = T3 P K x0 y1 h := by kernel_rfl
theorem f3 {K : VK} {x0 y1 : Value} {h : Heap} (H : T3 Tryz.prog K x0 y1 h) : CallP Tryz.prog 3 [x0, y1] h K :=
 callP_intro k3 (Nat.le_of_ble_eq_true rfl) ((e3 Tryz.prog K x0 y1 h).mpr H)
/-! F5: pommel/pommellaw08.MarkClear -/
noncomputable def c5z14 : ICode := .ops none [⟨some 41, .p (.pick (.tmp 38) (.tmp 40) (.const (.bool false)))⟩]
noncomputable def c5z12 : ICode := .seq (.ops (some (38, true)) [gm 39 12,⟨some 40, .p (.bin .lss (.tmp 39) (ci (10)))⟩])
 (.cut [1, 2, 7, 9, 10, 11, 12, 38, 40] c5z14)
noncomputable def c5z10 : ICode := .cond (.tmp 41) (.skip)
 (.exit 0)
noncomputable def c5z9 : ICode := .seq (.block 1 (.seq (.ops none [gm 44 1,gm 45 12,⟨some 46, .p (.adrSl 1 (.tmp 44) (.tmp 45))⟩,⟨some 47, .l (.load false 1 (.tmp 46))⟩,⟨some 48, .p (.conv .i64 (.tmp 47))⟩,gm 49 7,⟨some 50, .p (.lenSl (.tmp 49))⟩,⟨some 51, .p (.bin .rem (.tmp 48) (.tmp 50))⟩,gm 13 51])
 (.dops [(none, [gd 52 10 0,gd 53 7 0,gd 54 13 0,⟨some 55, .p (.adrSl 1 (.tmp 53) (.tmp 54)), 6⟩,⟨some 56, .l (.load false 1 (.tmp 55)), 14⟩,⟨some 57, .p (.bin .add (.tmp 52) (.tmp 56)), 31⟩,gd 58 11 0,gd 59 13 0,⟨some 60, .e (.mkSl 3 1 [(.int .i64 (0))] [(0, 1, (.tmp 59))]), 128⟩,⟨some 61, .e (.app 3 1 8 (.tmp 58) (.tmp 60)), 448⟩,gd 10 57 1023,gd 11 61 2047])])))
 (.ops none [gm 42 12,⟨some 43, .p (.bin .add (.tmp 42) (ci (1)))⟩,gm 12 43])
noncomputable def c5z8 : ICode := .seq (.seq (.seq (.ops none [gm 34 12,gm 35 1,⟨some 36, .p (.lenSl (.tmp 35))⟩,⟨some 37, .p (.bin .lss (.tmp 34) (.tmp 36))⟩,gm 38 37])
 (.cut [1, 2, 7, 9, 10, 11, 12, 38] c5z12)) c5z10) c5z9
noncomputable def c5z29 : ICode := .ops none [⟨some 69, .p (.pick (.tmp 66) (.tmp 68) (.const (.bool false)))⟩]
noncomputable def c5z27 : ICode := .seq (.ops (some (66, true)) [gm 67 15,⟨some 68, .p (.bin .lss (.tmp 67) (ci (10)))⟩])
 (.cut [2, 7, 9, 10, 11, 14, 15, 66, 68] c5z29)
noncomputable def c5z25 : ICode := .cond (.tmp 69) (.skip)
 (.exit 2)
noncomputable def c5z24 : ICode := .seq (.block 3 (.ops none [gm 72 14,gm 73 7,gm 74 2,gm 75 15,⟨some 76, .p (.adrSl 1 (.tmp 74) (.tmp 75))⟩,⟨some 77, .l (.load false 1 (.tmp 76))⟩,⟨some 78, .p (.conv .i64 (.tmp 77))⟩,gm 79 7,⟨some 80, .p (.lenSl (.tmp 79))⟩,⟨some 81, .p (.bin .rem (.tmp 78) (.tmp 80))⟩,⟨some 82, .p (.adrSl 1 (.tmp 73) (.tmp 81))⟩,⟨some 83, .l (.load false 1 (.tmp 82))⟩,⟨some 84, .p (.bin .add (.tmp 72) (.tmp 83))⟩,gm 14 84]))
 (.ops none [gm 70 15,⟨some 71, .p (.bin .add (.tmp 70) (ci (1)))⟩,gm 15 71])
noncomputable def c5z23 : ICode := .seq (.seq (.seq (.ops none [gm 62 15,gm 63 2,⟨some 64, .p (.lenSl (.tmp 63))⟩,⟨some 65, .p (.bin .lss (.tmp 62) (.tmp 64))⟩,gm 66 65])
 (.cut [2, 7, 9, 10, 11, 14, 15, 66] c5z27)) c5z25) c5z24
noncomputable def c5z74 : ICode := .ops none [⟨some 159, .p (.pick (.tmp 156) (.const (.bool true)) (.tmp 158))⟩]
noncomputable def c5z72 : ICode := .seq (.ops (some (156, false)) [⟨some 157, .call 15 []⟩,⟨some 158, .p (.un .not (.tmp 157))⟩])
 (.cut [7, 9, 10, 11, 16, 18, 156, 158] c5z74)
noncomputable def c5z70 : ICode := .seq (.ops none [⟨some 155, .p (.pick (.tmp 145) (.const (.bool true)) (.tmp 154))⟩,gm 156 155])
 (.cut [7, 9, 10, 11, 16, 18, 156] c5z72)
noncomputable def c5z68 : ICode := .seq (.ops (some (145, false)) [gm 146 22,⟨some 147, .call 13 [(.tmp 146)]⟩,gm 148 18,⟨some 149, .call 13 [(.tmp 148)]⟩,gm 150 20,⟨some 151, .call 13 [(.tmp 150)]⟩,⟨some 152, .call 26 [(.tmp 149), (.tmp 151)]⟩,⟨some 153, .call 12 [(.tmp 147), (.tmp 152)]⟩,⟨some 154, .p (.bin .lss (.tmp 153) (ci (0)))⟩])
 (.cut [7, 9, 10, 11, 16, 18, 145, 154] c5z70)
noncomputable def c5z66 : ICode := .seq (.ops none [⟨some 144, .p (.pick (.tmp 140) (.const (.bool true)) (.tmp 143))⟩,gm 145 144])
 (.cut [7, 9, 10, 11, 16, 18, 20, 22, 145] c5z68)
noncomputable def c5z64 : ICode := .seq (.ops (some (140, false)) [gm 141 11,gm 142 16,⟨some 143, .call 25 [(.tmp 141), (.tmp 142)]⟩])
 (.cut [7, 9, 10, 11, 16, 18, 20, 22, 140, 143] c5z66)
noncomputable def c5z62 : ICode := .seq (.ops none [⟨some 139, .p (.pick (.tmp 135) (.const (.bool true)) (.tmp 138))⟩,gm 140 139])
 (.cut [7, 9, 10, 11, 16, 18, 20, 22, 140] c5z64)
noncomputable def c5z60 : ICode := .seq (.ops (some (135, false)) [gm 136 22,⟨some 137, .call 24 [(.tmp 136)]⟩,⟨some 138, .p (.un .not (.tmp 137))⟩])
 (.cut [7, 9, 10, 11, 16, 18, 20, 22, 135, 138] c5z62)
noncomputable def c5z58 : ICode := .seq (.ops none [⟨some 134, .p (.pick (.tmp 130) (.const (.bool true)) (.tmp 133))⟩,gm 135 134])
 (.cut [7, 9, 10, 11, 16, 18, 20, 22, 135] c5z60)
noncomputable def c5z56 : ICode := .seq (.ops (some (130, false)) [gm 131 20,⟨some 132, .call 24 [(.tmp 131)]⟩,⟨some 133, .p (.un .not (.tmp 132))⟩])
 (.cut [7, 9, 10, 11, 16, 18, 20, 22, 130, 133] c5z58)
noncomputable def c5z54 : ICode := .seq (.ops none [⟨some 129, .p (.pick (.tmp 125) (.const (.bool true)) (.tmp 128))⟩,gm 130 129])
 (.cut [7, 9, 10, 11, 16, 18, 20, 22, 130] c5z56)
noncomputable def c5z52 : ICode := .seq (.ops (some (125, false)) [gm 126 18,⟨some 127, .call 24 [(.tmp 126)]⟩,⟨some 128, .p (.un .not (.tmp 127))⟩])
 (.cut [7, 9, 10, 11, 16, 18, 20, 22, 125, 128] c5z54)
noncomputable def c5z50 : ICode := .seq (.ops none [⟨some 124, .p (.pick (.tmp 121) (.const (.bool true)) (.tmp 123))⟩,gm 125 124])
 (.cut [7, 9, 10, 11, 16, 18, 20, 22, 125] c5z52)
noncomputable def c5z48 : ICode := .seq (.ops (some (121, false)) [gm 122 23,⟨some 123, .p (.bin .neq (.tmp 122) (ci (0)))⟩])
 (.cut [7, 9, 10, 11, 16, 18, 20, 22, 121, 123] c5z50)
noncomputable def c5z46 : ICode := .seq (.ops none [⟨some 120, .p (.pick (.tmp 117) (.const (.bool true)) (.tmp 119))⟩,gm 121 120])
 (.cut [7, 9, 10, 11, 16, 18, 20, 22, 23, 121] c5z48)
noncomputable def c5z44 : ICode := .seq (.ops (some (117, false)) [gm 118 21,⟨some 119, .p (.bin .neq (.tmp 118) (ci (0)))⟩])
 (.cut [7, 9, 10, 11, 16, 18, 20, 22, 23, 117, 119] c5z46)
noncomputable def c5z42 : ICode := .seq (.ops none [⟨some 116, .p (.pick (.tmp 113) (.const (.bool true)) (.tmp 115))⟩,gm 117 116])
 (.cut [7, 9, 10, 11, 16, 18, 20, 21, 22, 23, 117] c5z44)
noncomputable def c5z40 : ICode := .seq (.ops (some (113, false)) [gm 114 19,⟨some 115, .p (.bin .neq (.tmp 114) (ci (0)))⟩])
 (.cut [7, 9, 10, 11, 16, 18, 20, 21, 22, 23, 113, 115] c5z42)
noncomputable def c5z38 : ICode := .cond (.tmp 159) (.seq (.ops none [⟨some 6, .p (.mv (.const (.bool false)))⟩])
 (.ret))
 (.skip)
noncomputable def c5z90 : ICode := .ops none [⟨some 179, .p (.pick (.tmp 171) (.const (.bool true)) (.tmp 178))⟩]
noncomputable def c5z88 : ICode := .seq (.ops (some (171, false)) [gm 172 16,gm 173 25,⟨some 174, .p (.adrSl 1 (.tmp 172) (.tmp 173))⟩,⟨some 175, .l (.load false 1 (.tmp 174))⟩,gm 176 7,⟨some 177, .p (.lenSl (.tmp 176))⟩,⟨some 178, .p (.bin .geq (.tmp 175) (.tmp 177))⟩])
 (.cut [7, 9, 10, 11, 16, 18, 24, 25, 171, 178] c5z90)
noncomputable def c5z86 : ICode := .cond (.tmp 179) (.seq (.ops none [⟨some 6, .p (.mv (.const (.bool false)))⟩])
 (.ret))
 (.skip)
noncomputable def c5z85 : ICode := .ops none [gm 180 24,gm 181 7,gm 182 16,gm 183 25,⟨some 184, .p (.adrSl 1 (.tmp 182) (.tmp 183))⟩,⟨some 185, .l (.load false 1 (.tmp 184))⟩,⟨some 186, .p (.adrSl 1 (.tmp 181) (.tmp 185))⟩,⟨some 187, .l (.load false 1 (.tmp 186))⟩,⟨some 188, .p (.bin .add (.tmp 180) (.tmp 187))⟩,gm 24 188]
noncomputable def c5z83 : ICode := .ops none [gm 164 25,⟨some 165, .p (.bin .add (.tmp 164) (ci (1)))⟩,gm 25 165]
noncomputable def c5z80 : ICode := .seq (.seq (.ops none [gm 160 25,gm 161 16,⟨some 162, .p (.lenSl (.tmp 161))⟩,⟨some 163, .p (.bin .lss (.tmp 160) (.tmp 162))⟩])
 (.cond (.tmp 163) (.skip)
 (.exit 4)))
 (.seq (.block 5 (.seq (.seq (.seq (.ops none [gm 166 16,gm 167 25,⟨some 168, .p (.adrSl 1 (.tmp 166) (.tmp 167))⟩,⟨some 169, .l (.load false 1 (.tmp 168))⟩,⟨some 170, .p (.bin .lss (.tmp 169) (ci (0)))⟩,gm 171 170])
 (.cut [7, 9, 10, 11, 16, 18, 24, 25, 171] c5z88)) c5z86) c5z85)) c5z83)
noncomputable def c5z109 : ICode := .ops none [⟨some 208, .p (.pick (.tmp 192) (.tmp 207) (.const (.bool false)))⟩,gm 6 208]
noncomputable def c5z107 : ICode := .seq (.ops (some (192, true)) [⟨some 207, .p (.pick (.tmp 195) (.const (.bool true)) (.tmp 206))⟩])
 (.cut [192, 207] c5z109)
noncomputable def c5z105 : ICode := .seq (.ops (some (195, false)) [⟨some 206, .p (.pick (.tmp 202) (.tmp 205) (.const (.bool false)))⟩])
 (.cut [192, 195, 206] c5z107)
noncomputable def c5z103 : ICode := .seq (.ops (some (202, true)) [gm 203 16,gm 204 11,⟨some 205, .call 23 [(.tmp 203), (.tmp 204)]⟩])
 (.cut [192, 195, 202, 205] c5z105)
noncomputable def c5z101 : ICode := .seq (.ops (some (195, false)) [⟨some 201, .p (.pick (.tmp 198) (.tmp 200) (.const (.bool false)))⟩,gm 202 201])
 (.cut [11, 16, 192, 195, 202] c5z103)
noncomputable def c5z99 : ICode := .seq (.ops (some (198, true)) [gm 199 18,⟨some 200, .p (.bin .eql (.tmp 199) (.const (.string ⟨#[49]⟩)))⟩])
 (.cut [11, 16, 192, 195, 198, 200] c5z101)
noncomputable def c5z97 : ICode := .seq (.ops (some (195, false)) [gm 196 9,⟨some 197, .p (.bin .eql (.tmp 196) (ci (5)))⟩,gm 198 197])
 (.cut [11, 16, 18, 192, 195, 198] c5z99)
noncomputable def c5z95 : ICode := .seq (.ops (some (192, true)) [gm 193 9,⟨some 194, .p (.bin .eql (.tmp 193) (ci (0)))⟩,gm 195 194])
 (.cut [9, 11, 16, 18, 192, 195] c5z97)
noncomputable def c5z93 : ICode := .ret
noncomputable def c5z92 : ICode := .seq (.seq (.ops none [gm 189 24,gm 190 10,⟨some 191, .p (.bin .eql (.tmp 189) (.tmp 190))⟩,gm 192 191])
 (.cut [9, 11, 16, 18, 192] c5z95)) c5z93
noncomputable def c5z77 : ICode := .cut [9, 10, 11, 16, 18, 24] c5z92
noncomputable def c5z37 : ICode := .seq (.ops none [⟨some 24, .p (.mv (.const (.string ⟨#[]⟩)))⟩])
 (.seq (.seq (.ops none [⟨some 25, .p (.mv (ci (0)))⟩])
 (.block 4 (.loop [7, 9, 10, 11, 16, 18] [24, 25] c5z80))) c5z77)
noncomputable def c5z32 : ICode := .seq (.ops none [gm 86 7,gm 87 10,⟨some 88, .call 17 [(.tmp 86), (.tmp 87)]⟩,gm 85 88,⟨some 89, .p (.ext (.tmp 85) 0)⟩,⟨some 90, .p (.ext (.tmp 85) 1)⟩,gm 16 89,gm 17 90])
 (.seq (.ops none [gm 92 7,gm 93 10,⟨some 94, .call 10 [(.tmp 92), (.tmp 93)]⟩,gm 91 94,⟨some 95, .p (.ext (.tmp 91) 0)⟩,⟨some 96, .p (.ext (.tmp 91) 1)⟩,gm 18 95,gm 19 96])
 (.seq (.ops none [gm 98 7,gm 99 14,⟨some 100, .call 10 [(.tmp 98), (.tmp 99)]⟩,gm 97 100,⟨some 101, .p (.ext (.tmp 97) 0)⟩,⟨some 102, .p (.ext (.tmp 97) 1)⟩,gm 20 101,gm 21 102])
 (.seq (.ops none [gm 104 7,gm 105 10,gm 106 14,⟨some 107, .p (.bin .add (.tmp 105) (.tmp 106))⟩,⟨some 108, .call 10 [(.tmp 104), (.tmp 107)]⟩,gm 103 108,⟨some 109, .p (.ext (.tmp 103) 0)⟩,⟨some 110, .p (.ext (.tmp 103) 1)⟩,gm 22 109,gm 23 110])
 (.seq (.seq (.seq (.ops none [gm 111 17,⟨some 112, .p (.bin .neq (.tmp 111) (ci (0)))⟩,gm 113 112])
 (.cut [7, 9, 10, 11, 16, 18, 19, 20, 21, 22, 23, 113] c5z40)) c5z38) c5z37))))
noncomputable def c5z20 : ICode := .cut [7, 9, 10, 11, 14] c5z32
noncomputable def c5z18 : ICode := .seq (.ops none [⟨some 14, .p (.mv (.const (.string ⟨#[]⟩)))⟩])
 (.seq (.seq (.ops none [⟨some 15, .p (.mv (ci (0)))⟩])
 (.block 2 (.loop [2, 7, 9, 10, 11] [14, 15] c5z23))) c5z20)
noncomputable def c5z5 : ICode := .cut [2, 7, 9, 10, 11] c5z18
noncomputable def c5 : ICode := .seq (.ops none [⟨some 6, .p (.mv (.const (.bool false)))⟩])
 (.seq (.ops none [gm 26 0,⟨some 27, .call 8 [(.tmp 26)]⟩,gm 7 27])
 (.seq (.ops none [gm 29 7,⟨some 30, .call 9 [(.tmp 29)]⟩,gm 28 30,⟨some 31, .p (.ext (.tmp 28) 0)⟩,⟨some 32, .p (.ext (.tmp 28) 1)⟩,gm 8 31,gm 9 32])
 (.seq (.ops none [⟨some 33, .e (.mkSl 3 0 [(.int .i64 (0))] [])⟩,⟨some 10, .p (.mv (.const (.string ⟨#[]⟩)))⟩,gm 11 33])
 (.seq (.seq (.ops none [⟨some 12, .p (.mv (ci (0)))⟩])
 (.block 0 (.loop [1, 2, 7, 9] [10, 11, 12] c5z8))) c5z5))))
theorem k5 : compFn Tryz.prog 5 [[], [], [], [], [], [1, 2, 7, 9], [10, 11, 12], [1, 2, 7, 9, 10, 11, 12, 38], [1, 2, 7, 9, 10, 11, 12, 38, 40], [], [], [], [], [2, 7, 9, 10, 11], [], [], [2, 7, 9, 10, 11], [14, 15], [2, 7, 9, 10, 11, 14, 15, 66], [2, 7, 9, 10, 11, 14, 15, 66, 68], [], [], [], [7, 9, 10, 11, 14], [], [], [], [], [7, 9, 10, 11, 16, 18, 19, 20, 21, 22, 23, 113], [7, 9, 10, 11, 16, 18, 20, 21, 22, 23, 113, 115], [7, 9, 10, 11, 16, 18, 20, 21, 22, 23, 117], [7, 9, 10, 11, 16, 18, 20, 22, 23, 117, 119], [7, 9, 10, 11, 16, 18, 20, 22, 23, 121], [7, 9, 10, 11, 16, 18, 20, 22, 121, 123], [7, 9, 10, 11, 16, 18, 20, 22, 125], [7, 9, 10, 11, 16, 18, 20, 22, 125, 128], [7, 9, 10, 11, 16, 18, 20, 22, 130], [7, 9, 10, 11, 16, 18, 20, 22, 130, 133], [7, 9, 10, 11, 16, 18, 20, 22, 135], [7, 9, 10, 11, 16, 18, 20, 22, 135, 138], [7, 9, 10, 11, 16, 18, 20, 22, 140], [7, 9, 10, 11, 16, 18, 20, 22, 140, 143], [7, 9, 10, 11, 16, 18, 20, 22, 145], [7, 9, 10, 11, 16, 18, 145, 154], [7, 9, 10, 11, 16, 18, 156], [7, 9, 10, 11, 16, 18, 156, 158], [], [], [], [], [], [7, 9, 10, 11, 16, 18], [24, 25], [], [], [7, 9, 10, 11, 16, 18, 24, 25, 171], [7, 9, 10, 11, 16, 18, 24, 25, 171, 178], [], [], [], [], [9, 10, 11, 16, 18, 24], [9, 11, 16, 18, 192], [9, 11, 16, 18, 192, 195], [11, 16, 18, 192, 195, 198], [11, 16, 192, 195, 198, 200], [11, 16, 192, 195, 202], [192, 195, 202, 205], [192, 195, 206], [192, 207], []] = some (209, c5, [.tmp 6]) := by kernel_rfl
def K5z0 (_P : Program) (K : VK) : Kont := bodyP [.tmp 6] K
def K5z5 : Kont := thenK (iwpP P c5z5 (K5z0 P K)) (K5z0 P K)
def K5z7 : Kont := inBlockK 0 (K5z5 P K)
def K5z8 (y1 z2 l7 e9 : Value) (L1 : LK) : Kont := thenK (fun f' h'' => (([1, 2, 7, 9] : List Nat).map f' : List Value) = [y1, z2, l7, e9] ∧ L1 (([10, 11, 12] : List Nat).map f') h'') (K5z7 P K)
def K5z9 (y1 z2 l7 e9 : Value) (L1 : LK) : Kont := thenK (iwpP P c5z9 (K5z8 P K y1 z2 l7 e9 L1)) (K5z8 P K y1 z2 l7 e9 L1)
def K5z10 (y1 z2 l7 e9 : Value) (L1 : LK) : Kont := thenK (iwpP P c5z10 (K5z9 P K y1 z2 l7 e9 L1)) (K5z9 P K y1 z2 l7 e9 L1)
def K5z20 : Kont := thenK (iwpP P c5z20 (K5z0 P K)) (K5z0 P K)
def K5z22 : Kont := inBlockK 2 (K5z20 P K)
def K5z23 (z2 l7 e9 s10 row11 : Value) (L1 : LK) : Kont := thenK (fun f' h'' => (([2, 7, 9, 10, 11] : List Nat).map f' : List Value) = [z2, l7, e9, s10, row11] ∧ L1 (([14, 15] : List Nat).map f') h'') (K5z22 P K)
def K5z24 (z2 l7 e9 s10 row11 : Value) (L1 : LK) : Kont := thenK (iwpP P c5z24 (K5z23 P K z2 l7 e9 s10 row11 L1)) (K5z23 P K z2 l7 e9 s10 row11 L1)
def K5z25 (z2 l7 e9 s10 row11 : Value) (L1 : LK) : Kont := thenK (iwpP P c5z25 (K5z24 P K z2 l7 e9 s10 row11 L1)) (K5z24 P K z2 l7 e9 s10 row11 L1)
def K5z37 : Kont := thenK (iwpP P c5z37 (K5z0 P K)) (K5z0 P K)
def K5z38 : Kont := thenK (iwpP P c5z38 (K5z37 P K)) (K5z37 P K)
def K5z77 : Kont := thenK (iwpP P c5z77 (K5z0 P K)) (K5z0 P K)
def K5z79 : Kont := inBlockK 4 (K5z77 P K)
def K5z80 (l7 e9 s10 row11 r16 n18 : Value) (L1 : LK) : Kont := thenK (fun f' h'' => (([7, 9, 10, 11, 16, 18] : List Nat).map f' : List Value) = [l7, e9, s10, row11, r16, n18] ∧ L1 (([24, 25] : List Nat).map f') h'') (K5z79 P K)
def K5z83 (l7 e9 s10 row11 r16 n18 : Value) (L1 : LK) : Kont := thenK (iwpP P c5z83 (K5z80 P K l7 e9 s10 row11 r16 n18 L1)) (K5z80 P K l7 e9 s10 row11 r16 n18 L1)
def K5z84 (l7 e9 s10 row11 r16 n18 : Value) (L1 : LK) : Kont := inBlockK 5 (K5z83 P K l7 e9 s10 row11 r16 n18 L1)
def K5z85 (l7 e9 s10 row11 r16 n18 : Value) (L1 : LK) : Kont := thenK (iwpP P c5z85 (K5z84 P K l7 e9 s10 row11 r16 n18 L1)) (K5z84 P K l7 e9 s10 row11 r16 n18 L1)
def K5z86 (l7 e9 s10 row11 r16 n18 : Value) (L1 : LK) : Kont := thenK (iwpP P c5z86 (K5z85 P K l7 e9 s10 row11 r16 n18 L1)) (K5z85 P K l7 e9 s10 row11 r16 n18 L1)
def K5z93 : Kont := thenK (iwpP P c5z93 (K5z0 P K)) (K5z0 P K)
def p5z8 (y1 z2 l7 e9 : Value) (L1 : LK) (xs : List Value) (h : Heap) : Prop := CutP (iwpP P c5z8 (K5z8 P K y1 z2 l7 e9 L1)) ([1, 2, 7, 9] ++ [10, 11, 12]) ([y1, z2, l7, e9] ++ xs) h
def p5z12 (y1 z2 l7 e9 s10 row11 i12 x38 : Value) (L1 : LK) (h : Heap) : Prop := CutP (iwpP P c5z12 (K5z10 P K y1 z2 l7 e9 L1)) [1, 2, 7, 9, 10, 11, 12, 38] [y1, z2, l7, e9, s10, row11, i12, x38] h
def p5z14 (y1 z2 l7 e9 s10 row11 i12 x38 x40 : Value) (L1 : LK) (h : Heap) : Prop := CutP (iwpP P c5z14 (K5z10 P K y1 z2 l7 e9 L1)) [1, 2, 7, 9, 10, 11, 12, 38, 40] [y1, z2, l7, e9, s10, row11, i12, x38, x40] h
def p5z18 (z2 l7 e9 s10 row11 : Value) (h : Heap) : Prop := CutP (iwpP P c5z18 (K5z0 P K)) [2, 7, 9, 10, 11] [z2, l7, e9, s10, row11] h
def p5z23 (z2 l7 e9 s10 row11 : Value) (L1 : LK) (xs : List Value) (h : Heap) : Prop := CutP (iwpP P c5z23 (K5z23 P K z2 l7 e9 s10 row11 L1)) ([2, 7, 9, 10, 11] ++ [14, 15]) ([z2, l7, e9, s10, row11] ++ xs) h
def p5z27 (z2 l7 e9 s10 row11 t14 i15 x66 : Value) (L1 : LK) (h : Heap) : Prop := CutP (iwpP P c5z27 (K5z25 P K z2 l7 e9 s10 row11 L1)) [2, 7, 9, 10, 11, 14, 15, 66] [z2, l7, e9, s10, row11, t14, i15, x66] h
def p5z29 (z2 l7 e9 s10 row11 t14 i15 x66 x68 : Value) (L1 : LK) (h : Heap) : Prop := CutP (iwpP P c5z29 (K5z25 P K z2 l7 e9 s10 row11 L1)) [2, 7, 9, 10, 11, 14, 15, 66, 68] [z2, l7, e9, s10, row11, t14, i15, x66, x68] h
def p5z32 (l7 e9 s10 row11 t14 : Value) (h : Heap) : Prop := CutP (iwpP P c5z32 (K5z0 P K)) [7, 9, 10, 11, 14] [l7, e9, s10, row11, t14] h
def p5z40 (l7 e9 s10 row11 r16 n18 g19 m20 h21 both22 i23 x113 : Value) (h : Heap) : Prop := CutP (iwpP P c5z40 (K5z38 P K)) [7, 9, 10, 11, 16, 18, 19, 20, 21, 22, 23, 113] [l7, e9, s10, row11, r16, n18, g19, m20, h21, both22, i23, x113] h
def p5z42 (l7 e9 s10 row11 r16 n18 m20 h21 both22 i23 x113 x115 : Value) (h : Heap) : Prop := CutP (iwpP P c5z42 (K5z38 P K)) [7, 9, 10, 11, 16, 18, 20, 21, 22, 23, 113, 115] [l7, e9, s10, row11, r16, n18, m20, h21, both22, i23, x113, x115] h
def p5z44 (l7 e9 s10 row11 r16 n18 m20 h21 both22 i23 x117 : Value) (h : Heap) : Prop := CutP (iwpP P c5z44 (K5z38 P K)) [7, 9, 10, 11, 16, 18, 20, 21, 22, 23, 117] [l7, e9, s10, row11, r16, n18, m20, h21, both22, i23, x117] h
def p5z46 (l7 e9 s10 row11 r16 n18 m20 both22 i23 x117 x119 : Value) (h : Heap) : Prop := CutP (iwpP P c5z46 (K5z38 P K)) [7, 9, 10, 11, 16, 18, 20, 22, 23, 117, 119] [l7, e9, s10, row11, r16, n18, m20, both22, i23, x117, x119] h
def p5z48 (l7 e9 s10 row11 r16 n18 m20 both22 i23 x121 : Value) (h : Heap) : Prop := CutP (iwpP P c5z48 (K5z38 P K)) [7, 9, 10, 11, 16, 18, 20, 22, 23, 121] [l7, e9, s10, row11, r16, n18, m20, both22, i23, x121] h
def p5z50 (l7 e9 s10 row11 r16 n18 m20 both22 x121 x123 : Value) (h : Heap) : Prop := CutP (iwpP P c5z50 (K5z38 P K)) [7, 9, 10, 11, 16, 18, 20, 22, 121, 123] [l7, e9, s10, row11, r16, n18, m20, both22, x121, x123] h
def p5z52 (l7 e9 s10 row11 r16 n18 m20 both22 x125 : Value) (h : Heap) : Prop := CutP (iwpP P c5z52 (K5z38 P K)) [7, 9, 10, 11, 16, 18, 20, 22, 125] [l7, e9, s10, row11, r16, n18, m20, both22, x125] h
def p5z54 (l7 e9 s10 row11 r16 n18 m20 both22 x125 x128 : Value) (h : Heap) : Prop := CutP (iwpP P c5z54 (K5z38 P K)) [7, 9, 10, 11, 16, 18, 20, 22, 125, 128] [l7, e9, s10, row11, r16, n18, m20, both22, x125, x128] h
def p5z56 (l7 e9 s10 row11 r16 n18 m20 both22 x130 : Value) (h : Heap) : Prop := CutP (iwpP P c5z56 (K5z38 P K)) [7, 9, 10, 11, 16, 18, 20, 22, 130] [l7, e9, s10, row11, r16, n18, m20, both22, x130] h
def p5z58 (l7 e9 s10 row11 r16 n18 m20 both22 x130 x133 : Value) (h : Heap) : Prop := CutP (iwpP P c5z58 (K5z38 P K)) [7, 9, 10, 11, 16, 18, 20, 22, 130, 133] [l7, e9, s10, row11, r16, n18, m20, both22, x130, x133] h
def p5z60 (l7 e9 s10 row11 r16 n18 m20 both22 x135 : Value) (h : Heap) : Prop := CutP (iwpP P c5z60 (K5z38 P K)) [7, 9, 10, 11, 16, 18, 20, 22, 135] [l7, e9, s10, row11, r16, n18, m20, both22, x135] h
def p5z62 (l7 e9 s10 row11 r16 n18 m20 both22 x135 x138 : Value) (h : Heap) : Prop := CutP (iwpP P c5z62 (K5z38 P K)) [7, 9, 10, 11, 16, 18, 20, 22, 135, 138] [l7, e9, s10, row11, r16, n18, m20, both22, x135, x138] h
def p5z64 (l7 e9 s10 row11 r16 n18 m20 both22 x140 : Value) (h : Heap) : Prop := CutP (iwpP P c5z64 (K5z38 P K)) [7, 9, 10, 11, 16, 18, 20, 22, 140] [l7, e9, s10, row11, r16, n18, m20, both22, x140] h
def p5z66 (l7 e9 s10 row11 r16 n18 m20 both22 x140 x143 : Value) (h : Heap) : Prop := CutP (iwpP P c5z66 (K5z38 P K)) [7, 9, 10, 11, 16, 18, 20, 22, 140, 143] [l7, e9, s10, row11, r16, n18, m20, both22, x140, x143] h
def p5z68 (l7 e9 s10 row11 r16 n18 m20 both22 x145 : Value) (h : Heap) : Prop := CutP (iwpP P c5z68 (K5z38 P K)) [7, 9, 10, 11, 16, 18, 20, 22, 145] [l7, e9, s10, row11, r16, n18, m20, both22, x145] h
def p5z70 (l7 e9 s10 row11 r16 n18 x145 x154 : Value) (h : Heap) : Prop := CutP (iwpP P c5z70 (K5z38 P K)) [7, 9, 10, 11, 16, 18, 145, 154] [l7, e9, s10, row11, r16, n18, x145, x154] h
def p5z72 (l7 e9 s10 row11 r16 n18 x156 : Value) (h : Heap) : Prop := CutP (iwpP P c5z72 (K5z38 P K)) [7, 9, 10, 11, 16, 18, 156] [l7, e9, s10, row11, r16, n18, x156] h
def p5z74 (l7 e9 s10 row11 r16 n18 x156 x158 : Value) (h : Heap) : Prop := CutP (iwpP P c5z74 (K5z38 P K)) [7, 9, 10, 11, 16, 18, 156, 158] [l7, e9, s10, row11, r16, n18, x156, x158] h
def p5z80 (l7 e9 s10 row11 r16 n18 : Value) (L1 : LK) (xs : List Value) (h : Heap) : Prop := CutP (iwpP P c5z80 (K5z80 P K l7 e9 s10 row11 r16 n18 L1)) ([7, 9, 10, 11, 16, 18] ++ [24, 25]) ([l7, e9, s10, row11, r16, n18] ++ xs) h
def p5z88 (l7 e9 s10 row11 r16 n18 at24 k25 x171 : Value) (L1 : LK) (h : Heap) : Prop := CutP (iwpP P c5z88 (K5z86 P K l7 e9 s10 row11 r16 n18 L1)) [7, 9, 10, 11, 16, 18, 24, 25, 171] [l7, e9, s10, row11, r16, n18, at24, k25, x171] h
def p5z90 (l7 e9 s10 row11 r16 n18 at24 k25 x171 x178 : Value) (L1 : LK) (h : Heap) : Prop := CutP (iwpP P c5z90 (K5z86 P K l7 e9 s10 row11 r16 n18 L1)) [7, 9, 10, 11, 16, 18, 24, 25, 171, 178] [l7, e9, s10, row11, r16, n18, at24, k25, x171, x178] h
def p5z92 (e9 s10 row11 r16 n18 at24 : Value) (h : Heap) : Prop := CutP (iwpP P c5z92 (K5z0 P K)) [9, 10, 11, 16, 18, 24] [e9, s10, row11, r16, n18, at24] h
def p5z95 (e9 row11 r16 n18 x192 : Value) (h : Heap) : Prop := CutP (iwpP P c5z95 (K5z93 P K)) [9, 11, 16, 18, 192] [e9, row11, r16, n18, x192] h
def p5z97 (e9 row11 r16 n18 x192 x195 : Value) (h : Heap) : Prop := CutP (iwpP P c5z97 (K5z93 P K)) [9, 11, 16, 18, 192, 195] [e9, row11, r16, n18, x192, x195] h
def p5z99 (row11 r16 n18 x192 x195 x198 : Value) (h : Heap) : Prop := CutP (iwpP P c5z99 (K5z93 P K)) [11, 16, 18, 192, 195, 198] [row11, r16, n18, x192, x195, x198] h
def p5z101 (row11 r16 x192 x195 x198 x200 : Value) (h : Heap) : Prop := CutP (iwpP P c5z101 (K5z93 P K)) [11, 16, 192, 195, 198, 200] [row11, r16, x192, x195, x198, x200] h
def p5z103 (row11 r16 x192 x195 x202 : Value) (h : Heap) : Prop := CutP (iwpP P c5z103 (K5z93 P K)) [11, 16, 192, 195, 202] [row11, r16, x192, x195, x202] h
def p5z105 (x192 x195 x202 x205 : Value) (h : Heap) : Prop := CutP (iwpP P c5z105 (K5z93 P K)) [192, 195, 202, 205] [x192, x195, x202, x205] h
def p5z107 (x192 x195 x206 : Value) (h : Heap) : Prop := CutP (iwpP P c5z107 (K5z93 P K)) [192, 195, 206] [x192, x195, x206] h
def p5z109 (x192 x207 : Value) (h : Heap) : Prop := CutP (iwpP P c5z109 (K5z93 P K)) [192, 207] [x192, x207] h
theorem q5z14 (y1 z2 l7 e9 s10 row11 i12 x38 x40 : Value) (L1 : LK) (h : Heap) : p5z14 P K y1 z2 l7 e9 s10 row11 i12 x38 x40 L1 h =
 (OP (iPick x38 x40 (.bool false)) fun x41 =>
 IfP x41
 (OP (iAdrSl 1 y1 i12) fun x46 =>
 OP (iLoad false 1 h x46) fun x47 =>
 OP (iConv .i64 x47) fun x48 =>
 OP (iLenSl l7) fun x50 =>
 OP (iBin .rem x48 x50) fun x51 =>
 OP (iAdrSl 1 l7 x51) fun x55 =>
 OP (iLoad false 1 h x55) fun x56 =>
 (True) ∧
 OP (iBin .add s10 x56) fun x57 =>
 OH (iMkSl 3 1 [(.int .i64 (0))] h [(0, 1, x51)]) fun x60 h_1 =>
 (iLoad false 1 h_1 x55 = some x56 ∧ True) ∧
 OH (iApp 3 1 8 h_1 row11 x60) fun x61 h_2 =>
 (iLoad false 1 h_2 x55 = some x56 ∧ True) ∧
 OP (iBin .add i12 (.int .i64 (1))) fun x43 =>
 ([y1, z2, l7, e9] : List Value) = [y1, z2, l7, e9] ∧ L1 [x57, x61, x43] h_2)
 (p5z18 P K z2 l7 e9 s10 row11 h)) := (CutP_def _ _ _ _).trans (by kernel_rfl)
theorem q5z12 (y1 z2 l7 e9 s10 row11 i12 x38 : Value) (L1 : LK) (h : Heap) : p5z12 P K y1 z2 l7 e9 s10 row11 i12 x38 L1 h =
 (GdP x38 true
 (OP (iBin .lss i12 (.int .i64 (10))) fun x40 =>
 p5z14 P K y1 z2 l7 e9 s10 row11 i12 x38 x40 L1 h)
 (p5z14 P K y1 z2 l7 e9 s10 row11 i12 x38 undef L1 h)) := (CutP_def _ _ _ _).trans (by kernel_rfl)
theorem q5z8 (y1 z2 l7 e9 : Value) (L1 : LK) (s10 row11 i12 : Value) (h : Heap) : p5z8 P K y1 z2 l7 e9 L1 [s10, row11, i12] h =
 (OP (iLenSl y1) fun x36 =>
 OP (iBin .lss i12 x36) fun x37 =>
 p5z12 P K y1 z2 l7 e9 s10 row11 i12 x37 L1 h) := (CutP_def _ _ _ _).trans (by kernel_rfl)
theorem q5z29 (z2 l7 e9 s10 row11 t14 i15 x66 x68 : Value) (L1 : LK) (h : Heap) : p5z29 P K z2 l7 e9 s10 row11 t14 i15 x66 x68 L1 h =
 (OP (iPick x66 x68 (.bool false)) fun x69 =>
 IfP x69
 (OP (iAdrSl 1 z2 i15) fun x76 =>
 OP (iLoad false 1 h x76) fun x77 =>
 OP (iConv .i64 x77) fun x78 =>
 OP (iLenSl l7) fun x80 =>
 OP (iBin .rem x78 x80) fun x81 =>
 OP (iAdrSl 1 l7 x81) fun x82 =>
 OP (iLoad false 1 h x82) fun x83 =>
 OP (iBin .add t14 x83) fun x84 =>
 OP (iBin .add i15 (.int .i64 (1))) fun x71 =>
 ([z2, l7, e9, s10, row11] : List Value) = [z2, l7, e9, s10, row11] ∧ L1 [x84, x71] h)
 (p5z32 P K l7 e9 s10 row11 t14 h)) := (CutP_def _ _ _ _).trans (by kernel_rfl)
theorem q5z27 (z2 l7 e9 s10 row11 t14 i15 x66 : Value) (L1 : LK) (h : Heap) : p5z27 P K z2 l7 e9 s10 row11 t14 i15 x66 L1 h =
 (GdP x66 true
 (OP (iBin .lss i15 (.int .i64 (10))) fun x68 =>
 p5z29 P K z2 l7 e9 s10 row11 t14 i15 x66 x68 L1 h)
 (p5z29 P K z2 l7 e9 s10 row11 t14 i15 x66 undef L1 h)) := (CutP_def _ _ _ _).trans (by kernel_rfl)
theorem q5z23 (z2 l7 e9 s10 row11 : Value) (L1 : LK) (t14 i15 : Value) (h : Heap) : p5z23 P K z2 l7 e9 s10 row11 L1 [t14, i15] h =
 (OP (iLenSl z2) fun x64 =>
 OP (iBin .lss i15 x64) fun x65 =>
 p5z27 P K z2 l7 e9 s10 row11 t14 i15 x65 L1 h) := (CutP_def _ _ _ _).trans (by kernel_rfl)
theorem q5z74 (l7 e9 s10 row11 r16 n18 x156 x158 : Value) (h : Heap) : p5z74 P K l7 e9 s10 row11 r16 n18 x156 x158 h =
 (OP (iPick x156 (.bool true) x158) fun x159 =>
 IfP x159
 (K (.bool false) h)
 (LoopP [(.string ⟨#[]⟩), (.int .i64 (0))] h fun L1 xs hx =>
 p5z80 P K l7 e9 s10 row11 r16 n18 L1 xs hx)) := (CutP_def _ _ _ _).trans (by kernel_rfl)
theorem q5z72 (l7 e9 s10 row11 r16 n18 x156 : Value) (h : Heap) : p5z72 P K l7 e9 s10 row11 r16 n18 x156 h =
 (GdP x156 false
 (CallP P 15 [] h fun x157 h_1 =>
 OP (iUn .not x157) fun x158 =>
 p5z74 P K l7 e9 s10 row11 r16 n18 x156 x158 h_1)
 (p5z74 P K l7 e9 s10 row11 r16 n18 x156 undef h)) := (CutP_def _ _ _ _).trans (by kernel_rfl)
theorem q5z70 (l7 e9 s10 row11 r16 n18 x145 x154 : Value) (h : Heap) : p5z70 P K l7 e9 s10 row11 r16 n18 x145 x154 h =
 (OP (iPick x145 (.bool true) x154) fun x155 =>
 p5z72 P K l7 e9 s10 row11 r16 n18 x155 h) := (CutP_def _ _ _ _).trans (by kernel_rfl)
theorem q5z68 (l7 e9 s10 row11 r16 n18 m20 both22 x145 : Value) (h : Heap) : p5z68 P K l7 e9 s10 row11 r16 n18 m20 both22 x145 h =
 (GdP x145 false
 (CallP P 13 [both22] h fun x147 h_1 =>
 CallP P 13 [n18] h_1 fun x149 h_2 =>
 CallP P 13 [m20] h_2 fun x151 h_3 =>
 CallP P 26 [x149, x151] h_3 fun x152 h_4 =>
 CallP P 12 [x147, x152] h_4 fun x153 h_5 =>
 OP (iBin .lss x153 (.int .i64 (0))) fun x154 =>
 p5z70 P K l7 e9 s10 row11 r16 n18 x145 x154 h_5)
 (p5z70 P K l7 e9 s10 row11 r16 n18 x145 undef h)) := (CutP_def _ _ _ _).trans (by kernel_rfl)
theorem q5z66 (l7 e9 s10 row11 r16 n18 m20 both22 x140 x143 : Value) (h : Heap) : p5z66 P K l7 e9 s10 row11 r16 n18 m20 both22 x140 x143 h =
 (OP (iPick x140 (.bool true) x143) fun x144 =>
 p5z68 P K l7 e9 s10 row11 r16 n18 m20 both22 x144 h) := (CutP_def _ _ _ _).trans (by kernel_rfl)
theorem q5z64 (l7 e9 s10 row11 r16 n18 m20 both22 x140 : Value) (h : Heap) : p5z64 P K l7 e9 s10 row11 r16 n18 m20 both22 x140 h =
 (GdP x140 false
 (CallP P 25 [row11, r16] h fun x143 h_1 =>
 p5z66 P K l7 e9 s10 row11 r16 n18 m20 both22 x140 x143 h_1)
 (p5z66 P K l7 e9 s10 row11 r16 n18 m20 both22 x140 undef h)) := (CutP_def _ _ _ _).trans (by kernel_rfl)
theorem q5z62 (l7 e9 s10 row11 r16 n18 m20 both22 x135 x138 : Value) (h : Heap) : p5z62 P K l7 e9 s10 row11 r16 n18 m20 both22 x135 x138 h =
 (OP (iPick x135 (.bool true) x138) fun x139 =>
 p5z64 P K l7 e9 s10 row11 r16 n18 m20 both22 x139 h) := (CutP_def _ _ _ _).trans (by kernel_rfl)
theorem q5z60 (l7 e9 s10 row11 r16 n18 m20 both22 x135 : Value) (h : Heap) : p5z60 P K l7 e9 s10 row11 r16 n18 m20 both22 x135 h =
 (GdP x135 false
 (CallP P 24 [both22] h fun x137 h_1 =>
 OP (iUn .not x137) fun x138 =>
 p5z62 P K l7 e9 s10 row11 r16 n18 m20 both22 x135 x138 h_1)
 (p5z62 P K l7 e9 s10 row11 r16 n18 m20 both22 x135 undef h)) := (CutP_def _ _ _ _).trans (by kernel_rfl)
theorem q5z58 (l7 e9 s10 row11 r16 n18 m20 both22 x130 x133 : Value) (h : Heap) : p5z58 P K l7 e9 s10 row11 r16 n18 m20 both22 x130 x133 h =
 (OP (iPick x130 (.bool true) x133) fun x134 =>
 p5z60 P K l7 e9 s10 row11 r16 n18 m20 both22 x134 h) := (CutP_def _ _ _ _).trans (by kernel_rfl)
theorem q5z56 (l7 e9 s10 row11 r16 n18 m20 both22 x130 : Value) (h : Heap) : p5z56 P K l7 e9 s10 row11 r16 n18 m20 both22 x130 h =
 (GdP x130 false
 (CallP P 24 [m20] h fun x132 h_1 =>
 OP (iUn .not x132) fun x133 =>
 p5z58 P K l7 e9 s10 row11 r16 n18 m20 both22 x130 x133 h_1)
 (p5z58 P K l7 e9 s10 row11 r16 n18 m20 both22 x130 undef h)) := (CutP_def _ _ _ _).trans (by kernel_rfl)
theorem q5z54 (l7 e9 s10 row11 r16 n18 m20 both22 x125 x128 : Value) (h : Heap) : p5z54 P K l7 e9 s10 row11 r16 n18 m20 both22 x125 x128 h =
 (OP (iPick x125 (.bool true) x128) fun x129 =>
 p5z56 P K l7 e9 s10 row11 r16 n18 m20 both22 x129 h) := (CutP_def _ _ _ _).trans (by kernel_rfl)
theorem q5z52 (l7 e9 s10 row11 r16 n18 m20 both22 x125 : Value) (h : Heap) : p5z52 P K l7 e9 s10 row11 r16 n18 m20 both22 x125 h =
 (GdP x125 false
 (CallP P 24 [n18] h fun x127 h_1 =>
 OP (iUn .not x127) fun x128 =>
 p5z54 P K l7 e9 s10 row11 r16 n18 m20 both22 x125 x128 h_1)
 (p5z54 P K l7 e9 s10 row11 r16 n18 m20 both22 x125 undef h)) := (CutP_def _ _ _ _).trans (by kernel_rfl)
theorem q5z50 (l7 e9 s10 row11 r16 n18 m20 both22 x121 x123 : Value) (h : Heap) : p5z50 P K l7 e9 s10 row11 r16 n18 m20 both22 x121 x123 h =
 (OP (iPick x121 (.bool true) x123) fun x124 =>
 p5z52 P K l7 e9 s10 row11 r16 n18 m20 both22 x124 h) := (CutP_def _ _ _ _).trans (by kernel_rfl)
theorem q5z48 (l7 e9 s10 row11 r16 n18 m20 both22 i23 x121 : Value) (h : Heap) : p5z48 P K l7 e9 s10 row11 r16 n18 m20 both22 i23 x121 h =
 (GdP x121 false
 (OP (iBin .neq i23 (.int .i64 (0))) fun x123 =>
 p5z50 P K l7 e9 s10 row11 r16 n18 m20 both22 x121 x123 h)
 (p5z50 P K l7 e9 s10 row11 r16 n18 m20 both22 x121 undef h)) := (CutP_def _ _ _ _).trans (by kernel_rfl)
theorem q5z46 (l7 e9 s10 row11 r16 n18 m20 both22 i23 x117 x119 : Value) (h : Heap) : p5z46 P K l7 e9 s10 row11 r16 n18 m20 both22 i23 x117 x119 h =
 (OP (iPick x117 (.bool true) x119) fun x120 =>
 p5z48 P K l7 e9 s10 row11 r16 n18 m20 both22 i23 x120 h) := (CutP_def _ _ _ _).trans (by kernel_rfl)
theorem q5z44 (l7 e9 s10 row11 r16 n18 m20 h21 both22 i23 x117 : Value) (h : Heap) : p5z44 P K l7 e9 s10 row11 r16 n18 m20 h21 both22 i23 x117 h =
 (GdP x117 false
 (OP (iBin .neq h21 (.int .i64 (0))) fun x119 =>
 p5z46 P K l7 e9 s10 row11 r16 n18 m20 both22 i23 x117 x119 h)
 (p5z46 P K l7 e9 s10 row11 r16 n18 m20 both22 i23 x117 undef h)) := (CutP_def _ _ _ _).trans (by kernel_rfl)
theorem q5z42 (l7 e9 s10 row11 r16 n18 m20 h21 both22 i23 x113 x115 : Value) (h : Heap) : p5z42 P K l7 e9 s10 row11 r16 n18 m20 h21 both22 i23 x113 x115 h =
 (OP (iPick x113 (.bool true) x115) fun x116 =>
 p5z44 P K l7 e9 s10 row11 r16 n18 m20 h21 both22 i23 x116 h) := (CutP_def _ _ _ _).trans (by kernel_rfl)
theorem q5z40 (l7 e9 s10 row11 r16 n18 g19 m20 h21 both22 i23 x113 : Value) (h : Heap) : p5z40 P K l7 e9 s10 row11 r16 n18 g19 m20 h21 both22 i23 x113 h =
 (GdP x113 false
 (OP (iBin .neq g19 (.int .i64 (0))) fun x115 =>
 p5z42 P K l7 e9 s10 row11 r16 n18 m20 h21 both22 i23 x113 x115 h)
 (p5z42 P K l7 e9 s10 row11 r16 n18 m20 h21 both22 i23 x113 undef h)) := (CutP_def _ _ _ _).trans (by kernel_rfl)
theorem q5z90 (l7 e9 s10 row11 r16 n18 at24 k25 x171 x178 : Value) (L1 : LK) (h : Heap) : p5z90 P K l7 e9 s10 row11 r16 n18 at24 k25 x171 x178 L1 h =
 (OP (iPick x171 (.bool true) x178) fun x179 =>
 IfP x179
 (K (.bool false) h)
 (OP (iAdrSl 1 r16 k25) fun x184 =>
 OP (iLoad false 1 h x184) fun x185 =>
 OP (iAdrSl 1 l7 x185) fun x186 =>
 OP (iLoad false 1 h x186) fun x187 =>
 OP (iBin .add at24 x187) fun x188 =>
 OP (iBin .add k25 (.int .i64 (1))) fun x165 =>
 ([l7, e9, s10, row11, r16, n18] : List Value) = [l7, e9, s10, row11, r16, n18] ∧ L1 [x188, x165] h)) := (CutP_def _ _ _ _).trans (by kernel_rfl)
theorem q5z88 (l7 e9 s10 row11 r16 n18 at24 k25 x171 : Value) (L1 : LK) (h : Heap) : p5z88 P K l7 e9 s10 row11 r16 n18 at24 k25 x171 L1 h =
 (GdP x171 false
 (OP (iAdrSl 1 r16 k25) fun x174 =>
 OP (iLoad false 1 h x174) fun x175 =>
 OP (iLenSl l7) fun x177 =>
 OP (iBin .geq x175 x177) fun x178 =>
 p5z90 P K l7 e9 s10 row11 r16 n18 at24 k25 x171 x178 L1 h)
 (p5z90 P K l7 e9 s10 row11 r16 n18 at24 k25 x171 undef L1 h)) := (CutP_def _ _ _ _).trans (by kernel_rfl)
theorem q5z80 (l7 e9 s10 row11 r16 n18 : Value) (L1 : LK) (at24 k25 : Value) (h : Heap) : p5z80 P K l7 e9 s10 row11 r16 n18 L1 [at24, k25] h =
 (OP (iLenSl r16) fun x162 =>
 OP (iBin .lss k25 x162) fun x163 =>
 IfP x163
 (OP (iAdrSl 1 r16 k25) fun x168 =>
 OP (iLoad false 1 h x168) fun x169 =>
 OP (iBin .lss x169 (.int .i64 (0))) fun x170 =>
 p5z88 P K l7 e9 s10 row11 r16 n18 at24 k25 x170 L1 h)
 (p5z92 P K e9 s10 row11 r16 n18 at24 h)) := (CutP_def _ _ _ _).trans (by kernel_rfl)
theorem q5z109 (x192 x207 : Value) (h : Heap) : p5z109 P K x192 x207 h =
 (OP (iPick x192 x207 (.bool false)) fun x208 =>
 K x208 h) := (CutP_def _ _ _ _).trans (by kernel_rfl)
theorem q5z107 (x192 x195 x206 : Value) (h : Heap) : p5z107 P K x192 x195 x206 h =
 (GdP x192 true
 (OP (iPick x195 (.bool true) x206) fun x207 =>
 p5z109 P K x192 x207 h)
 (p5z109 P K x192 undef h)) := (CutP_def _ _ _ _).trans (by kernel_rfl)
theorem q5z105 (x192 x195 x202 x205 : Value) (h : Heap) : p5z105 P K x192 x195 x202 x205 h =
 (GdP x195 false
 (OP (iPick x202 x205 (.bool false)) fun x206 =>
 p5z107 P K x192 x195 x206 h)
 (p5z107 P K x192 x195 undef h)) := (CutP_def _ _ _ _).trans (by kernel_rfl)
theorem q5z103 (row11 r16 x192 x195 x202 : Value) (h : Heap) : p5z103 P K row11 r16 x192 x195 x202 h =
 (GdP x202 true
 (CallP P 23 [r16, row11] h fun x205 h_1 =>
 p5z105 P K x192 x195 x202 x205 h_1)
 (p5z105 P K x192 x195 x202 undef h)) := (CutP_def _ _ _ _).trans (by kernel_rfl)
theorem q5z101 (row11 r16 x192 x195 x198 x200 : Value) (h : Heap) : p5z101 P K row11 r16 x192 x195 x198 x200 h =
 (GdP x195 false
 (OP (iPick x198 x200 (.bool false)) fun x201 =>
 p5z103 P K row11 r16 x192 x195 x201 h)
 (p5z103 P K row11 r16 x192 x195 undef h)) := (CutP_def _ _ _ _).trans (by kernel_rfl)
theorem q5z99 (row11 r16 n18 x192 x195 x198 : Value) (h : Heap) : p5z99 P K row11 r16 n18 x192 x195 x198 h =
 (GdP x198 true
 (OP (iBin .eql n18 (.string ⟨#[49]⟩)) fun x200 =>
 p5z101 P K row11 r16 x192 x195 x198 x200 h)
 (p5z101 P K row11 r16 x192 x195 x198 undef h)) := (CutP_def _ _ _ _).trans (by kernel_rfl)
theorem q5z97 (e9 row11 r16 n18 x192 x195 : Value) (h : Heap) : p5z97 P K e9 row11 r16 n18 x192 x195 h =
 (GdP x195 false
 (OP (iBin .eql e9 (.int .i64 (5))) fun x197 =>
 p5z99 P K row11 r16 n18 x192 x195 x197 h)
 (p5z99 P K row11 r16 n18 x192 x195 undef h)) := (CutP_def _ _ _ _).trans (by kernel_rfl)
theorem q5z95 (e9 row11 r16 n18 x192 : Value) (h : Heap) : p5z95 P K e9 row11 r16 n18 x192 h =
 (GdP x192 true
 (OP (iBin .eql e9 (.int .i64 (0))) fun x194 =>
 p5z97 P K e9 row11 r16 n18 x192 x194 h)
 (p5z97 P K e9 row11 r16 n18 x192 undef h)) := (CutP_def _ _ _ _).trans (by kernel_rfl)
theorem q5z92 (e9 s10 row11 r16 n18 at24 : Value) (h : Heap) : p5z92 P K e9 s10 row11 r16 n18 at24 h =
 (OP (iBin .eql at24 s10) fun x191 =>
 p5z95 P K e9 row11 r16 n18 x191 h) := (CutP_def _ _ _ _).trans (by kernel_rfl)
theorem q5z32 (l7 e9 s10 row11 t14 : Value) (h : Heap) : p5z32 P K l7 e9 s10 row11 t14 h =
 (CallP P 17 [l7, s10] h fun x88 h_1 =>
 OP (iExt 0 x88) fun x89 =>
 OP (iExt 1 x88) fun x90 =>
 CallP P 10 [l7, s10] h_1 fun x94 h_2 =>
 OP (iExt 0 x94) fun x95 =>
 OP (iExt 1 x94) fun x96 =>
 CallP P 10 [l7, t14] h_2 fun x100 h_3 =>
 OP (iExt 0 x100) fun x101 =>
 OP (iExt 1 x100) fun x102 =>
 OP (iBin .add s10 t14) fun x107 =>
 CallP P 10 [l7, x107] h_3 fun x108 h_4 =>
 OP (iExt 0 x108) fun x109 =>
 OP (iExt 1 x108) fun x110 =>
 OP (iBin .neq x90 (.int .i64 (0))) fun x112 =>
 p5z40 P K l7 e9 s10 row11 x89 x95 x96 x101 x102 x109 x110 x112 h_4) := (CutP_def _ _ _ _).trans (by kernel_rfl)
theorem q5z18 (z2 l7 e9 s10 row11 : Value) (h : Heap) : p5z18 P K z2 l7 e9 s10 row11 h =
 (LoopP [(.string ⟨#[]⟩), (.int .i64 (0))] h fun L1 xs hx =>
 p5z23 P K z2 l7 e9 s10 row11 L1 xs hx) := (CutP_def _ _ _ _).trans (by kernel_rfl)
def T5 (x0 y1 z2 : Value) (h : Heap) : Prop :=
 CallP P 8 [x0] h fun x27 h_1 =>
 CallP P 9 [x27] h_1 fun x30 h_2 =>
 OP (iExt 0 x30) fun x31 =>
 OP (iExt 1 x30) fun x32 =>
 OH (iMkSl 3 0 [(.int .i64 (0))] h_2 []) fun x33 h_3 =>
 LoopP [(.string ⟨#[]⟩), x33, (.int .i64 (0))] h_3 fun L1 xs hx =>
 p5z8 P K y1 z2 x27 x32 L1 xs hx
theorem e5 (x0 y1 z2 : Value) (h : Heap) : iwpP P c5 (bodyP [.tmp 6] K) (frame0 [x0, y1, z2]) h = T5 P K x0 y1 z2 h := by kernel_rfl
theorem f5 {K : VK} {x0 y1 z2 : Value} {h : Heap} (H : T5 Tryz.prog K x0 y1 z2 h) : CallP Tryz.prog 5 [x0, y1, z2] h K :=
 callP_intro k5 (Nat.le_of_ble_eq_true rfl) ((e5 Tryz.prog K x0 y1 z2 h).mpr H)
/-! F6: pommel/pommellaw08.MarkKraft -/
noncomputable def c6z22 : ICode := .ops none [⟨some 46, .p (.pick (.tmp 43) (.const (.bool true)) (.tmp 45))⟩]
noncomputable def c6z20 : ICode := .seq (.ops (some (43, false)) [⟨some 44, .call 15 []⟩,⟨some 45, .p (.un .not (.tmp 44))⟩])
 (.cut [3, 5, 6, 43, 45] c6z22)
noncomputable def c6z18 : ICode := .seq (.ops none [⟨some 42, .p (.pick (.tmp 35) (.const (.bool true)) (.tmp 41))⟩,gm 43 42])
 (.cut [3, 5, 6, 43] c6z20)
noncomputable def c6z16 : ICode := .seq (.ops (some (35, false)) [⟨some 41, .p (.pick (.tmp 38) (.tmp 40) (.const (.bool false)))⟩])
 (.cut [3, 5, 6, 35, 41] c6z18)
noncomputable def c6z14 : ICode := .seq (.ops (some (38, true)) [gm 39 5,⟨some 40, .p (.bin .neq (.tmp 39) (ci (5)))⟩])
 (.cut [3, 5, 6, 35, 38, 40] c6z16)
noncomputable def c6z12 : ICode := .seq (.ops (some (35, false)) [gm 36 5,⟨some 37, .p (.bin .neq (.tmp 36) (ci (0)))⟩,gm 38 37])
 (.cut [3, 5, 6, 35, 38] c6z14)
noncomputable def c6z10 : ICode := .seq (.ops none [⟨some 34, .p (.pick (.tmp 30) (.const (.bool true)) (.tmp 33))⟩,gm 35 34])
 (.cut [3, 5, 6, 35] c6z12)
noncomputable def c6z8 : ICode := .seq (.ops (some (30, false)) [gm 31 6,⟨some 32, .call 24 [(.tmp 31)]⟩,⟨some 33, .p (.un .not (.tmp 32))⟩])
 (.cut [3, 5, 6, 30, 33] c6z10)
noncomputable def c6z6 : ICode := .cond (.tmp 46) (.seq (.ops none [⟨some 2, .p (.mv (.const (.bool false)))⟩])
 (.ret))
 (.skip)
noncomputable def c6z30 : ICode := .ops none [⟨some 57, .p (.pick (.tmp 54) (.tmp 56) (.const (.bool false)))⟩]
noncomputable def c6z28 : ICode := .seq (.ops (some (54, true)) [gm 55 8,⟨some 56, .p (.un .not (.tmp 55))⟩])
 (.cut [3, 8, 54, 56] c6z30)
noncomputable def c6z26 : ICode := .cond (.tmp 57) (.seq (.ops none [⟨some 2, .p (.mv (.const (.bool false)))⟩])
 (.ret))
 (.skip)
noncomputable def c6z39 : ICode := .ops none [⟨some 72, .p (.pick (.tmp 68) (.tmp 71) (.const (.bool false)))⟩,gm 2 72]
noncomputable def c6z37 : ICode := .seq (.ops (some (68, true)) [gm 69 9,⟨some 70, .p (.lenSl (.tmp 69))⟩,⟨some 71, .p (.bin .eql (.tmp 70) (ci (0)))⟩])
 (.cut [68, 71] c6z39)
noncomputable def c6z35 : ICode := .ret
noncomputable def c6z49 : ICode := .ops none [⟨some 87, .p (.pick (.tmp 80) (.const (.bool true)) (.tmp 86))⟩]
noncomputable def c6z47 : ICode := .seq (.ops (some (80, false)) [gm 81 9,⟨some 82, .call 28 [(.tmp 81)]⟩,gm 83 3,⟨some 84, .call 28 [(.tmp 83)]⟩,⟨some 85, .call 23 [(.tmp 82), (.tmp 84)]⟩,⟨some 86, .p (.un .not (.tmp 85))⟩])
 (.cut [9, 80, 86] c6z49)
noncomputable def c6z45 : ICode := .seq (.ops none [⟨some 79, .p (.pick (.tmp 75) (.const (.bool true)) (.tmp 78))⟩,gm 80 79])
 (.cut [3, 9, 80] c6z47)
noncomputable def c6z43 : ICode := .seq (.ops (some (75, false)) [gm 76 9,⟨some 77, .call 30 [(.tmp 76)]⟩,⟨some 78, .p (.bin .neq (.tmp 77) (ci (0)))⟩])
 (.cut [3, 9, 75, 78] c6z45)
noncomputable def c6z41 : ICode := .cond (.tmp 87) (.seq (.ops none [⟨some 2, .p (.mv (.const (.bool false)))⟩])
 (.ret))
 (.skip)
noncomputable def c6z57 : ICode := .ops none [⟨some 103, .p (.pick (.tmp 100) (.tmp 102) (.const (.bool false)))⟩,gm 2 103]
noncomputable def c6z55 : ICode := .seq (.ops (some (100, true)) [gm 101 14,⟨some 102, .p (.bin .eql (.tmp 101) (ci (5)))⟩])
 (.cut [100, 102] c6z57)
noncomputable def c6z53 : ICode := .ret
noncomputable def c6z40 : ICode := .seq (.ops none [gm 89 9,⟨some 90, .call 31 [(.tmp 89)]⟩,gm 88 90,⟨some 91, .p (.ext (.tmp 88) 0)⟩,⟨some 92, .p (.ext (.tmp 88) 1)⟩,gm 11 91,gm 12 92])
 (.seq (.ops none [gm 94 9,⟨some 95, .call 9 [(.tmp 94)]⟩,gm 93 95,⟨some 96, .p (.ext (.tmp 93) 0)⟩,⟨some 97, .p (.ext (.tmp 93) 1)⟩,gm 13 96,gm 14 97])
 (.seq (.seq (.ops none [gm 98 12,⟨some 99, .p (.bin .eql (.tmp 98) (ci (5)))⟩,gm 100 99])
 (.cut [14, 100] c6z55)) c6z53))
noncomputable def c6z33 : ICode := .seq (.seq (.seq (.ops none [gm 73 10,⟨some 74, .p (.bin .neq (.tmp 73) (ci (0)))⟩,gm 75 74])
 (.cut [3, 9, 75] c6z43)) c6z41) c6z40
noncomputable def c6z25 : ICode := .seq (.ops none [gm 59 3,⟨some 60, .call 28 [(.tmp 59)]⟩,⟨some 61, .call 29 [(.tmp 60)]⟩,gm 58 61,⟨some 62, .p (.ext (.tmp 58) 0)⟩,⟨some 63, .p (.ext (.tmp 58) 1)⟩,gm 9 62,gm 10 63])
 (.seq (.seq (.ops none [gm 64 8,⟨some 65, .p (.un .not (.tmp 64))⟩])
 (.cond (.tmp 65) (.seq (.seq (.ops none [gm 66 10,⟨some 67, .p (.bin .eql (.tmp 66) (ci (5)))⟩,gm 68 67])
 (.cut [9, 68] c6z37)) c6z35)
 (.skip))) c6z33)
noncomputable def c6z5 : ICode := .seq (.ops none [gm 47 6,⟨some 48, .call 13 [(.tmp 47)]⟩,⟨some 49, .call 14 [(ci (1))]⟩,⟨some 50, .call 12 [(.tmp 48), (.tmp 49)]⟩,⟨some 51, .p (.bin .leq (.tmp 50) (ci (0)))⟩,gm 8 51])
 (.seq (.seq (.seq (.ops none [gm 52 5,⟨some 53, .p (.bin .eql (.tmp 52) (ci (5)))⟩,gm 54 53])
 (.cut [3, 8, 54] c6z28)) c6z26) c6z25)
noncomputable def c6 : ICode := .seq (.ops none [⟨some 2, .p (.mv (.const (.bool false)))⟩])
 (.seq (.ops none [gm 15 0,⟨some 16, .call 8 [(.tmp 15)]⟩,gm 3 16])
 (.seq (.ops none [gm 18 3,⟨some 19, .call 9 [(.tmp 18)]⟩,gm 17 19,⟨some 20, .p (.ext (.tmp 17) 0)⟩,⟨some 21, .p (.ext (.tmp 17) 1)⟩,gm 4 20,gm 5 21])
 (.seq (.ops none [gm 23 3,⟨some 24, .call 28 [(.tmp 23)]⟩,⟨some 25, .call 27 [(.tmp 24)]⟩,gm 22 25,⟨some 26, .p (.ext (.tmp 22) 0)⟩,⟨some 27, .p (.ext (.tmp 22) 1)⟩,gm 6 26,gm 7 27])
 (.seq (.seq (.seq (.ops none [gm 28 7,⟨some 29, .p (.bin .neq (.tmp 28) (ci (0)))⟩,gm 30 29])
 (.cut [3, 5, 6, 30] c6z8)) c6z6) c6z5))))
theorem k6 : compFn Tryz.prog 6 [[], [], [], [], [3, 5, 6, 30], [3, 5, 6, 30, 33], [3, 5, 6, 35], [3, 5, 6, 35, 38], [3, 5, 6, 35, 38, 40], [3, 5, 6, 35, 41], [3, 5, 6, 43], [3, 5, 6, 43, 45], [], [], [], [], [3, 8, 54], [3, 8, 54, 56], [], [], [], [], [], [9, 68], [68, 71], [], [], [3, 9, 75], [3, 9, 75, 78], [3, 9, 80], [9, 80, 86], [], [], [], [], [], [14, 100], [100, 102], []] = some (104, c6, [.tmp 2]) := by kernel_rfl
def K6z0 (_P : Program) (K : VK) : Kont := bodyP [.tmp 2] K
def K6z5 : Kont := thenK (iwpP P c6z5 (K6z0 P K)) (K6z0 P K)
def K6z6 : Kont := thenK (iwpP P c6z6 (K6z5 P K)) (K6z5 P K)
def p6z8 (l3 e5 k6 x30 : Value) (h : Heap) : Prop := CutP (iwpP P c6z8 (K6z6 P K)) [3, 5, 6, 30] [l3, e5, k6, x30] h
def T6 (x0 : Value) (h : Heap) : Prop :=
 CallP P 8 [x0] h fun x16 h_1 =>
 CallP P 9 [x16] h_1 fun x19 h_2 =>
 OP (iExt 0 x19) fun x20 =>
 OP (iExt 1 x19) fun x21 =>
 CallP P 28 [x16] h_2 fun x24 h_3 =>
 CallP P 27 [x24] h_3 fun x25 h_4 =>
 OP (iExt 0 x25) fun x26 =>
 OP (iExt 1 x25) fun x27 =>
 OP (iBin .neq x27 (.int .i64 (0))) fun x29 =>
 p6z8 P K x16 x21 x26 x29 h_4
theorem e6 (x0 : Value) (h : Heap) : iwpP P c6 (bodyP [.tmp 2] K) (frame0 [x0]) h = T6 P K x0 h := by kernel_rfl
/-! F11: pommel/pommelref01.Integer -/
/-! F24: pommel/pommelref01.Valid -/
noncomputable def c24 : ICode := .seq (.ops none [⟨some 2, .p (.mv (.const (.bool false)))⟩])
 (.seq (.ops none [gm 6 0,⟨some 7, .call 51 [(.tmp 6)]⟩,gm 5 7,⟨some 8, .p (.ext (.tmp 5) 0)⟩,⟨some 9, .p (.ext (.tmp 5) 1)⟩,⟨some 3, .e (.alloc 38 [(.bool false), (.slice none 0 0), (.bool false), (.slice none 0 0)])⟩,
 ⟨none, .e (.store 4 (.tmp 3) (.tmp 8))⟩,gm 4 9])
 (.seq (.ops none [gm 10 4,gm 2 10])
 (.ret)))
theorem k24 : compFn Tryz.prog 24 [[], [], []] = some (11, c24, [.tmp 2]) := by kernel_rfl
def T24 (x0 : Value) (h : Heap) : Prop :=
 CallP P 51 [x0] h fun x7 h_1 =>
 OP (iExt 0 x7) fun x8 =>
 OP (iExt 1 x7) fun x9 =>
 OH (iAlloc 38 [(.bool false), (.slice none 0 0), (.bool false), (.slice none 0 0)] h_1) fun x3 h_2 =>
 OH (oStore 4 h_2 x3 x8) fun _ h_3 =>
 K x9 h_3
theorem e24 (x0 : Value) (h : Heap) : iwpP P c24 (bodyP [.tmp 2] K) (frame0 [x0]) h = T24 P K x0 h := by kernel_rfl
theorem f24 {K : VK} {x0 : Value} {h : Heap} (H : T24 Tryz.prog K x0 h) : CallP Tryz.prog 24 [x0] h K :=
 callP_intro k24 (Nat.le_of_ble_eq_true rfl) ((e24 Tryz.prog K x0 h).mpr H)
end Go.Proofs.YthplaillblmgfaaGreatDoor

namespace Go.Proofs.YthplaillblmgfaaGreatDoor
open Go.Sim

theorem C12 {va vb : Value} {a b c d : Int} {h : Heap} {K : Value → Heap → Prop} (ha : QZ h va a b) (hb : QZ h vb c d) (la : a.natAbs < bigW) (lb : b.natAbs < bigW) (lc : c.natAbs < bigW) (ld : d.natAbs < bigW) (lad : (a * d).natAbs < bigW) (lcb : (c * b).natAbs < bigW)
    (hk : ∀ h', EX h h' → K (I (isgn (a * d - c * b))) h') : CallP Tryz.prog 12 [va, vb] h K := by
  obtain ⟨u, w, rfl, hu, hw⟩ := ha
  obtain ⟨u', w', rfl, hu', hw'⟩ := hb
  refine f12 ?_
  unfold T12
  have e1 : ∀ (g : Heap) (s s' : Bool) (b d : Value), iBox 38 g (.agg #[B s, b, B s', d]) = some (pt g.length 0, g ++ [.arr 38 [B s, b, B s', d]]) := fun _ _ _ _ _ => rfl
  simp only [e1, OH_some]
  have x1 : EX h (h ++ [.arr 38 [B (decide (a < 0)), u, B (decide (b < 0)), w]]) := EX.append _ _
  have k1 : (h ++ [IObj.arr 38 [B (decide (a < 0)), u, B (decide (b < 0)), w]])[h.length]? = some (.arr 38 [B (decide (a < 0)), u, B (decide (b < 0)), w]) := get_last
  generalize h ++ [IObj.arr 38 [B (decide (a < 0)), u, B (decide (b < 0)), w]] = g at x1 k1 ⊢
  have x2 : EX g (g ++ [.arr 38 [B (decide (c < 0)), u', B (decide (d < 0)), w']]) := EX.append _ _
  have k2 : (g ++ [IObj.arr 38 [B (decide (c < 0)), u', B (decide (d < 0)), w']])[g.length]? = some (.arr 38 [B (decide (c < 0)), u', B (decide (d < 0)), w']) := get_last
  generalize g ++ [IObj.arr 38 [B (decide (c < 0)), u', B (decide (d < 0)), w']] = g2 at x2 k2 ⊢
  have k1 := x2.get k1
  have xx := x1.trans x2
  have za : ZV g2 (.agg #[B (decide (a < 0)), u]) a := ⟨u, rfl, hu.mono xx⟩
  have zb : ZV g2 (.agg #[B (decide (b < 0)), w]) b := ⟨w, rfl, hw.mono xx⟩
  have zc : ZV g2 (.agg #[B (decide (c < 0)), u']) c := ⟨u', rfl, hu'.mono xx⟩
  have zd : ZV g2 (.agg #[B (decide (d < 0)), w']) d := ⟨w', rfl, hw'.mono xx⟩
  have a0 := load4a k1
  have a2 := load4b k1
  have b0 := load4a k2
  have b2 := load4b k2
  simp only [fadr_pt, Nat.add_zero, Nat.zero_add, OP_some, a0, b2, true_and]
  refine C53 za zd la ld ?_
  intro r3 g3 x3 z3
  simp only [EX.load x3 b0, EX.load x3 a2, OP_some, b0, a2, true_and]
  refine C53 (zc.mono x3) (zb.mono x3) lc lb ?_
  intro r4 g4 x4 z4'
  refine C52 (z3.mono x4) z4' lad lcb ?_
  intro g5 x5
  exact hk g5 (xx.trans (x3.trans (x4.trans x5)))

theorem numS1 : numS ((1 : Nat) : Int) = [49] := by decide +kernel

theorem isgn_neg (x : Int) : decide (isgn x < 0) = decide (x < 0) := by
  unfold isgn
  refine decide_eq_decide.2 ?_
  split
  · omega
  · split <;> omega

theorem Rows'.flat_bits {W : List Tx} (ok : Ok W) {x : List Tx} (h : Rows' W x) : bitsB x.flatten = true := by
  induction x with
  | nil => rfl
  | cons v x ih =>
    rw [List.flatten_cons]
    exact bits_app (ok.bt v (h v List.mem_cons_self)) (ih h.tail)

theorem chkT {W : List Tx} (ok : Ok W) (h0 : W ≠ []) {s : Tx} (hs : s.length ≤ 200) (hb : bitsB s = true) : chkE W s = 0 := by
  have := ok.few
  unfold chkE
  rw [if_neg (by omega), if_neg (by simp [h0, hb]), if_pos ⟨ok.nd, fun w hw => ⟨ok.ne w hw, ok.le w hw, ok.bt w hw⟩⟩]

/-- Readings of a text of a code. -/
theorem readC {b : Nat} {v : Value} {W : List Tx} {s : Tx} {h : Heap} {K : Value → Heap → Prop} (ok : Ok W) (h0 : W ≠ []) (hv : OwnS b h 9 v (W.map S)) (hs : s.length ≤ 200) (hb : bitsB s = true)
    (hk : rdN W s s.length < bigW → ∀ h', EX h h' → K (.tuple #[S (numS (rdN W s s.length : Nat)), I 0]) h') : CallP Tryz.prog 10 [v, S s] h K :=
  C10 hv (ok_len ok).1 (ok_len ok).2 (by omega) (fun hc => absurd (chkT ok h0 hs hb) hc) fun _ => hk (small hs (by
    have hl := rdL_len W s s.length
    have := rdL_le (W := W) ok.few s s.length (rdN W s s.length) (by
      rw [rdN, List.getD_eq_getElem?_getD, List.getElem?_eq_getElem (by omega)]
      exact List.getElem_mem _)
    exact this))

section
variable {K : Value → Heap → Prop} (hk : ∀ h', K (B true) h')
include hk

end

end Go.Proofs.YthplaillblmgfaaGreatDoor


namespace Go.Proofs.YthplaillblmgfaaGreatDoor
open Go.Sim

theorem C24 {z : Int} {h : Heap} {K : Value → Heap → Prop} (hz : z.natAbs < bigW) (hk : ∀ h', EX h h' → K (B true) h') : CallP Tryz.prog 24 [S (numS z)] h K := by
  refine f24 (C51 hz ?_)
  intro r h1 x1 q
  obtain ⟨u, w, rfl, hu, hw⟩ := q
  have e1 : ∀ g : Heap, iAlloc 38 [(.bool false), (.slice none 0 0), (.bool false), (.slice none 0 0)] g = some (pt g.length 0, g ++ [.arr 38 z4]) := fun _ => rfl
  have k1 : (h1 ++ [IObj.arr 38 z4])[h1.length]? = some (.arr 38 z4) := get_last
  simp only [ext_tuple, pair0, pair1, OP_some, e1, OH_some]
  rw [store4 k1]
  simp only [OH_some]
  exact hk _ (x1.trans ((EX.append _ _).set (Nat.le_refl _) _))

section
variable {K : Value → Heap → Prop} (hk : ∀ h', K (B true) h')
include hk

theorem end5 (g : Heap) : p5z109 Tryz.prog K (B true) (B true) g := by
  rw [q5z109]
  simp only [iPick_t, OP_some]
  exact hk _

/-- After the texts of what was read have been put together. -/
theorem fin5 {b : Nat} {row r : Value} {W : List Tx} {ix ir : List Nat} {e9 : Int} {n : Nat} {g : Heap} (ok : Ok W) (hrow : OwnS b g 3 row (ix.map fun n : Nat => I n)) (hr : OwnS b g 3 r (ir.map fun n : Nat => I n)) (h1 : ∀ j ∈ ix, j < W.length) (h2 : ∀ j ∈ ir, j < W.length) (he : (wds W ir).flatten = (wds W ix).flatten) (hl : ix.length ≤ 1000)
    (hc : e9 = 0 ∨ e9 = 5 ∧ n = 1 ∧ ∀ t, ¬ Amb W t) : p5z92 Tryz.prog K (I e9) (S (wds W ix).flatten) row r (S (numS (n : Nat))) (S (wds W ir).flatten) g := by
  rw [q5z92, he]
  simp only [bin_eqlS, decide_true, OP_some]
  rw [q5z95]
  rcases hc with rfl | ⟨rfl, rfl, hn⟩
  · simp only [GdP_tt, bin_eql, decide_true, OP_some, q5z97, GdP_tf, q5z99, GdP_undef, q5z101, q5z103, q5z105, q5z107, iPick_t]
    exact end5 hk g
  · have e5 : decide ((5 : Int) = 0) = false := rfl
    have eix : ir = ix := by
      refine wds_inj ok.nd h2 h1 ?_
      apply Classical.byContradiction
      intro hne
      exact hn _ ⟨_, _, wds_rows h2, wds_rows h1, hne, rfl, he.symm⟩
    subst eix
    have e1 : iBin .eql (S [49]) (.string ⟨#[49]⟩) = some (B true) := rfl
    simp only [GdP_tt, bin_eql, e5, decide_true, OP_some, q5z97, GdP_ff, q5z99, numS1, e1, q5z101, iPick_t, q5z103]
    refine C23 (l := ir.map fun l : Nat => (l : Int)) (own_ns hr hl) (own_ns hrow hl) (by rw [List.length_map]; exact hl) ?_
    simp only [q5z105, GdP_ff, iPick_t, OP_some, q5z107, GdP_tt, iPick_f]
    exact end5 hk g

theorem at5 {b : Nat} {l7 row r : Value} {W : List Tx} {ix ir : List Nat} {e9 : Int} {n : Nat} {g : Heap} (ok : Ok W) (hW : SS g l7 W) (hrow : OwnS b g 3 row (ix.map fun n : Nat => I n)) (hr : OwnS b g 3 r (ir.map fun n : Nat => I n)) (h1 : ∀ j ∈ ix, j < W.length) (h2 : ∀ j ∈ ir, j < W.length) (he : (wds W ir).flatten = (wds W ix).flatten) (hl : ix.length ≤ 1000) (hlr : ir.length ≤ 1000)
    (hc : e9 = 0 ∨ e9 = 5 ∧ n = 1 ∧ ∀ t, ¬ Amb W t) : LoopP [(.string ⟨#[]⟩), (.int .i64 (0))] g fun L1 xs hx => p5z80 Tryz.prog K l7 (I e9) (S (wds W ix).flatten) row r (S (numS (n : Nat))) L1 xs hx := by
  have hrn := own_ns hr hlr
  refine loopL (σ := Nat) (fun k => [S (wds W (ir.take k)).flatten, I k]) (fun _ => g) (fun k => k ≤ ir.length) (fun k => ir.length - k) 0 (by simp [wds, S]) rfl (Nat.zero_le _) ?_
  intro k hkl L hL
  rw [q5z80]
  simp only [hrn.lenN, OP_some, bin_lss, IfP_dec]
  refine ⟨fun hlt => ?_, fun hge => ?_⟩
  · have hlt : k < ir.length := by omega
    obtain ⟨c, o, a1, a2⟩ := hrn.getN hlt
    have hj := h2 _ (List.getElem_mem hlt)
    obtain ⟨c2, o2, b1, b2⟩ := hW.get _ hj
    have wl := ok.le _ (List.getElem_mem hj)
    have e : (wds W (ir.take k)).flatten ++ W[ir[k]] = (wds W (ir.take (k + 1))).flatten := by
      rw [List.take_succ_eq_append_getElem hlt]
      simp only [wds, List.map_append, List.map_cons, List.map_nil, List.flatten_append, List.flatten_cons, List.flatten_nil, List.append_nil, getD_mem hj]
    have fl : ∀ m, (wds W (ir.take m)).flatten.length ≤ 10 * m := by
      intro m
      have : ∀ l : List Nat, (∀ j ∈ l, j < W.length) → (wds W l).flatten.length ≤ 10 * l.length := by
        intro l hl
        induction l with
        | nil => simp [wds]
        | cons j l ih =>
          have hj := hl j List.mem_cons_self
          have := ok.le _ (List.getElem_mem hj)
          have := ih fun a ha => hl a (List.mem_cons_of_mem _ ha)
          have e : wds W (j :: l) = W[j] :: wds W l := by simp only [wds, List.map_cons, getD_mem hj]
          rw [e, List.flatten_cons, List.length_append, List.length_cons]
          omega
      have := this (ir.take m) fun j hj => h2 j (List.mem_of_mem_take hj)
      rw [List.length_take] at this
      omega
    have flk := fl k
    simp only [a1, a2, OP_some, bin_lss]
    rw [q5z88, decide_eq_false (show ¬ ((ir[k] : Nat) : Int) < 0 by omega)]
    simp only [GdP_ff, a1, a2, hW.len, OP_some, bin_geq]
    rw [q5z90, decide_eq_false (show ¬ (W.length : Int) ≤ (ir[k] : Nat) by omega)]
    simp only [iPick_f, OP_some, IfP_false, a1, a2, b1, b2, bin_addS (a := (wds W (ir.take k)).flatten) (b := W[ir[k]]) (by simp only [maxLen]; omega), e, bin_add, inc k (by omega), true_and]
    exact hL (k + 1) hlt (by omega)
  · have : k = ir.length := by omega
    subst this
    rw [List.take_length]
    exact fin5 hk ok hrow hr h1 h2 he hl hc

theorem mid5 {l7 row : Value} {W : List Tx} {ix : List Nat} {t : Tx} {e9 : Int} {b : Nat} {g0 g : Heap} (ok : Ok W) (h0 : W ≠ []) (xg0 : EX g0 g) (hW : OwnS b g0 9 l7 (W.map S)) (hrow : OwnS g0.length g 3 row (ix.map fun n : Nat => I n)) (h1 : ∀ j ∈ ix, j < W.length) (hl : ix.length ≤ 10) (hs : (wds W ix).flatten.length ≤ 100) (ht : t.length ≤ 100) (bt : bitsB t = true)
    (hc : e9 = 0 ∨ e9 = 5 ∧ ∀ t, ¬ Amb W t) : p5z32 Tryz.prog K l7 (I e9) (S (wds W ix).flatten) row (S t) g := by
  have hwr := wds_rows h1
  have bs := hwr.flat_bits ok
  have hWg := own9 xg0 hW
  have few := ok.few
  rw [q5z32]
  have can : canB W (wds W ix).flatten 0 = true := by
    simp only [canB, decide_eq_true_eq]
    exact ⟨_, hwr, rfl⟩
  have pd := rd_mul ok.nd ok.ne (wds W ix).flatten t
  have one : (∀ t, ¬ Amb W t) → rdN W (wds W ix).flatten (wds W ix).flatten.length = 1 := fun hn => rd_one ok.nd ok.ne hwr rfl (hn _)
  have lst := fun {ir : List Nat} (gr : Grd W (wds W ix).flatten 0 ir) => gr.least ok.ne h1 rfl
  have rdd := fun {ir : List Nat} (gr : Grd W (wds W ix).flatten 0 ir) => gr.read
  have len1 : (wds W ix).flatten.length ≤ 200 := by omega
  have hsl := (wds W ix).flatten
  refine C17 hWg (ok_len ok).1 (ok_len ok).2 (by omega) (fun hc' => absurd (chkT ok h0 len1 bs) hc') (fun _ hno => by rw [can] at hno; cases hno) (fun _ _ ir u g1 gr x1 own1 => ?_)
  obtain ⟨h2, he⟩ := rdd gr
  have lx := lst gr
  rw [List.drop_zero] at he
  simp only [ext_tuple, pair0, pair1, OP_some]
  refine readC ok h0 (own9 x1 hWg) len1 bs ?_
  intro bn g2 x2
  simp only [ext_tuple, pair0, pair1, OP_some]
  refine readC ok h0 (own9 (x1.trans x2) hWg) (by omega) bt ?_
  intro bm g3 x3
  have e1 : (wds W ix).flatten.length + t.length ≤ maxLen := by simp only [maxLen]; omega
  simp only [ext_tuple, pair0, pair1, OP_some, bin_addS (a := (wds W ix).flatten) (b := t) e1]
  refine readC ok h0 (own9 (x1.trans (x2.trans x3)) hWg) (by rw [List.length_append]; omega) (bits_app bs bt) ?_
  intro bb g4 x4
  have rcase : ∀ n : Nat, n = rdN W (wds W ix).flatten (wds W ix).flatten.length → (e9 = 0 ∨ e9 = 5 ∧ n = 1 ∧ ∀ t, ¬ Amb W t) := fun n hn => hc.imp id fun h => ⟨h.1, by rw [hn, one h.2], h.2⟩
  have rc := rcase _ rfl
  have prodb : rdN W (wds W ix).flatten (wds W ix).flatten.length * rdN W t t.length < bigW := Nat.lt_of_le_of_lt pd bb
  generalize rdN W (wds W ix).flatten (wds W ix).flatten.length = n at pd bn rc prodb
  generalize rdN W t t.length = m at pd bm prodb
  generalize rdN W ((wds W ix).flatten ++ t) ((wds W ix).flatten ++ t).length = q at pd bb
  have x14 := x1.trans (x2.trans (x3.trans x4))
  have nb : (n : Int).natAbs < bigW := by rw [Int.natAbs_natCast]; exact bn
  have mb : (m : Int).natAbs < bigW := by rw [Int.natAbs_natCast]; exact bm
  have qb : (q : Int).natAbs < bigW := by rw [Int.natAbs_natCast]; exact bb
  have o1 : (1 : Int).natAbs < bigW := lt_bigW (by decide)
  have hlr : ir.length ≤ 1000 := by
    have : ∀ l : List Nat, (∀ j ∈ l, j < W.length) → l.length ≤ (wds W l).flatten.length := by
      intro l hl
      induction l with
      | nil => simp
      | cons j l ih =>
        have hj := hl j List.mem_cons_self
        have := List.length_pos_iff.2 (ok.ne _ (List.getElem_mem hj))
        have := ih fun a ha => hl a (List.mem_cons_of_mem _ ha)
        have e : wds W (j :: l) = W[j] :: wds W l := by simp only [wds, List.map_cons, getD_mem hj]
        rw [e, List.flatten_cons, List.length_append, List.length_cons]
        omega
    have := this ir h2
    rw [he] at this
    omega
  have own4 : OwnS g.length g4 3 u (ir.map fun n : Nat => I n) := own1.keep fun d n' hv _ => (x2.trans (x3.trans x4)).2 d (own1.lt hv).2.1
  have row4 : OwnS g0.length g4 3 row (ix.map fun n : Nat => I n) := hrow.keep fun d n' hv _ => x14.2 d (hrow.lt hv).2.1
  simp only [ext_tuple, pair0, pair1, OP_some, bin_neq, decide_true, Bool.not_true, q5z40, GdP_ff, q5z42, iPick_f, q5z44, q5z46, q5z48, q5z50, q5z52]
  refine C24 nb ?_
  intro g5 x5
  simp only [un_not, OP_some, Bool.not_true, q5z54, iPick_f, q5z56, GdP_ff]
  refine C24 mb ?_
  intro g6 x6
  simp only [un_not, OP_some, Bool.not_true, q5z58, iPick_f, q5z60, GdP_ff]
  refine C24 qb ?_
  intro g7 x7
  simp only [un_not, OP_some, Bool.not_true, q5z62, iPick_f, q5z64, GdP_ff]
  have x57 := x5.trans (x6.trans x7)
  refine C25x ((own_ns row4 (by omega)).mono x57) ((own_ns own4 hlr).mono x57) (by omega) lx ?_
  simp only [q5z66, iPick_f, OP_some, q5z68, GdP_ff]
  refine C13 qb ?_
  intro r8 g8 x8 q8
  refine C13 nb ?_
  intro r9 g9 x9 q9
  refine C13 mb ?_
  intro r10 g10 x10 q10
  refine C26 (q9.mono x10) q10 nb o1 mb o1 ?_
  intro r11 g11 x11 q11
  have pm : ((n : Int) * m).natAbs < bigW := by
    rw [← Int.natCast_mul, Int.natAbs_natCast]; exact prodb
  refine C12 (q8.mono (x9.trans (x10.trans x11))) q11 qb o1 pm (by decide) (by rw [Int.mul_one, Int.mul_one]; exact qb) (by rw [Int.mul_one]; exact pm) ?_
  intro g12 x12
  have sg : decide (isgn ((q : Int) * (1 * 1) - (n : Int) * m * 1) < 0) = false := by
    rw [isgn_neg]
    refine decide_eq_false ?_
    have : ((n : Int) * m) ≤ q := by rw [← Int.natCast_mul]; omega
    omega
  simp only [bin_lss, sg, OP_some, q5z70, iPick_f, q5z72, GdP_ff]
  refine C15 ?_
  simp only [un_not, OP_some, Bool.not_true, q5z74, iPick_f, IfP_false]
  have xe := x57.trans (x8.trans (x9.trans (x10.trans (x11.trans x12))))
  have row12 : OwnS 0 g12 3 row (ix.map fun n : Nat => I n) := (OwnS.up (Nat.zero_le _) row4).keep fun d n' hv _ => xe.2 d (row4.lt hv).2.1
  have own12 : OwnS 0 g12 3 u (ir.map fun n : Nat => I n) := (OwnS.up (Nat.zero_le _) own4).keep fun d n' hv _ => xe.2 d (own4.lt hv).2.1
  exact at5 hk ok ((own_ss hWg).mono (x14.trans xe)) row12 own12 h1 h2 he (by omega) hlr rc

end

end Go.Proofs.YthplaillblmgfaaGreatDoor


namespace Go.Proofs.YthplaillblmgfaaGreatDoor
open Go.Sim

section
variable {K : Value → Heap → Prop} (hk : ∀ h', K (B true) h')
include hk

theorem snd5 {l7 row vz : Value} {zs : List Int} {W : List Tx} {ix : List Nat} {e9 : Int} {b : Nat} {g0 g : Heap} (ok : Ok W) (h0 : W ≠ []) (xg0 : EX g0 g) (hW : OwnS b g0 9 l7 (W.map S)) (hz : INS g 5 .u8 vz zs) (hzs : ∀ x ∈ zs, 0 ≤ x ∧ x < 256) (hrow : OwnS g0.length g 3 row (ix.map fun n : Nat => I n)) (h1 : ∀ j ∈ ix, j < W.length) (hl : ix.length ≤ 10) (hs : (wds W ix).flatten.length ≤ 100)
    (hc : e9 = 0 ∨ e9 = 5 ∧ ∀ t, ¬ Amb W t) : p5z18 Tryz.prog K vz l7 (I e9) (S (wds W ix).flatten) row g := by
  have hW1 := own_ss (own9 xg0 hW)
  have wp : 0 < W.length := List.length_pos_iff.2 h0
  have few := ok.few
  have hzl : iLenSl vz = some (I zs.length) := IS.len hz
  rw [q5z18]
  refine loopL (σ := Nat × List Tx) (fun q => [S q.2.flatten, I q.1]) (fun _ => g) (fun q => q.1 ≤ 10 ∧ Rows' W q.2 ∧ q.2.flatten.length ≤ 10 * q.1) (fun q => 10 - q.1) (0, []) rfl rfl ⟨Nat.zero_le _, fun w hw => by simp at hw, by simp⟩ ?_
  rintro ⟨i, x⟩ ⟨hi, hx, hxl⟩ L hL
  simp only at hi hx hxl hL ⊢
  have done : p5z32 Tryz.prog K l7 (I e9) (S (wds W ix).flatten) row (S x.flatten) g := mid5 hk ok h0 xg0 hW hrow h1 hl hs (by omega) (hx.flat_bits ok) hc
  rw [q5z23]
  simp only [hzl, OP_some, bin_lss]
  rw [q5z27]
  by_cases c1 : i < zs.length
  · rw [decide_eq_true (show (i : Int) < zs.length by omega)]
    simp only [GdP_tt, bin_lss, OP_some]
    rw [q5z29]
    by_cases c2 : i < 10
    · rw [decide_eq_true (show (i : Int) < 10 by omega)]
      obtain ⟨bb, o, a1, a2⟩ := INS.at hz c1
      have hyi := hzs _ (List.getElem_mem c1)
      obtain ⟨m, hm⟩ : ∃ m : Nat, zs[i] = (m : Int) := ⟨zs[i].toNat, by omega⟩
      rw [hm] at a2 hyi
      have cx : iConv .i64 (.int .u8 (m : Int)) = some (I m) := by rw [conv_int, wrap64 (by omega) (by omega)]
      have rm : iBin .rem (I m) (I W.length) = some (I ((m % W.length : Nat) : Int)) := rem_nat .i64 m W.length (by omega)
      have hlt := Nat.mod_lt m wp
      obtain ⟨b2, o2, d1, d2⟩ := hW1.get _ hlt
      have mem := List.getElem_mem hlt
      have wl := ok.le _ mem
      have fl : x.flatten ++ W[m % W.length] = (x ++ [W[m % W.length]]).flatten := by simp
      simp only [iPick_t, OP_some, IfP_true, a1, a2, cx, hW1.len, rm, d1, d2, bin_addS (a := x.flatten) (b := W[m % W.length]) (by simp only [maxLen]; omega), fl, bin_add, inc i (by omega), true_and]
      refine hL (i + 1, x ++ [W[m % W.length]]) ⟨c2, hx.snoc mem, ?_⟩ (by show 10 - (i + 1) < 10 - i; omega)
      show (x ++ [W[m % W.length]]).flatten.length ≤ 10 * (i + 1)
      rw [← fl, List.length_append]
      omega
    · rw [decide_eq_false (show ¬ (i : Int) < 10 by omega)]
      simp only [iPick_t, OP_some, IfP_false]
      exact done
  · rw [decide_eq_false (show ¬ (i : Int) < zs.length by omega)]
    simp only [GdP_ft]
    rw [q5z29]
    simp only [iPick_f, OP_some, IfP_false]
    exact done

theorem fst5 {l7 vy vz : Value} {ys zs : List Int} {W : List Tx} {e9 : Int} {b : Nat} {g0 : Heap} (ok : Ok W) (h0 : W ≠ []) (hW : OwnS b g0 9 l7 (W.map S)) (hy : INS g0 5 .u8 vy ys) (hys : ∀ x ∈ ys, 0 ≤ x ∧ x < 256) (hz : INS g0 5 .u8 vz zs) (hzs : ∀ x ∈ zs, 0 ≤ x ∧ x < 256)
    (hc : e9 = 0 ∨ e9 = 5 ∧ ∀ t, ¬ Amb W t) : OH (iMkSl 3 0 [(.int .i64 (0))] g0 []) fun x33 h_3 => LoopP [(.string ⟨#[]⟩), x33, (.int .i64 (0))] h_3 fun L1 xs hx => p5z8 Tryz.prog K vy vz l7 (I e9) L1 xs hx := by
  have wp : 0 < W.length := List.length_pos_iff.2 h0
  have few := ok.few
  simp only [mk0, OH_some]
  refine loopL (σ := Nat × List Nat × Value × Heap) (fun q => [S (wds W q.2.1).flatten, q.2.2.1, I q.1]) (fun q => q.2.2.2) (fun q => q.1 ≤ 10 ∧ q.2.1.length = q.1 ∧ (∀ j ∈ q.2.1, j < W.length) ∧ (wds W q.2.1).flatten.length ≤ 10 * q.1 ∧ EX g0 q.2.2.2 ∧ OwnS g0.length q.2.2.2 3 q.2.2.1 (q.2.1.map fun n : Nat => I n)) (fun q => 10 - q.1)
    (0, [], sl 3 g0.length 0 0, g0 ++ [.arr 3 []]) rfl rfl ⟨Nat.zero_le _, rfl, fun j hj => by simp at hj, by simp [wds], EX.append _ _, .inr ⟨g0.length, Nat.le_refl _, rfl, get_last⟩⟩ ?_
  rintro ⟨i, ix, vo, g⟩ ⟨hi, hil, hix, hfl, xg, own⟩ L hL
  simp only at hi hil hix hfl xg own hL ⊢
  have hy1 : INS g 5 .u8 vy ys := IS.mono xg hy
  have hyl : iLenSl vy = some (I ys.length) := IS.len hy1
  have hW1 := own_ss hW
  have done : p5z18 Tryz.prog K vz l7 (I e9) (S (wds W ix).flatten) vo g := snd5 hk ok h0 xg hW (IS.mono xg hz) hzs own hix (by omega) (by omega) hc
  rw [q5z8]
  simp only [hyl, OP_some, bin_lss]
  rw [q5z12]
  by_cases c1 : i < ys.length
  · rw [decide_eq_true (show (i : Int) < ys.length by omega)]
    simp only [GdP_tt, bin_lss, OP_some]
    rw [q5z14]
    by_cases c2 : i < 10
    · rw [decide_eq_true (show (i : Int) < 10 by omega)]
      obtain ⟨bb, o, a1, a2⟩ := INS.at hy1 c1
      have hyi := hys _ (List.getElem_mem c1)
      obtain ⟨m, hm⟩ : ∃ m : Nat, ys[i] = (m : Int) := ⟨ys[i].toNat, by omega⟩
      rw [hm] at a2 hyi
      have cx : iConv .i64 (.int .u8 (m : Int)) = some (I m) := by rw [conv_int, wrap64 (by omega) (by omega)]
      have rm : iBin .rem (I m) (I W.length) = some (I ((m % W.length : Nat) : Int)) := rem_nat .i64 m W.length (by omega)
      have hlt := Nat.mod_lt m wp
      obtain ⟨b2, o2, d1, d2⟩ := hW1.get _ hlt
      have mem := List.getElem_mem hlt
      have wl := ok.le _ mem
      have fl : (wds W ix).flatten ++ W[m % W.length] = (wds W (ix ++ [m % W.length])).flatten := by
        simp only [wds, List.map_append, List.map_cons, List.map_nil, List.flatten_append, List.flatten_cons, List.flatten_nil, List.append_nil, getD_mem hlt]
      have mk1 : iMkSl 3 1 [(.int .i64 (0))] g [(0, 1, I ((m % W.length : Nat) : Int))] = some (sl 3 g.length 0 1, g ++ [.arr 3 [I ((m % W.length : Nat) : Int)]]) := by
        have va : ∀ n : Int, vcells (I n) = [I n] := fun _ => rfl
        have na : ∀ n : Int, noTuple (I n) = true := fun _ => rfl
        simp [iMkSl, fillL, zrep, setAt, va, na]
      have x1 : EX g (g ++ [.arr 3 [I ((m % W.length : Nat) : Int)]]) := EX.append _ _
      have k1 : (g ++ [IObj.arr 3 [I ((m % W.length : Nat) : Int)]])[g.length]? = some (.arr 3 [I ((m % W.length : Nat) : Int)]) := get_last
      have len : iLenSl l7 = some (I W.length) := hW1.len
      simp only [iPick_t, OP_some, IfP_true, a1, a2, cx, len, rm, d1, EX.load xg d2, bin_addS (a := (wds W ix).flatten) (b := W[m % W.length]) (by simp only [maxLen]; omega), mk1, OH_some, true_and]
      refine ⟨⟨EX.load (xg.trans x1) d2, trivial⟩, ?_⟩
      have own1 : OwnS g0.length (g ++ [.arr 3 [I ((m % W.length : Nat) : Int)]]) 3 vo (ix.map fun n : Nat => I n) := own.keep fun d n hv _ => x1.2 d (own.lt hv).2.1
      generalize g ++ [IObj.arr 3 [I ((m % W.length : Nat) : Int)]] = ga at x1 k1 own1 ⊢
      have sc : sliceCells ga 1 (sl 3 g.length 0 1) = some [I ((m % W.length : Nat) : Int)] := by simp [sliceCells, sl, objCells, k1]
      refine app_own own1 (xg.trans x1) sc rfl (by simp; omega) ?_
      intro v' g' x' _ own'
      refine ⟨⟨EX.load x' d2, trivial⟩, ?_⟩
      rw [fl]
      simp only [bin_add, inc i (by omega), OP_some, true_and]
      refine hL (i + 1, ix ++ [m % W.length], v', g') ⟨c2, by show (ix ++ [m % W.length]).length = i + 1; simp [hil], fun j hj => ?_, ?_, x', ?_⟩ (by show 10 - (i + 1) < 10 - i; omega)
      · rcases List.mem_append.1 hj with hj | hj
        · exact hix j hj
        · rw [List.mem_singleton.1 hj]; exact hlt
      · show (wds W (ix ++ [m % W.length])).flatten.length ≤ 10 * (i + 1)
        rw [← fl, List.length_append]
        omega
      · show OwnS g0.length g' 3 v' ((ix ++ [m % W.length]).map fun n : Nat => I n)
        rw [List.map_append]
        exact own'
    · rw [decide_eq_false (show ¬ (i : Int) < 10 by omega)]
      simp only [iPick_t, OP_some, IfP_false]
      exact done
  · rw [decide_eq_false (show ¬ (i : Int) < ys.length by omega)]
    simp only [GdP_ft]
    rw [q5z14]
    simp only [iPick_f, OP_some, IfP_false]
    exact done

end

theorem C5 {vx vy vz : Value} {ns ys zs : List Int} {h : Heap} {K : Value → Heap → Prop} (hv : INS h 73 .u16 vx ns) (hnl : ns.length ≤ maxLen) (hns : ∀ x ∈ ns, 0 ≤ x ∧ x < 65536) (hy : INS h 5 .u8 vy ys) (hys : ∀ x ∈ ys, 0 ≤ x ∧ x < 256) (hz : INS h 5 .u8 vz zs) (hzs : ∀ x ∈ zs, 0 ≤ x ∧ x < 256) (hk : ∀ h', K (B true) h') : CallP Tryz.prog 5 [vx, vy, vz] h K := by
  refine f5 (C8 hv hnl hns ?_)
  intro W u h1 ok h0 x1 own
  have hy1 : INS h1 5 .u8 vy ys := IS.mono x1 hy
  have hz1 : INS h1 5 .u8 vz zs := IS.mono x1 hz
  refine clearC ok h0 own (fun hno h2 x2 => ?_) (fun t r _ h2 x2 => ?_)
  · simp only [ext_tuple, pair0, pair1, OP_some]
    refine fst5 hk ok h0 (own9 x2 own) (IS.mono x2 hy1) hys (IS.mono x2 hz1) hzs (.inr ⟨rfl, fun t ha => ?_⟩)
    obtain ⟨t', r, _⟩ := ha.rc ok.ne
    exact hno t' r
  · simp only [ext_tuple, pair0, pair1, OP_some]
    exact fst5 hk ok h0 (own9 x2 own) (IS.mono x2 hy1) hys (IS.mono x2 hz1) hzs (.inl rfl)

end Go.Proofs.YthplaillblmgfaaGreatDoor

