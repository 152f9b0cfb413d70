/-
  Part 7 of the texts behind a statement of this seat: Rs2, HDO, HMk30, HZR2, HCt45, HCt46, HCt47, HZq2, HZR3, Rs3.
-/
import Derived.Test.YthplaillblmgfaaGreatDoorProg
import Derived.KernelRfl
import Derived.Test.YthplaillblmgfaaGreatDoorReads6
namespace Go.Proofs.YthplaillblmgfaaGreatDoor
open Go.Sim

/-- Keeps what begins with a digit of the reference's numbers. -/
def isZ : Value → Bool
  | .int .i64 _ => true
  | _ => false

theorem DSz.keep {e : TypeId} {h h' : Heap} {v : Value} {xs : List Nat} (x : KP isZ h h') (p : DS e .i64 h v xs) : DS e .i64 h' v xs := by
  refine p.imp id fun ⟨i, a, b⟩ => ⟨i, a, ?_⟩
  cases xs with
  | nil => exact .inl rfl
  | cons y ys =>
    obtain ⟨r, c⟩ := b.resolve_left (by simp)
    exact .inr ⟨r, x i _ _ c rfl⟩

theorem ZV.keep {h h' : Heap} {v : Value} {a : Int} (x : KP isZ h h') (p : ZV h v a) : ZV h' v a := let ⟨u, e, xs, d, c, q⟩ := p; ⟨u, e, xs, DSz.keep x d, c, q⟩

def OwnZ (b : Nat) (h : Heap) (v : Value) (zs : List Nat) : Prop :=
  ∃ rows, OwnR b h 36 2 v rows ∧ rows.length = zs.length ∧ (∀ r ∈ rows, ∃ s t, r = .bool s :: t) ∧ ∀ (k : Nat) (row : List Value) (z : Nat), rows[k]? = some row → zs[k]? = some z → ZV h (.agg row.toArray) z

theorem flat_boolZ {rows : List (List Value)} (h : ∀ r ∈ rows, ∃ s t, r = .bool s :: t) : ∀ c r, rows.flatten = c :: r → isZ c = false := by
  intro c r hc
  cases rows with
  | nil => simp at hc
  | cons x xs =>
    obtain ⟨s, t, rfl⟩ := h x (by simp)
    simp at hc
    rw [← hc.1]; rfl

theorem OwnZ.ex {b : Nat} {h h' : Heap} {v : Value} {zs : List Nat} (x : EX h h') (o : OwnZ b h v zs) : OwnZ b h' v zs :=
  let ⟨rows, a, c, e, d⟩ := o; ⟨rows, a.ex x, c, e, fun k r q h1 h2 => (d k r q h1 h2).mono x⟩

theorem OwnZ.set {b : Nat} {h : Heap} {v : Value} {zs : List Nat} {j : Nat} {e : TypeId} {s : Bool} {r : List Value} (o : OwnZ b h v zs) (hj : h[j]? = some (.arr e (.bool s :: r))) (hne : ∀ n, v ≠ sl 36 j 0 n) (ob : IObj) : OwnZ b (h.set j ob) v zs :=
  let ⟨rows, a, c, e', d⟩ := o
  ⟨rows, a.keep fun d' n hv _ => List.getElem?_set_ne fun hjd => by subst hjd; exact hne n hv, c, e', fun k r q h1 h2 => (d k r q h1 h2).setB hj ob⟩

theorem OwnZ.get {b : Nat} {h : Heap} {v : Value} {zs : List Nat} (p : OwnZ b h v zs) {k : Nat} (hk : k < zs.length) : ∃ i o r, iAdrSl 2 v (I k) = some (pt i o) ∧ iLoad true 2 h (pt i o) = some r ∧ ZV h r zs[k] := by
  obtain ⟨rows, a, b, _, c⟩ := p
  have hk' : k < rows.length := by omega
  obtain ⟨i, o, cs, g1, g2, g3, g4⟩ := a.rs.get hk'
  exact ⟨i, o, _, g1, row_all g2 g3 g4, c k _ _ (List.getElem?_eq_getElem hk') (List.getElem?_eq_getElem hk)⟩

theorem ZV.cells {h : Heap} {v : Value} {a : Int} (p : ZV h v a) : noTuple v = true ∧ ∃ s u, v = .agg #[B s, u] ∧ vcells v = [B s, u] := by
  obtain ⟨u, rfl, _⟩ := p
  exact ⟨rfl, _, _, rfl, rfl⟩

theorem OwnZ.app {h0 h : Heap} {v x : Value} {a : Nat} {zs : List Nat} {z0 : List Value} {K : Value → Heap → Prop} (o : OwnZ h0.length h v zs) (hex : EX h0 h) (hx : ZV h x a) (hz : z0.length = 2) (hl : zs.length ≤ 10000)
    (hk : ∀ v' h', EX h0 h' → OwnZ h0.length h' v' (zs ++ [a]) → K v' h') : OH (iMkSl 36 1 z0 h [(0, 2, x)]) fun y h2 => OH (iApp 36 2 32 h2 v y) K := by
  obtain ⟨rows, o1, o2, o3, o4⟩ := o
  obtain ⟨t1, s, u, e1, e2⟩ := hx.cells
  refine o1.app hex hz t1 e2 rfl (by omega) (by simp [maxLen]; omega) ?_
  intro v' h' x' hold o'
  have kp : KP isZ h h' := o1.kp (flat_boolZ o3) hold
  refine hk v' h' x' ⟨_, o', by simp [o2], fun r hr => ?_, fun k row q h1 h2 => ?_⟩
  · rcases List.mem_append.1 hr with hr | hr
    · exact o3 r hr
    · rw [List.mem_singleton.1 hr]; exact ⟨s, _, rfl⟩
  · by_cases hk : k < rows.length
    · rw [List.getElem?_append_left hk] at h1
      rw [List.getElem?_append_left (by omega)] at h2
      exact (o4 k row q h1 h2).keep kp
    · rw [List.getElem?_append_right (by omega)] at h1
      rw [List.getElem?_append_right (by omega), ← o2] at h2
      have h0 : k - rows.length = 0 := by
        have := (List.getElem?_eq_some_iff.1 h1).1
        simp at this; omega
      rw [h0] at h1 h2
      simp only [List.getElem?_cons_zero, Option.some.injEq] at h1 h2
      subst h1 h2
      rw [← e1]
      exact hx.keep kp

theorem C19 {v : Value} {W : List Tx} {s : Tx} {h : Heap} {K : Value → Heap → Prop} (sl : s.length ≤ 200) (few : W.length ≤ 12) (hn : ∀ w ∈ W, w ≠ []) (hle : ∀ w ∈ W, w.length ≤ 10) (hs : SS h v W)
    (hk : ∀ u h', EX h h' → OwnZ h.length h' u (rdL W s s.length) → K u h') : CallP Tryz.prog 19 [v, S s] h K := by
  refine f19 ?_
  unfold T19
  refine C22 (z := 1) (by decide) ?_
  intro r1 h2 x2 q1
  obtain ⟨t1, sb, u, e1, e2⟩ := q1.cells
  have e0 : iMkSl 36 1 [(.bool false), (.slice none 0 0)] h2 [(0, 2, r1)] = some (Go.Sim.sl 36 h2.length 0 1, h2 ++ [.arr 36 [B sb, u]]) := by
    simp [iMkSl, fillL, zrep, t1, e2, setAt]
  rw [e0]
  simp only [OH_some]
  have x3 : EX h (h2 ++ [.arr 36 [B sb, u]]) := x2.trans (EX.append _ _)
  have own0 : OwnZ h.length (h2 ++ [.arr 36 [B sb, u]]) (Go.Sim.sl 36 h2.length 0 1) [1] :=
    ⟨[[B sb, u]], ⟨fun r hr => by rw [List.mem_singleton.1 hr]; rfl, .inr ⟨h2.length, x2.1, rfl, by simp⟩⟩, rfl, fun r hr => by rw [List.mem_singleton.1 hr]; exact ⟨_, _, rfl⟩, fun k row z g1 g2 => by
      have hk0 : k = 0 := by have := (List.getElem?_eq_some_iff.1 g1).1; simp at this; omega
      subst hk0
      simp at g1 g2
      subst g1 g2
      have := q1.mono (EX.append h2 [.arr 36 [B sb, u]])
      rw [e1] at this
      exact this⟩
  refine loopL (σ := Nat × Value × Heap) (fun q => [q.2.1, I ((q.1 : Int) + 1)]) (fun q => q.2.2) (fun q => q.1 ≤ s.length ∧ EX h q.2.2 ∧ OwnZ h.length q.2.2 q.2.1 (rdL W s q.1)) (fun q => s.length - q.1) (0, _, _) rfl rfl ⟨Nat.zero_le _, x3, own0⟩ ?_
  rintro ⟨i, vo, g⟩ ⟨hi, xg, own⟩ L hL
  simp only at hi xg own hL ⊢
  have le := rdL_le (W := W) few s i
  have ll := rdL_len W s i
  rw [q19z6]
  simp only [lenS_S, OP_some, bin_leq, IfP_dec]
  refine ⟨fun hlt => ?_, fun hge => ?_⟩
  · have hlt : i < s.length := by omega
    refine C22 (z := 0) (by decide) ?_
    intro r2 g1 y1 z1
    obtain ⟨t2, sb2, u2, f1, f2⟩ := z1.cells
    have al : iAlloc 36 [(.bool false), (.slice none 0 0)] g1 = some (pt g1.length 0, g1 ++ [.arr 36 [(.bool false), (.slice none 0 0)]]) := rfl
    have kj : (g1 ++ [IObj.arr 36 [(.bool false), (.slice none 0 0)]])[g1.length]? = some (.arr 36 [(.bool false), (.slice none 0 0)]) := get_last
    have st : ∀ {g : Heap} {c1 c2 : Value} {x : Value} {sb u}, g[g1.length]? = some (.arr 36 [c1, c2]) → x = .agg #[B sb, u] → oStore 2 g (pt g1.length 0) x = some (undef, g.set g1.length (.arr 36 [B sb, u])) := by
      intro g c1 c2 x sb u hg hx
      subst hx
      simp [oStore, iStore, hg, noTuple, vcells, setAt, Value.cells]
    have hex2 : EX g (g1 ++ [IObj.arr 36 [(.bool false), (.slice none 0 0)]]) := y1.trans (EX.append _ _)
    simp only [al, OH_some, st kj f1]
    have nev : ∀ n, vo ≠ Go.Sim.sl 36 g1.length 0 n := fun n hv => by
      obtain ⟨rows, a, _⟩ := own
      have := (a.lt hv).2.1
      have := y1.1
      omega
    refine loopL (σ := Nat × Heap) (fun q => [I q.1]) (fun q => q.2) (fun q => q.1 ≤ W.length ∧ EX g q.2 ∧ OwnZ h.length q.2 vo (rdL W s i) ∧ ∃ sb u, q.2[g1.length]? = some (.arr 36 [B sb, u]) ∧ ZV q.2 (.agg #[B sb, u]) (sumR s (rdL W s i) (i + 1) (W.take q.1) : Nat)) (fun q => W.length - q.1) (0, _) rfl rfl ⟨Nat.zero_le _, hex2.set y1.1 _, (own.ex hex2).set kj nev _, sb2, u2, set_get kj, ?_⟩ ?_
    · have := (z1.mono (EX.append g1 [IObj.arr 36 [(.bool false), (.slice none 0 0)]])).setB kj (.arr 36 [B sb2, u2])
      rw [f1] at this
      simpa [sumR] using this
    rintro ⟨j, ga⟩ ⟨hj, xa, owna, sb3, u3, k3, i3⟩ L2 hL2
    simp only at hj xa owna k3 i3 hL2 ⊢
    have ld : iLoad true 2 ga (pt g1.length 0) = some (.agg #[B sb3, u3]) := by simp [iLoad, objCells, k3, iPart]
    have hsg := hs.mono (xg.trans xa)
    rw [q19z15]
    simp only [hsg.len, bin_lss, OP_some, IfP_dec]
    refine ⟨fun hlt2 => ?_, fun hge2 => ?_⟩
    · have hlt2 : j < W.length := by omega
      obtain ⟨bb, o, a1, a2⟩ := hs.get j hlt2
      have mem := List.getElem_mem hlt2
      have wl := hle _ mem
      have wn := List.length_pos_iff.2 (hn _ mem)
      have a3 := EX.load (xg.trans xa) a2
      have sn := sumR_snoc (s := s) (cs := rdL W s i) (i := i + 1) (W.take j) W[j]
      rw [← List.take_succ_eq_append_getElem hlt2] at sn
      have nx : ∀ gb sb u, EX g gb → OwnZ h.length gb vo (rdL W s i) → gb[g1.length]? = some (.arr 36 [B sb, u]) → ZV gb (.agg #[B sb, u]) (sumR s (rdL W s i) (i + 1) (W.take (j + 1)) : Nat) → p19z21 Tryz.prog K v (S s) vo (I ((i : Int) + 1)) (pt g1.length 0) (I j) L L2 gb := by
        intro gb sb u xb ob kb ib
        rw [q19z21]
        simp only [bin_add, OP_some, inc j (by omega), true_and]
        exact hL2 (j + 1, gb) ⟨hlt2, xb, ob, sb, u, kb, ib⟩ (by show W.length - (j + 1) < W.length - j; omega)
      have nosum : sufB s (i + 1) W[j] = false → p19z21 Tryz.prog K v (S s) vo (I ((i : Int) + 1)) (pt g1.length 0) (I j) L L2 ga := fun hb' => by
        rw [hb'] at sn
        simp only [Bool.false_eq_true, if_false, Nat.add_zero] at sn
        exact nx ga sb3 u3 xa owna k3 (by rw [sn]; exact i3)
      simp only [a1, a3, OP_some, lenS_S, bin_leq, true_and]
      by_cases hwl : W[j].length ≤ i + 1
      · rw [decide_eq_true (show (W[j].length : Int) ≤ (i : Int) + 1 by omega)]
        have w : IntKind.wrap .i64 ((i : Int) + 1 - W[j].length) = ((i + 1 - W[j].length : Nat) : Int) := by rw [wrap64 (by omega) (by omega)]; omega
        have sx : iSlS (S s) (some (I ((i + 1 - W[j].length : Nat) : Int))) (some (I ((i : Int) + 1))) = some (S ((s.take (i + 1)).drop (i + 1 - W[j].length))) := by
          have := slS_lh (a := s) (l := i + 1 - W[j].length) (n := i + 1) (by omega) (by omega) .i64 .i64
          simpa using this
        simp only [GdP_tt, a1, a3, OP_some, lenS_S, bin_sub, w, sx, bin_eqlS, iPick_t, true_and, IfP_dec]
        have tl : (s.take (i + 1)).length = i + 1 := by rw [List.length_take]; omega
        have sd : ((s.take (i + 1)).drop (i + 1 - W[j].length) = W[j]) ↔ W[j] <:+ s.take (i + 1) := by
          rw [List.suffix_iff_eq_drop, tl]; exact eq_comm
        refine ⟨fun hp => ?_, fun hp => nosum ?_⟩
        · have hb' : sufB s (i + 1) W[j] = true := decide_eq_true (sd.1 hp)
          rw [hb'] at sn
          simp only [if_true] at sn
          have hkk : i + 1 - W[j].length < (rdL W s i).length := by omega
          obtain ⟨p, o2, r4, b1, b2, b3⟩ := owna.get hkk
          have ge : (rdL W s i)[i + 1 - W[j].length] = (rdL W s i).getD (i + 1 - W[j].length) 0 := by simp [hkk]
          simp only [ld, a1, a3, OP_some, lenS_S, bin_sub, w, b1, b2, true_and]
          have l1 : sumR s (rdL W s i) (i + 1) (W.take j) ≤ 12 * 12 ^ i := sumR_le (by rw [List.length_take]; omega) le
          have l2 := le _ (List.getElem_mem hkk)
          have p12 : 12 * 12 ^ i = 12 ^ (i + 1) := by rw [Nat.pow_succ, Nat.mul_comm]
          refine C62 i3 b3 (by rw [Int.natAbs_natCast]; exact small (i := i + 1) (by omega) (by omega)) (by rw [Int.natAbs_natCast]; exact small (i := i + 1) (by omega) (by omega)) ?_
          intro r5 gb xb q5
          obtain ⟨t5, sb5, u5, f5, _⟩ := q5.cells
          have kb := xb.get k3
          rw [st kb f5]
          simp only [OH_some]
          have hgb : g.length ≤ g1.length := y1.1
          refine nx _ sb5 u5 ((xa.trans xb).set hgb _) ((owna.ex xb).set kb nev _) (set_get kb) ?_
          have := q5.setB kb (.arr 36 [B sb5, u5])
          rw [f5] at this
          rw [sn]
          rw [← ge]
          simpa using this
        · exact decide_eq_false fun h => hp (sd.2 h)
      · rw [decide_eq_false (show ¬ (W[j].length : Int) ≤ (i : Int) + 1 by omega)]
        simp only [GdP_ft, iPick_f, OP_some, IfP_false]
        exact nosum (decide_eq_false fun h => by have := h.length_le; rw [List.length_take] at this; omega)
    · have hjw : j = W.length := by omega
      subst hjw
      rw [List.take_length] at i3
      rw [q19z22]
      simp only [ld, OP_some]
      refine OwnZ.app owna (xg.trans xa) i3 rfl (by omega) ?_
      intro v' gc xc ownc
      rw [q19z23]
      have w : IntKind.wrap .i64 ((i : Int) + 1 + 1) = ((i + 1 : Nat) : Int) + 1 := by rw [wrap64 (by omega) (by omega)]; omega
      simp only [bin_add, OP_some, w, true_and]
      exact hL (i + 1, v', gc) ⟨hlt, xc, ownc⟩ (by show s.length - (i + 1) < s.length - i; omega)
  · have hie : i = s.length := by omega
    subst hie
    rw [q19z24]
    exact hk vo g xg own

end Go.Proofs.YthplaillblmgfaaGreatDoor


namespace Go.Proofs.YthplaillblmgfaaGreatDoor
open Go.Sim
variable (P : Program) (K : VK)
/-! F16: pommel/pommellaw08.words -/
noncomputable def c16z12 : ICode := .ops none [⟨some 13, .p (.pick (.tmp 10) (.tmp 12) (.const (.bool false)))⟩]
noncomputable def c16z10 : ICode := .seq (.ops (some (10, true)) [gm 11 4,⟨some 12, .p (.bin .leq (.tmp 11) (ci (12)))⟩])
 (.cut [0, 3, 4, 10, 12] c16z12)
noncomputable def c16z8 : ICode := .cond (.tmp 13) (.skip)
 (.exit 0)
noncomputable def c16z7 : ICode := .seq (.block 1 (.dops [(none, [gd 16 3 0,gd 17 0 0,gd 18 4 0,⟨some 19, .p (.adrSl 1 (.tmp 17) (.tmp 18)), 6⟩,⟨some 20, .l (.load false 1 (.tmp 19)), 14⟩,gd 21 0 0,gd 22 4 0,⟨some 23, .p (.adrSl 1 (.tmp 21) (.tmp 22)), 96⟩,⟨some 24, .l (.load false 1 (.tmp 23)), 224⟩,⟨some 25, .p (.lenS (.tmp 24)), 480⟩,⟨some 26, .p (.minmax false [(.tmp 25), (ci (11))]), 992⟩,⟨some 27, .p (.slS (.tmp 20) none (some (.tmp 26))), 2046⟩,⟨some 28, .e (.mkSl 9 1 [(.string ⟨#[]⟩)] [(0, 1, (.tmp 27))]), 4094⟩,⟨some 29, .e (.app 9 1 16 (.tmp 16) (.tmp 28)), 8191⟩,gd 3 29 16383])]))
 (.ops none [gm 14 4,⟨some 15, .p (.bin .add (.tmp 14) (ci (1)))⟩,gm 4 15])
noncomputable def c16z6 : ICode := .seq (.seq (.seq (.ops none [gm 6 4,gm 7 0,⟨some 8, .p (.lenSl (.tmp 7))⟩,⟨some 9, .p (.bin .lss (.tmp 6) (.tmp 8))⟩,gm 10 9])
 (.cut [0, 3, 4, 10] c16z10)) c16z8) c16z7
noncomputable def c16z15 : ICode := .seq (.ops none [gm 30 3,gm 2 30])
 (.ret)
noncomputable def c16z3 : ICode := .cut [3] c16z15
noncomputable def c16 : ICode := .seq (.ops none [⟨some 2, .p (.mv (.const (.slice none 0 0)))⟩])
 (.seq (.ops none [⟨some 5, .e (.mkSl 9 0 [(.string ⟨#[]⟩)] [])⟩,gm 3 5])
 (.seq (.seq (.ops none [⟨some 4, .p (.mv (ci (0)))⟩])
 (.block 0 (.loop [0] [3, 4] c16z6))) c16z3))
theorem k16 : compFn Tryz.prog 16 [[], [], [], [0], [3, 4], [0, 3, 4, 10], [0, 3, 4, 10, 12], [], [], [], [3], []] = some (31, c16, [.tmp 2]) := by kernel_rfl
def K16z0 (_P : Program) (K : VK) : Kont := bodyP [.tmp 2] K
def K16z3 : Kont := thenK (iwpP P c16z3 (K16z0 P K)) (K16z0 P K)
def K16z5 : Kont := inBlockK 0 (K16z3 P K)
def K16z6 (x0 : Value) (L1 : LK) : Kont := thenK (fun f' h'' => (([0] : List Nat).map f' : List Value) = [x0] ∧ L1 (([3, 4] : List Nat).map f') h'') (K16z5 P K)
def K16z7 (x0 : Value) (L1 : LK) : Kont := thenK (iwpP P c16z7 (K16z6 P K x0 L1)) (K16z6 P K x0 L1)
def K16z8 (x0 : Value) (L1 : LK) : Kont := thenK (iwpP P c16z8 (K16z7 P K x0 L1)) (K16z7 P K x0 L1)
def p16z6 (x0 : Value) (L1 : LK) (xs : List Value) (h : Heap) : Prop := CutP (iwpP P c16z6 (K16z6 P K x0 L1)) ([0] ++ [3, 4]) ([x0] ++ xs) h
def p16z10 (x0 out3 i4 x10 : Value) (L1 : LK) (h : Heap) : Prop := CutP (iwpP P c16z10 (K16z8 P K x0 L1)) [0, 3, 4, 10] [x0, out3, i4, x10] h
def p16z12 (x0 out3 i4 x10 x12 : Value) (L1 : LK) (h : Heap) : Prop := CutP (iwpP P c16z12 (K16z8 P K x0 L1)) [0, 3, 4, 10, 12] [x0, out3, i4, x10, x12] h
def p16z15 (out3 : Value) (h : Heap) : Prop := CutP (iwpP P c16z15 (K16z0 P K)) [3] [out3] h
theorem q16z12 (x0 out3 i4 x10 x12 : Value) (L1 : LK) (h : Heap) : p16z12 P K x0 out3 i4 x10 x12 L1 h =
 (OP (iPick x10 x12 (.bool false)) fun x13 =>
 IfP x13
 (OP (iAdrSl 1 x0 i4) fun x19 =>
 OP (iLoad false 1 h x19) fun x20 =>
 (True) ∧
 OP (iAdrSl 1 x0 i4) fun x23 =>
 OP (iLoad false 1 h x23) fun x24 =>
 (True) ∧
 OP (iLenS x24) fun x25 =>
 OP (iMinmax false [x25, (.int .i64 (11))]) fun x26 =>
 OP (iSlS x20 none (some x26)) fun x27 =>
 OH (iMkSl 9 1 [(.string ⟨#[]⟩)] h [(0, 1, x27)]) fun x28 h_1 =>
 (True) ∧
 OH (iApp 9 1 16 h_1 out3 x28) fun x29 h_2 =>
 (True) ∧
 OP (iBin .add i4 (.int .i64 (1))) fun x15 =>
 ([x0] : List Value) = [x0] ∧ L1 [x29, x15] h_2)
 (p16z15 P K out3 h)) := (CutP_def _ _ _ _).trans (by kernel_rfl)
theorem q16z10 (x0 out3 i4 x10 : Value) (L1 : LK) (h : Heap) : p16z10 P K x0 out3 i4 x10 L1 h =
 (GdP x10 true
 (OP (iBin .leq i4 (.int .i64 (12))) fun x12 =>
 p16z12 P K x0 out3 i4 x10 x12 L1 h)
 (p16z12 P K x0 out3 i4 x10 undef L1 h)) := (CutP_def _ _ _ _).trans (by kernel_rfl)
theorem q16z6 (x0 : Value) (L1 : LK) (out3 i4 : Value) (h : Heap) : p16z6 P K x0 L1 [out3, i4] h =
 (OP (iLenSl x0) fun x8 =>
 OP (iBin .lss i4 x8) fun x9 =>
 p16z10 P K x0 out3 i4 x9 L1 h) := (CutP_def _ _ _ _).trans (by kernel_rfl)
theorem q16z15 (out3 : Value) (h : Heap) : p16z15 P K out3 h =
 (K out3 h) := (CutP_def _ _ _ _).trans (by kernel_rfl)
def T16 (x0 : Value) (h : Heap) : Prop :=
 OH (iMkSl 9 0 [(.string ⟨#[]⟩)] h []) fun x5 h_1 =>
 LoopP [x5, (.int .i64 (0))] h_1 fun L1 xs hx =>
 p16z6 P K x0 L1 xs hx
theorem e16 (x0 : Value) (h : Heap) : iwpP P c16 (bodyP [.tmp 2] K) (frame0 [x0]) h = T16 P K x0 h := by kernel_rfl
theorem f16 {K : VK} {x0 : Value} {h : Heap} (H : T16 Tryz.prog K x0 h) : CallP Tryz.prog 16 [x0] h K :=
 callP_intro k16 (Nat.le_of_ble_eq_true rfl) ((e16 Tryz.prog K x0 h).mpr H)
end Go.Proofs.YthplaillblmgfaaGreatDoor

namespace Go.Proofs.YthplaillblmgfaaGreatDoor
open Go.Sim

/-- Words cut to what the law looks at. -/
def cutW (xs : List Tx) : List Tx := (xs.take 13).map fun x => x.take 11

theorem cutW_len (xs : List Tx) : (cutW xs).length ≤ 13 ∧ ∀ w ∈ cutW xs, w.length < 4611686018427387904 := by
  refine ⟨by simp [cutW]; omega, fun w hw => ?_⟩
  obtain ⟨x, _, rfl⟩ := List.mem_map.1 hw
  rw [List.length_take]; omega

theorem C16 {v : Value} {xs : List Tx} {h : Heap} {K : Value → Heap → Prop} (hv : SS h v xs) (hk : ∀ u h', EX h h' → OwnS h.length h' 9 u ((cutW xs).map S) → K u h') : CallP Tryz.prog 16 [v] h K := by
  refine f16 ?_
  unfold T16
  simp only [mkW0, OH_some]
  refine loopL (σ := Nat × Value × Heap) (fun q => [q.2.1, I q.1]) (fun q => q.2.2) (fun q => (q.1 ≤ xs.length ∧ q.1 ≤ 13) ∧ EX h q.2.2 ∧ OwnS h.length q.2.2 9 q.2.1 (((xs.take q.1).map fun x => x.take 11).map S)) (fun q => 13 - q.1)
    (0, sl 9 h.length 0 0, h ++ [.arr 9 []]) rfl rfl ⟨⟨Nat.zero_le _, Nat.zero_le _⟩, EX.append _ _, .inr ⟨h.length, Nat.le_refl _, rfl, get_last⟩⟩ ?_
  rintro ⟨i, vo, g⟩ ⟨⟨hi, hi13⟩, xg, own⟩ L hL
  simp only at hi hi13 xg own hL ⊢
  have hs := hv.mono xg
  have done : (i = xs.length ∨ i = 13) → p16z15 Tryz.prog K vo g := fun he => by
    rw [q16z15]
    refine hk vo g xg ?_
    unfold cutW
    have : xs.take 13 = xs.take i := by
      rcases he with rfl | rfl
      · rw [List.take_length, List.take_of_length_le hi13]
      · rfl
    rw [this]; exact own
  rw [q16z6]
  simp only [hs.len, OP_some, bin_lss]
  rw [q16z10]
  by_cases h1 : i < xs.length
  · rw [decide_eq_true (show (i : Int) < xs.length by omega)]
    simp only [GdP_tt, bin_leq, OP_some]
    rw [q16z12]
    by_cases h2 : i < 13
    · obtain ⟨b, o, a1, a2⟩ := hs.get i h1
      rw [decide_eq_true (show (i : Int) ≤ 12 by omega)]
      have mm : iMinmax false [I xs[i].length, (.int .i64 (11))] = some (I ((min xs[i].length 11 : Nat) : Int)) := by
        rw [min2]; congr 2; omega
      have tk : xs[i].take (min xs[i].length 11) = xs[i].take 11 := by
        by_cases hc : xs[i].length ≤ 11
        · rw [Nat.min_eq_left hc, List.take_length, List.take_of_length_le hc]
        · rw [Nat.min_eq_right (by omega)]
      simp only [iPick_t, OP_some, IfP_true, a1, a2, lenS_S, mm, slS_hi (a := xs[i]) (n := min xs[i].length 11) (Nat.min_le_left _ _) .i64, tk, true_and]
      refine app1 own xg (by simp; omega) (by simp [maxLen]; omega) rfl rfl ?_
      intro v' g' x' own'
      simp only [bin_add, OP_some, inc i (by omega), true_and]
      refine hL (i + 1, v', g') ⟨⟨by show i + 1 ≤ _; omega, by show i + 1 ≤ 13; omega⟩, x', ?_⟩ (by show 13 - (i + 1) < 13 - i; omega)
      show OwnS h.length g' 9 v' (((xs.take (i + 1)).map fun x => x.take 11).map S)
      rw [List.take_succ_eq_append_getElem h1, List.map_append, List.map_append]
      exact own'
    · rw [decide_eq_false (show ¬ (i : Int) ≤ 12 by omega)]
      simp only [iPick_t, OP_some, IfP_false]
      exact done (.inr (by omega))
  · rw [decide_eq_false (show ¬ (i : Int) < xs.length by omega)]
    simp only [GdP_ft]
    rw [q16z12]
    simp only [iPick_f, OP_some, IfP_false]
    exact done (.inl (by omega))

end Go.Proofs.YthplaillblmgfaaGreatDoor


namespace Go.Proofs.YthplaillblmgfaaGreatDoor
open Go.Sim
variable (P : Program) (K : VK)
/-! F12: pommel/pommelref01.CmpQ -/
/-! F21: pommel/pommelref01.Is -/
noncomputable def c21z7 : ICode := .ops none [⟨some 17, .p (.pick (.tmp 13) (.tmp 16) (.const (.bool false)))⟩,gm 4 17]
noncomputable def c21z5 : ICode := .seq (.ops (some (13, true)) [gm 14 0,gm 15 5,⟨some 16, .p (.bin .eql (.tmp 14) (.tmp 15))⟩])
 (.cut [13, 16] c21z7)
noncomputable def c21z3 : ICode := .ret
noncomputable def c21 : ICode := .seq (.ops none [⟨some 3, .e (.box 38 (.tmp 1))⟩,⟨some 4, .p (.mv (.const (.bool false)))⟩])
 (.seq (.ops none [⟨some 8, .l (.load true 4 (.tmp 3))⟩,⟨some 9, .call 64 [(.tmp 8)]⟩,gm 7 9,⟨some 10, .p (.ext (.tmp 7) 0)⟩,⟨some 11, .p (.ext (.tmp 7) 1)⟩,gm 5 10,gm 6 11])
 (.seq (.seq (.ops none [gm 12 6,gm 13 12])
 (.cut [0, 5, 13] c21z5)) c21z3))
theorem k21 : compFn Tryz.prog 21 [[], [], [0, 5, 13], [13, 16], []] = some (18, c21, [.tmp 4]) := by kernel_rfl
def K21z0 (_P : Program) (K : VK) : Kont := bodyP [.tmp 4] K
def K21z3 : Kont := thenK (iwpP P c21z3 (K21z0 P K)) (K21z0 P K)
def p21z5 (x0 y5 x13 : Value) (h : Heap) : Prop := CutP (iwpP P c21z5 (K21z3 P K)) [0, 5, 13] [x0, y5, x13] h
def p21z7 (x13 x16 : Value) (h : Heap) : Prop := CutP (iwpP P c21z7 (K21z3 P K)) [13, 16] [x13, x16] h
theorem q21z7 (x13 x16 : Value) (h : Heap) : p21z7 P K x13 x16 h =
 (OP (iPick x13 x16 (.bool false)) fun x17 =>
 K x17 h) := (CutP_def _ _ _ _).trans (by kernel_rfl)
theorem q21z5 (x0 y5 x13 : Value) (h : Heap) : p21z5 P K x0 y5 x13 h =
 (GdP x13 true
 (OP (iBin .eql x0 y5) fun x16 =>
 p21z7 P K x13 x16 h)
 (p21z7 P K x13 undef h)) := (CutP_def _ _ _ _).trans (by kernel_rfl)
def T21 (x0 q1 : Value) (h : Heap) : Prop :=
 OH (iBox 38 h q1) fun q3 h_1 =>
 OP (iLoad true 4 h_1 q3) fun x8 =>
 CallP P 64 [x8] h_1 fun x9 h_2 =>
 OP (iExt 0 x9) fun x10 =>
 OP (iExt 1 x9) fun x11 =>
 p21z5 P K x0 x10 x11 h_2
theorem e21 (x0 q1 : Value) (h : Heap) : iwpP P c21 (bodyP [.tmp 4] K) (frame0 [x0, q1]) h = T21 P K x0 q1 h := by kernel_rfl
theorem f21 {K : VK} {x0 q1 : Value} {h : Heap} (H : T21 Tryz.prog K x0 q1 h) : CallP Tryz.prog 21 [x0, q1] h K :=
 callP_intro k21 (Nat.le_of_ble_eq_true rfl) ((e21 Tryz.prog K x0 q1 h).mpr H)
/-! F36: pommel/pommelref01.Make -/
/-! F64: pommel/pommelref01.Num -/
noncomputable def c64z9 : ICode := .ops none [⟨some 22, .p (.pick (.tmp 18) (.const (.bool true)) (.tmp 21))⟩]
noncomputable def c64z7 : ICode := .seq (.ops (some (18, false)) [gm 19 5,⟨some 20, .p (.lenS (.tmp 19))⟩,⟨some 21, .p (.bin .gtr (.tmp 20) (ci (4000)))⟩])
 (.cut [1, 4, 5, 18, 21] c64z9)
noncomputable def c64z5 : ICode := .cond (.tmp 22) (.seq (.ops none [⟨some 2, .p (.mv (.const (.string ⟨#[]⟩)))⟩,⟨some 3, .p (.mv (.const (.bool false)))⟩])
 (.ret))
 (.skip)
noncomputable def c64z16 : ICode := .seq (.ops none [gm 34 4,gm 2 34,⟨some 3, .p (.mv (.const (.bool true)))⟩])
 (.ret)
noncomputable def c64z13 : ICode := .seq (.seq (.ops none [gm 28 5,⟨some 29, .p (.bin .neq (.tmp 28) (.const (.string ⟨#[49]⟩)))⟩])
 (.cond (.tmp 29) (.ops none [gm 30 4,gm 31 5,⟨some 32, .p (.bin .add (.const (.string ⟨#[47]⟩)) (.tmp 31))⟩,⟨some 33, .p (.bin .add (.tmp 30) (.tmp 32))⟩,gm 4 33])
 (.skip)))
 (.cut [4] c64z16)
noncomputable def c64z4 : ICode := .seq (.seq (.ops none [⟨some 23, .p (.fadr 0 (.tmp 1))⟩,⟨some 24, .p (.fadr 0 (.tmp 23))⟩,⟨some 25, .l (.load false 1 (.tmp 24))⟩])
 (.cond (.tmp 25) (.ops none [gm 26 4,⟨some 27, .p (.bin .add (.const (.string ⟨#[45]⟩)) (.tmp 26))⟩,gm 4 27])
 (.skip)))
 (.cut [4, 5] c64z13)
noncomputable def c64 : ICode := .seq (.ops none [⟨some 1, .e (.box 38 (.tmp 0))⟩,⟨some 2, .p (.mv (.const (.string ⟨#[]⟩)))⟩,⟨some 3, .p (.mv (.const (.bool false)))⟩])
 (.seq (.ops none [⟨some 6, .l (.load true 4 (.tmp 1))⟩,⟨some 7, .call 73 [(.tmp 6)]⟩,
 ⟨none, .e (.store 4 (.tmp 1) (.tmp 7))⟩])
 (.seq (.dops [(none, [⟨some 8, .p (.fadr 0 (.tmp 1)), 0⟩,⟨some 9, .l (.load true 2 (.tmp 8)), 1⟩,⟨some 10, .call 101 [(.tmp 9)], 3⟩,⟨some 11, .call 100 [(.tmp 10)], 7⟩,⟨some 12, .p (.fadr 2 (.tmp 1)), 0⟩,⟨some 13, .l (.load true 2 (.tmp 12)), 16⟩,⟨some 14, .call 100 [(.tmp 13)], 63⟩,gd 4 11 127,gd 5 14 255])])
 (.seq (.seq (.seq (.ops none [gm 15 4,⟨some 16, .p (.lenS (.tmp 15))⟩,⟨some 17, .p (.bin .gtr (.tmp 16) (ci (4000)))⟩,gm 18 17])
 (.cut [1, 4, 5, 18] c64z7)) c64z5) c64z4)))
theorem k64 : compFn Tryz.prog 64 [[], [], [], [1, 4, 5, 18], [1, 4, 5, 18, 21], [], [], [], [], [4, 5], [], [4], []] = some (35, c64, [.tmp 2, .tmp 3]) := by kernel_rfl
def K64z0 (_P : Program) (K : VK) : Kont := bodyP [.tmp 2, .tmp 3] K
def K64z4 : Kont := thenK (iwpP P c64z4 (K64z0 P K)) (K64z0 P K)
def K64z5 : Kont := thenK (iwpP P c64z5 (K64z4 P K)) (K64z4 P K)
def p64z7 (q1 s4 d5 x18 : Value) (h : Heap) : Prop := CutP (iwpP P c64z7 (K64z5 P K)) [1, 4, 5, 18] [q1, s4, d5, x18] h
def p64z9 (q1 s4 d5 x18 x21 : Value) (h : Heap) : Prop := CutP (iwpP P c64z9 (K64z5 P K)) [1, 4, 5, 18, 21] [q1, s4, d5, x18, x21] h
def p64z13 (s4 d5 : Value) (h : Heap) : Prop := CutP (iwpP P c64z13 (K64z0 P K)) [4, 5] [s4, d5] h
def p64z16 (s4 : Value) (h : Heap) : Prop := CutP (iwpP P c64z16 (K64z0 P K)) [4] [s4] h
theorem q64z9 (q1 s4 d5 x18 x21 : Value) (h : Heap) : p64z9 P K q1 s4 d5 x18 x21 h =
 (OP (iPick x18 (.bool true) x21) fun x22 =>
 IfP x22
 (K (.tuple #[(.string ⟨#[]⟩), (.bool false)]) h)
 (OP (iFadr 0 q1) fun x23 =>
 OP (iFadr 0 x23) fun x24 =>
 OP (iLoad false 1 h x24) fun x25 =>
 IfP x25
 (OP (iBin .add (.string ⟨#[45]⟩) s4) fun x27 =>
 p64z13 P K x27 d5 h)
 (p64z13 P K s4 d5 h))) := (CutP_def _ _ _ _).trans (by kernel_rfl)
theorem q64z7 (q1 s4 d5 x18 : Value) (h : Heap) : p64z7 P K q1 s4 d5 x18 h =
 (GdP x18 false
 (OP (iLenS d5) fun x20 =>
 OP (iBin .gtr x20 (.int .i64 (4000))) fun x21 =>
 p64z9 P K q1 s4 d5 x18 x21 h)
 (p64z9 P K q1 s4 d5 x18 undef h)) := (CutP_def _ _ _ _).trans (by kernel_rfl)
theorem q64z16 (s4 : Value) (h : Heap) : p64z16 P K s4 h =
 (K (.tuple #[s4, (.bool true)]) h) := (CutP_def _ _ _ _).trans (by kernel_rfl)
theorem q64z13 (s4 d5 : Value) (h : Heap) : p64z13 P K s4 d5 h =
 (OP (iBin .neq d5 (.string ⟨#[49]⟩)) fun x29 =>
 IfP x29
 (OP (iBin .add (.string ⟨#[47]⟩) d5) fun x32 =>
 OP (iBin .add s4 x32) fun x33 =>
 p64z16 P K x33 h)
 (p64z16 P K s4 h)) := (CutP_def _ _ _ _).trans (by kernel_rfl)
def T64 (q0 : Value) (h : Heap) : Prop :=
 OH (iBox 38 h q0) fun q1 h_1 =>
 OP (iLoad true 4 h_1 q1) fun x6 =>
 CallP P 73 [x6] h_1 fun x7 h_2 =>
 OH (oStore 4 h_2 q1 x7) fun _ h_3 =>
 OP (iFadr 0 q1) fun x8 =>
 OP (iLoad true 2 h_3 x8) fun x9 =>
 (True) ∧
 CallP P 101 [x9] h_3 fun x10 h_4 =>
 (True) ∧
 CallP P 100 [x10] h_4 fun x11 h_5 =>
 (True) ∧
 OP (iFadr 2 q1) fun x12 =>
 OP (iLoad true 2 h_5 x12) fun x13 =>
 (iLoad true 2 h_3 x12 = some x13 ∧ iLoad true 2 h_4 x12 = some x13 ∧ True) ∧
 CallP P 100 [x13] h_5 fun x14 h_6 =>
 (True) ∧
 OP (iLenS x11) fun x16 =>
 OP (iBin .gtr x16 (.int .i64 (4000))) fun x17 =>
 p64z7 P K q1 x11 x14 x17 h_6
theorem e64 (q0 : Value) (h : Heap) : iwpP P c64 (bodyP [.tmp 2, .tmp 3] K) (frame0 [q0]) h = T64 P K q0 h := by kernel_rfl
theorem f64 {K : VK} {q0 : Value} {h : Heap} (H : T64 Tryz.prog K q0 h) : CallP Tryz.prog 64 [q0] h K :=
 callP_intro k64 (Nat.le_of_ble_eq_true rfl) ((e64 Tryz.prog K q0 h).mpr H)
/-! F73: pommel/pommelref01.Lowest -/
noncomputable def c73 : ICode := .seq (.ops none [⟨some 1, .e (.box 38 (.tmp 0))⟩,⟨some 2, .e (.alloc 38 [(.bool false), (.slice none 0 0), (.bool false), (.slice none 0 0)])⟩])
 (.seq (.ops none [⟨some 8, .p (.fadr 0 (.tmp 1))⟩,⟨some 9, .l (.load true 2 (.tmp 8))⟩,⟨some 10, .p (.fadr 2 (.tmp 1))⟩,⟨some 11, .l (.load true 2 (.tmp 10))⟩,⟨some 12, .call 91 [(.tmp 9), (.tmp 11)]⟩,⟨some 3, .e (.alloc 36 [(.bool false), (.slice none 0 0)])⟩,
 ⟨none, .e (.store 2 (.tmp 3) (.tmp 12))⟩])
 (.seq (.ops none [⟨some 14, .p (.fadr 0 (.tmp 1))⟩,⟨some 15, .l (.load true 2 (.tmp 14))⟩,⟨some 16, .l (.load true 2 (.tmp 3))⟩,⟨some 17, .call 106 [(.tmp 15), (.tmp 16)]⟩,gm 13 17,⟨some 18, .p (.ext (.tmp 13) 0)⟩,⟨some 19, .p (.ext (.tmp 13) 1)⟩,⟨some 4, .e (.alloc 36 [(.bool false), (.slice none 0 0)])⟩,⟨some 5, .e (.alloc 36 [(.bool false), (.slice none 0 0)])⟩,
 ⟨none, .e (.store 2 (.tmp 4) (.tmp 18))⟩,
 ⟨none, .e (.store 2 (.tmp 5) (.tmp 19))⟩])
 (.seq (.ops none [⟨some 21, .p (.fadr 2 (.tmp 1))⟩,⟨some 22, .l (.load true 2 (.tmp 21))⟩,⟨some 23, .l (.load true 2 (.tmp 3))⟩,⟨some 24, .call 106 [(.tmp 22), (.tmp 23)]⟩,gm 20 24,⟨some 25, .p (.ext (.tmp 20) 0)⟩,⟨some 26, .p (.ext (.tmp 20) 1)⟩,⟨some 6, .e (.alloc 36 [(.bool false), (.slice none 0 0)])⟩,⟨some 7, .e (.alloc 36 [(.bool false), (.slice none 0 0)])⟩,
 ⟨none, .e (.store 2 (.tmp 6) (.tmp 25))⟩,
 ⟨none, .e (.store 2 (.tmp 7) (.tmp 26))⟩])
 (.seq (.ops none [⟨some 27, .l (.load true 2 (.tmp 4))⟩,⟨some 28, .l (.load true 2 (.tmp 6))⟩,⟨some 29, .p (.build [(.bool false), (.slice none 0 0), (.bool false), (.slice none 0 0)] [(0, 2, (.tmp 27)), (2, 2, (.tmp 28))])⟩,
 ⟨none, .e (.store 4 (.tmp 2) (.tmp 29))⟩])
 (.ret)))))
theorem k73 : compFn Tryz.prog 73 [[], [], [], [], []] = some (30, c73, [.cell true 4 2]) := by kernel_rfl
def T73 (q0 : Value) (h : Heap) : Prop :=
 OH (iBox 38 h q0) fun q1 h_1 =>
 OH (iAlloc 38 [(.bool false), (.slice none 0 0), (.bool false), (.slice none 0 0)] h_1) fun x2 h_2 =>
 OP (iFadr 0 q1) fun x8 =>
 OP (iLoad true 2 h_2 x8) fun x9 =>
 OP (iFadr 2 q1) fun x10 =>
 OP (iLoad true 2 h_2 x10) fun x11 =>
 CallP P 91 [x9, x11] h_2 fun x12 h_3 =>
 OH (iAlloc 36 [(.bool false), (.slice none 0 0)] h_3) fun g3 h_4 =>
 OH (oStore 2 h_4 g3 x12) fun _ h_5 =>
 OP (iFadr 0 q1) fun x14 =>
 OP (iLoad true 2 h_5 x14) fun x15 =>
 OP (iLoad true 2 h_5 g3) fun x16 =>
 CallP P 106 [x15, x16] h_5 fun x17 h_6 =>
 OP (iExt 0 x17) fun x18 =>
 OP (iExt 1 x17) fun x19 =>
 OH (iAlloc 36 [(.bool false), (.slice none 0 0)] h_6) fun n4 h_7 =>
 OH (iAlloc 36 [(.bool false), (.slice none 0 0)] h_7) fun x5 h_8 =>
 OH (oStore 2 h_8 n4 x18) fun _ h_9 =>
 OH (oStore 2 h_9 x5 x19) fun _ h_10 =>
 OP (iFadr 2 q1) fun x21 =>
 OP (iLoad true 2 h_10 x21) fun x22 =>
 OP (iLoad true 2 h_10 g3) fun x23 =>
 CallP P 106 [x22, x23] h_10 fun x24 h_11 =>
 OP (iExt 0 x24) fun x25 =>
 OP (iExt 1 x24) fun x26 =>
 OH (iAlloc 36 [(.bool false), (.slice none 0 0)] h_11) fun d6 h_12 =>
 OH (iAlloc 36 [(.bool false), (.slice none 0 0)] h_12) fun x7 h_13 =>
 OH (oStore 2 h_13 d6 x25) fun _ h_14 =>
 OH (oStore 2 h_14 x7 x26) fun _ h_15 =>
 OP (iLoad true 2 h_15 n4) fun x27 =>
 OP (iLoad true 2 h_15 d6) fun x28 =>
 OP (iBuild [(.bool false), (.slice none 0 0), (.bool false), (.slice none 0 0)] [(0, 2, x27), (2, 2, x28)]) fun x29 =>
 OH (oStore 4 h_15 x2 x29) fun _ h_16 =>
 OP (iLoad true 4 h_16 x2) fun r0 =>
 K r0 h_16
theorem e73 (q0 : Value) (h : Heap) : iwpP P c73 (bodyP [.cell true 4 2] K) (frame0 [q0]) h = T73 P K q0 h := by kernel_rfl
theorem f73 {K : VK} {q0 : Value} {h : Heap} (H : T73 Tryz.prog K q0 h) : CallP Tryz.prog 73 [q0] h K :=
 callP_intro k73 (Nat.le_of_ble_eq_true rfl) ((e73 Tryz.prog K q0 h).mpr H)
/-! F91: pommel/pommelref01.Gcd -/
noncomputable def c91z5 : ICode := .seq (.seq (.ops none [⟨some 11, .p (.fadr 1 (.tmp 3))⟩,⟨some 12, .l (.load false 1 (.tmp 11))⟩,⟨some 13, .p (.lenSl (.tmp 12))⟩,⟨some 14, .p (.bin .gtr (.tmp 13) (ci (0)))⟩])
 (.cond (.tmp 14) (.skip)
 (.exit 0)))
 (.block 1 (.seq (.ops none [⟨some 16, .l (.load true 2 (.tmp 2))⟩,⟨some 17, .l (.load true 2 (.tmp 3))⟩,⟨some 18, .call 106 [(.tmp 16), (.tmp 17)]⟩,gm 15 18,⟨some 19, .p (.ext (.tmp 15) 0)⟩,⟨some 20, .p (.ext (.tmp 15) 1)⟩,⟨some 5, .e (.alloc 36 [(.bool false), (.slice none 0 0)])⟩,⟨some 6, .e (.alloc 36 [(.bool false), (.slice none 0 0)])⟩,
 ⟨none, .e (.store 2 (.tmp 5) (.tmp 19))⟩,
 ⟨none, .e (.store 2 (.tmp 6) (.tmp 20))⟩])
 (.dops [(none, [⟨some 21, .l (.load true 2 (.tmp 3)), 0⟩,⟨some 22, .l (.load true 2 (.tmp 6)), 0⟩,
 ⟨none, .e (.store 2 (.tmp 2) (.tmp 21)), 1⟩,
 ⟨none, .e (.store 2 (.tmp 3) (.tmp 22)), 7⟩])])))
noncomputable def c91z10 : ICode := .seq (.ops none [⟨some 23, .l (.load true 2 (.tmp 2))⟩,
 ⟨none, .e (.store 2 (.tmp 4) (.tmp 23))⟩])
 (.ret)
noncomputable def c91z3 : ICode := .cut [2, 4] c91z10
noncomputable def c91 : ICode := .seq (.ops none [⟨some 2, .e (.box 36 (.tmp 0))⟩,⟨some 3, .e (.box 36 (.tmp 1))⟩,⟨some 4, .e (.alloc 36 [(.bool false), (.slice none 0 0)])⟩])
 (.seq (.dops [(none, [⟨some 7, .l (.load true 2 (.tmp 2)), 0⟩,⟨some 8, .call 101 [(.tmp 7)], 1⟩,⟨some 9, .l (.load true 2 (.tmp 3)), 0⟩,⟨some 10, .call 101 [(.tmp 9)], 7⟩,
 ⟨none, .e (.store 2 (.tmp 2) (.tmp 8)), 15⟩,
 ⟨none, .e (.store 2 (.tmp 3) (.tmp 10)), 31⟩])])
 (.seq (.block 0 (.loop [2, 3, 4] [] c91z5)) c91z3))
theorem k91 : compFn Tryz.prog 91 [[], [], [2, 3, 4], [], [], [], [], [2, 4], []] = some (24, c91, [.cell true 2 4]) := by kernel_rfl
def K91z0 (_P : Program) (K : VK) : Kont := bodyP [.cell true 2 4] K
def K91z3 : Kont := thenK (iwpP P c91z3 (K91z0 P K)) (K91z0 P K)
def K91z4 : Kont := inBlockK 0 (K91z3 P K)
def K91z5 (a2 b3 x4 : Value) (L1 : LK) : Kont := thenK (fun f' h'' => (([2, 3, 4] : List Nat).map f' : List Value) = [a2, b3, x4] ∧ L1 (([] : List Nat).map f') h'') (K91z4 P K)
def p91z5 (a2 b3 x4 : Value) (L1 : LK) (xs : List Value) (h : Heap) : Prop := CutP (iwpP P c91z5 (K91z5 P K a2 b3 x4 L1)) ([2, 3, 4] ++ []) ([a2, b3, x4] ++ xs) h
def p91z10 (a2 x4 : Value) (h : Heap) : Prop := CutP (iwpP P c91z10 (K91z0 P K)) [2, 4] [a2, x4] h
theorem q91z5 (a2 b3 x4 : Value) (L1 : LK) (h : Heap) : p91z5 P K a2 b3 x4 L1 [] h =
 (OP (iFadr 1 b3) fun x11 =>
 OP (iLoad false 1 h x11) fun x12 =>
 OP (iLenSl x12) fun x13 =>
 OP (iBin .gtr x13 (.int .i64 (0))) fun x14 =>
 IfP x14
 (OP (iLoad true 2 h a2) fun x16 =>
 OP (iLoad true 2 h b3) fun x17 =>
 CallP P 106 [x16, x17] h fun x18 h_1 =>
 OP (iExt 0 x18) fun x19 =>
 OP (iExt 1 x18) fun x20 =>
 OH (iAlloc 36 [(.bool false), (.slice none 0 0)] h_1) fun x5 h_2 =>
 OH (iAlloc 36 [(.bool false), (.slice none 0 0)] h_2) fun rest6 h_3 =>
 OH (oStore 2 h_3 x5 x19) fun _ h_4 =>
 OH (oStore 2 h_4 rest6 x20) fun _ h_5 =>
 OP (iLoad true 2 h_5 b3) fun x21 =>
 (True) ∧
 OP (iLoad true 2 h_5 rest6) fun x22 =>
 (True) ∧
 OH (oStore 2 h_5 a2 x21) fun _ h_6 =>
 (iLoad true 2 h_6 rest6 = some x22 ∧ True) ∧
 OH (oStore 2 h_6 b3 x22) fun _ h_7 =>
 (True) ∧
 ([a2, b3, x4] : List Value) = [a2, b3, x4] ∧ L1 [] h_7)
 (p91z10 P K a2 x4 h)) := (CutP_def _ _ _ _).trans (by kernel_rfl)
theorem q91z10 (a2 x4 : Value) (h : Heap) : p91z10 P K a2 x4 h =
 (OP (iLoad true 2 h a2) fun x23 =>
 OH (oStore 2 h x4 x23) fun _ h_1 =>
 OP (iLoad true 2 h_1 x4) fun r0 =>
 K r0 h_1) := (CutP_def _ _ _ _).trans (by kernel_rfl)
def T91 (a0 b1 : Value) (h : Heap) : Prop :=
 OH (iBox 36 h a0) fun a2 h_1 =>
 OH (iBox 36 h_1 b1) fun b3 h_2 =>
 OH (iAlloc 36 [(.bool false), (.slice none 0 0)] h_2) fun x4 h_3 =>
 OP (iLoad true 2 h_3 a2) fun x7 =>
 (True) ∧
 CallP P 101 [x7] h_3 fun x8 h_4 =>
 (True) ∧
 OP (iLoad true 2 h_4 b3) fun x9 =>
 (iLoad true 2 h_3 b3 = some x9 ∧ True) ∧
 CallP P 101 [x9] h_4 fun x10 h_5 =>
 (True) ∧
 OH (oStore 2 h_5 a2 x8) fun _ h_6 =>
 (True) ∧
 OH (oStore 2 h_6 b3 x10) fun _ h_7 =>
 (True) ∧
 LoopP [] h_7 fun L1 xs hx =>
 p91z5 P K a2 b3 x4 L1 xs hx
theorem e91 (a0 b1 : Value) (h : Heap) : iwpP P c91 (bodyP [.cell true 2 4] K) (frame0 [a0, b1]) h = T91 P K a0 b1 h := by kernel_rfl
theorem f91 {K : VK} {a0 b1 : Value} {h : Heap} (H : T91 Tryz.prog K a0 b1 h) : CallP Tryz.prog 91 [a0, b1] h K :=
 callP_intro k91 (Nat.le_of_ble_eq_true rfl) ((e91 Tryz.prog K a0 b1 h).mpr H)
/-! F106: pommel/pommelref01.DivMod -/
noncomputable def c106z15 : ICode := .seq (.seq (.ops none [gm 38 10,gm 39 9,⟨some 40, .p (.bin .sub (.tmp 38) (.tmp 39))⟩,⟨some 41, .p (.bin .gtr (.tmp 40) (ci (1)))⟩])
 (.cond (.tmp 41) (.skip)
 (.exit 2)))
 (.block 3 (.seq (.ops none [gm 42 9,gm 43 10,⟨some 44, .p (.bin .add (.tmp 42) (.tmp 43))⟩,⟨some 45, .p (.bin .quo (.tmp 44) (ci (2)))⟩,gm 11 45])
 (.seq (.ops none [⟨some 46, .p (.fadr 1 (.tmp 3))⟩,⟨some 47, .l (.load false 1 (.tmp 46))⟩,gm 48 11,⟨some 49, .call 125 [(.tmp 47), (.tmp 48)]⟩,gm 50 7,⟨some 51, .call 98 [(.tmp 49), (.tmp 50)]⟩,⟨some 52, .p (.bin .leq (.tmp 51) (ci (0)))⟩])
 (.cond (.tmp 52) (.ops none [gm 53 11,gm 9 53])
 (.ops none [gm 54 11,gm 10 54])))))
noncomputable def c106z21 : ICode := .seq (.ops none [gm 55 6,gm 56 8,gm 57 9,⟨some 58, .p (.adrSl 1 (.tmp 55) (.tmp 56))⟩,
 ⟨none, .e (.store 1 (.tmp 58) (.tmp 57))⟩])
 (.ops none [gm 59 7,⟨some 60, .p (.fadr 1 (.tmp 3))⟩,⟨some 61, .l (.load false 1 (.tmp 60))⟩,gm 62 9,⟨some 63, .call 125 [(.tmp 61), (.tmp 62)]⟩,⟨some 64, .call 99 [(.tmp 59), (.tmp 63)]⟩,⟨some 65, .p (.build [(.bool false), (.slice none 0 0)] [(1, 1, (.tmp 64))])⟩,⟨some 66, .call 95 [(.tmp 65)]⟩,⟨some 67, .p (.fld false 1 1 (.tmp 66))⟩,gm 7 67])
noncomputable def c106z13 : ICode := .cut [2, 3, 4, 5, 6, 7, 8, 9] c106z21
noncomputable def c106z23 : ICode := .ops none [gm 25 8,⟨some 26, .p (.bin .sub (.tmp 25) (ci (1)))⟩,gm 8 26]
noncomputable def c106z9 : ICode := .cut [2, 3, 4, 5, 6, 7, 8] c106z23
noncomputable def c106z6 : ICode := .seq (.seq (.ops none [gm 23 8,⟨some 24, .p (.bin .geq (.tmp 23) (ci (0)))⟩])
 (.cond (.tmp 24) (.skip)
 (.exit 0)))
 (.seq (.block 1 (.seq (.ops none [⟨some 27, .p (.fadr 1 (.tmp 2))⟩,⟨some 28, .l (.load false 1 (.tmp 27))⟩,gm 29 8,⟨some 30, .p (.adrSl 1 (.tmp 28) (.tmp 29))⟩,⟨some 31, .l (.load false 1 (.tmp 30))⟩,⟨some 32, .e (.mkSl 3 1 [(.int .i64 (0))] [(0, 1, (.tmp 31))])⟩,gm 33 7,⟨some 34, .e (.app 3 1 8 (.tmp 32) (.tmp 33))⟩,⟨some 35, .p (.build [(.bool false), (.slice none 0 0)] [(1, 1, (.tmp 34))])⟩,⟨some 36, .call 95 [(.tmp 35)]⟩,⟨some 37, .p (.fld false 1 1 (.tmp 36))⟩,gm 7 37])
 (.seq (.ops none [⟨some 9, .p (.mv (ci (0)))⟩,⟨some 10, .p (.mv (ci (10000)))⟩])
 (.seq (.block 2 (.loop [2, 3, 4, 5, 6, 7, 8] [9, 10] c106z15)) c106z13)))) c106z9)
noncomputable def c106z31 : ICode := .ops none [⟨some 83, .p (.pick (.tmp 78) (.tmp 82) (.const (.bool false)))⟩]
noncomputable def c106z29 : ICode := .seq (.ops (some (78, true)) [⟨some 79, .p (.fadr 1 (.tmp 13))⟩,⟨some 80, .l (.load false 1 (.tmp 79))⟩,⟨some 81, .p (.lenSl (.tmp 80))⟩,⟨some 82, .p (.bin .gtr (.tmp 81) (ci (0)))⟩])
 (.cut [3, 4, 5, 12, 13, 78, 82] c106z31)
noncomputable def c106z27 : ICode := .cond (.tmp 83) (.seq (.dops [(none, [⟨some 84, .l (.load true 2 (.tmp 12)), 0⟩,⟨some 85, .call 22 [(ci (1))], 0⟩,⟨some 86, .call 94 [(.tmp 84), (.tmp 85)], 3⟩,⟨some 87, .l (.load true 2 (.tmp 3)), 0⟩,⟨some 88, .l (.load true 2 (.tmp 13)), 0⟩,⟨some 89, .call 94 [(.tmp 87), (.tmp 88)], 31⟩,
 ⟨none, .e (.store 2 (.tmp 4) (.tmp 86)), 63⟩,
 ⟨none, .e (.store 2 (.tmp 5) (.tmp 89)), 127⟩])])
 (.ret))
 (.skip)
noncomputable def c106z26 : ICode := .seq (.dops [(none, [⟨some 90, .l (.load true 2 (.tmp 12)), 0⟩,⟨some 91, .l (.load true 2 (.tmp 13)), 0⟩,
 ⟨none, .e (.store 2 (.tmp 4) (.tmp 90)), 1⟩,
 ⟨none, .e (.store 2 (.tmp 5) (.tmp 91)), 7⟩])])
 (.ret)
noncomputable def c106z24 : ICode := .seq (.ops none [⟨some 68, .p (.fadr 0 (.tmp 2))⟩,⟨some 69, .l (.load false 1 (.tmp 68))⟩,gm 70 6,⟨some 71, .p (.build [(.bool false), (.slice none 0 0)] [(0, 1, (.tmp 69)), (1, 1, (.tmp 70))])⟩,⟨some 72, .call 95 [(.tmp 71)]⟩,gm 73 7,⟨some 74, .p (.build [(.bool false), (.slice none 0 0)] [(1, 1, (.tmp 73))])⟩,⟨some 75, .call 95 [(.tmp 74)]⟩,⟨some 12, .e (.alloc 36 [(.bool false), (.slice none 0 0)])⟩,⟨some 13, .e (.alloc 36 [(.bool false), (.slice none 0 0)])⟩,
 ⟨none, .e (.store 2 (.tmp 12) (.tmp 72))⟩,
 ⟨none, .e (.store 2 (.tmp 13) (.tmp 75))⟩])
 (.seq (.seq (.seq (.ops none [⟨some 76, .p (.fadr 0 (.tmp 2))⟩,⟨some 77, .l (.load false 1 (.tmp 76))⟩,gm 78 77])
 (.cut [3, 4, 5, 12, 13, 78] c106z29)) c106z27) c106z26)
noncomputable def c106z3 : ICode := .cut [2, 3, 4, 5, 6, 7] c106z24
noncomputable def c106 : ICode := .seq (.ops none [⟨some 2, .e (.box 36 (.tmp 0))⟩,⟨some 3, .e (.box 36 (.tmp 1))⟩,⟨some 4, .e (.alloc 36 [(.bool false), (.slice none 0 0)])⟩,⟨some 5, .e (.alloc 36 [(.bool false), (.slice none 0 0)])⟩])
 (.seq (.ops none [⟨some 14, .p (.fadr 1 (.tmp 2))⟩,⟨some 15, .l (.load false 1 (.tmp 14))⟩,⟨some 16, .p (.lenSl (.tmp 15))⟩,⟨some 17, .e (.make 3 8 [(.int .i64 (0))] (.tmp 16) (.tmp 16))⟩,⟨some 18, .e (.mkSl 3 0 [(.int .i64 (0))] [])⟩,gm 6 17,gm 7 18])
 (.seq (.seq (.ops none [⟨some 19, .p (.fadr 1 (.tmp 2))⟩,⟨some 20, .l (.load false 1 (.tmp 19))⟩,⟨some 21, .p (.lenSl (.tmp 20))⟩,⟨some 22, .p (.bin .sub (.tmp 21) (ci (1)))⟩,gm 8 22])
 (.block 0 (.loop [2, 3, 4, 5, 6] [7, 8] c106z6))) c106z3))
theorem k106 : compFn Tryz.prog 106 [[], [], [], [2, 3, 4, 5, 6], [7, 8], [], [], [], [], [2, 3, 4, 5, 6, 7, 8], [9, 10], [], [], [], [], [2, 3, 4, 5, 6, 7, 8, 9], [], [2, 3, 4, 5, 6, 7, 8], [2, 3, 4, 5, 6, 7], [], [3, 4, 5, 12, 13, 78], [3, 4, 5, 12, 13, 78, 82], [], [], [], []] = some (92, c106, [.cell true 2 4, .cell true 2 5]) := by kernel_rfl
def K106z0 (_P : Program) (K : VK) : Kont := bodyP [.cell true 2 4, .cell true 2 5] K
def K106z3 : Kont := thenK (iwpP P c106z3 (K106z0 P K)) (K106z0 P K)
def K106z5 : Kont := inBlockK 0 (K106z3 P K)
def K106z6 (a2 b3 x4 x5 q6 : Value) (L1 : LK) : Kont := thenK (fun f' h'' => (([2, 3, 4, 5, 6] : List Nat).map f' : List Value) = [a2, b3, x4, x5, q6] ∧ L1 (([7, 8] : List Nat).map f') h'') (K106z5 P K)
def K106z9 (a2 b3 x4 x5 q6 : Value) (L1 : LK) : Kont := thenK (iwpP P c106z9 (K106z6 P K a2 b3 x4 x5 q6 L1)) (K106z6 P K a2 b3 x4 x5 q6 L1)
def K106z10 (a2 b3 x4 x5 q6 : Value) (L1 : LK) : Kont := inBlockK 1 (K106z9 P K a2 b3 x4 x5 q6 L1)
def K106z13 (a2 b3 x4 x5 q6 : Value) (L1 : LK) : Kont := thenK (iwpP P c106z13 (K106z10 P K a2 b3 x4 x5 q6 L1)) (K106z10 P K a2 b3 x4 x5 q6 L1)
def K106z14 (a2 b3 x4 x5 q6 : Value) (L1 : LK) : Kont := inBlockK 2 (K106z13 P K a2 b3 x4 x5 q6 L1)
def K106z15 (a2 b3 x4 x5 q6 rest7 i8 : Value) (L1 L2 : LK) : Kont := thenK (fun f' h'' => (([2, 3, 4, 5, 6, 7, 8] : List Nat).map f' : List Value) = [a2, b3, x4, x5, q6, rest7, i8] ∧ L2 (([9, 10] : List Nat).map f') h'') (K106z14 P K a2 b3 x4 x5 q6 L1)
def K106z26 : Kont := thenK (iwpP P c106z26 (K106z0 P K)) (K106z0 P K)
def K106z27 : Kont := thenK (iwpP P c106z27 (K106z26 P K)) (K106z26 P K)
def p106z6 (a2 b3 x4 x5 q6 : Value) (L1 : LK) (xs : List Value) (h : Heap) : Prop := CutP (iwpP P c106z6 (K106z6 P K a2 b3 x4 x5 q6 L1)) ([2, 3, 4, 5, 6] ++ [7, 8]) ([a2, b3, x4, x5, q6] ++ xs) h
def p106z15 (a2 b3 x4 x5 q6 rest7 i8 : Value) (L1 L2 : LK) (xs : List Value) (h : Heap) : Prop := CutP (iwpP P c106z15 (K106z15 P K a2 b3 x4 x5 q6 rest7 i8 L1 L2)) ([2, 3, 4, 5, 6, 7, 8] ++ [9, 10]) ([a2, b3, x4, x5, q6, rest7, i8] ++ xs) h
def p106z21 (a2 b3 x4 x5 q6 rest7 i8 low9 : Value) (L1 : LK) (h : Heap) : Prop := CutP (iwpP P c106z21 (K106z10 P K a2 b3 x4 x5 q6 L1)) [2, 3, 4, 5, 6, 7, 8, 9] [a2, b3, x4, x5, q6, rest7, i8, low9] h
def p106z23 (a2 b3 x4 x5 q6 rest7 i8 : Value) (L1 : LK) (h : Heap) : Prop := CutP (iwpP P c106z23 (K106z6 P K a2 b3 x4 x5 q6 L1)) [2, 3, 4, 5, 6, 7, 8] [a2, b3, x4, x5, q6, rest7, i8] h
def p106z24 (a2 b3 x4 x5 q6 rest7 : Value) (h : Heap) : Prop := CutP (iwpP P c106z24 (K106z0 P K)) [2, 3, 4, 5, 6, 7] [a2, b3, x4, x5, q6, rest7] h
def p106z29 (b3 x4 x5 quotient12 left13 x78 : Value) (h : Heap) : Prop := CutP (iwpP P c106z29 (K106z27 P K)) [3, 4, 5, 12, 13, 78] [b3, x4, x5, quotient12, left13, x78] h
def p106z31 (b3 x4 x5 quotient12 left13 x78 x82 : Value) (h : Heap) : Prop := CutP (iwpP P c106z31 (K106z27 P K)) [3, 4, 5, 12, 13, 78, 82] [b3, x4, x5, quotient12, left13, x78, x82] h
theorem q106z15 (a2 b3 x4 x5 q6 rest7 i8 : Value) (L1 L2 : LK) (low9 high10 : Value) (h : Heap) : p106z15 P K a2 b3 x4 x5 q6 rest7 i8 L1 L2 [low9, high10] h =
 (OP (iBin .sub high10 low9) fun x40 =>
 OP (iBin .gtr x40 (.int .i64 (1))) fun x41 =>
 IfP x41
 (OP (iBin .add low9 high10) fun x44 =>
 OP (iBin .quo x44 (.int .i64 (2))) fun x45 =>
 OP (iFadr 1 b3) fun x46 =>
 OP (iLoad false 1 h x46) fun x47 =>
 CallP P 125 [x47, x45] h fun x49 h_1 =>
 CallP P 98 [x49, rest7] h_1 fun x51 h_2 =>
 OP (iBin .leq x51 (.int .i64 (0))) fun x52 =>
 IfP x52
 (([a2, b3, x4, x5, q6, rest7, i8] : List Value) = [a2, b3, x4, x5, q6, rest7, i8] ∧ L2 [x45, high10] h_2)
 (([a2, b3, x4, x5, q6, rest7, i8] : List Value) = [a2, b3, x4, x5, q6, rest7, i8] ∧ L2 [low9, x45] h_2))
 (p106z21 P K a2 b3 x4 x5 q6 rest7 i8 low9 L1 h)) := (CutP_def _ _ _ _).trans (by kernel_rfl)
theorem q106z21 (a2 b3 x4 x5 q6 rest7 i8 low9 : Value) (L1 : LK) (h : Heap) : p106z21 P K a2 b3 x4 x5 q6 rest7 i8 low9 L1 h =
 (OP (iAdrSl 1 q6 i8) fun x58 =>
 OH (oStore 1 h x58 low9) fun _ h_1 =>
 OP (iFadr 1 b3) fun x60 =>
 OP (iLoad false 1 h_1 x60) fun x61 =>
 CallP P 125 [x61, low9] h_1 fun x63 h_2 =>
 CallP P 99 [rest7, x63] h_2 fun x64 h_3 =>
 OP (iBuild [(.bool false), (.slice none 0 0)] [(1, 1, x64)]) fun x65 =>
 CallP P 95 [x65] h_3 fun x66 h_4 =>
 OP (iFld false 1 1 x66) fun x67 =>
 p106z23 P K a2 b3 x4 x5 q6 x67 i8 L1 h_4) := (CutP_def _ _ _ _).trans (by kernel_rfl)
theorem q106z23 (a2 b3 x4 x5 q6 rest7 i8 : Value) (L1 : LK) (h : Heap) : p106z23 P K a2 b3 x4 x5 q6 rest7 i8 L1 h =
 (OP (iBin .sub i8 (.int .i64 (1))) fun x26 =>
 ([a2, b3, x4, x5, q6] : List Value) = [a2, b3, x4, x5, q6] ∧ L1 [rest7, x26] h) := (CutP_def _ _ _ _).trans (by kernel_rfl)
theorem q106z6 (a2 b3 x4 x5 q6 : Value) (L1 : LK) (rest7 i8 : Value) (h : Heap) : p106z6 P K a2 b3 x4 x5 q6 L1 [rest7, i8] h =
 (OP (iBin .geq i8 (.int .i64 (0))) fun x24 =>
 IfP x24
 (OP (iFadr 1 a2) fun x27 =>
 OP (iLoad false 1 h x27) fun x28 =>
 OP (iAdrSl 1 x28 i8) fun x30 =>
 OP (iLoad false 1 h x30) fun x31 =>
 OH (iMkSl 3 1 [(.int .i64 (0))] h [(0, 1, x31)]) fun x32 h_1 =>
 OH (iApp 3 1 8 h_1 x32 rest7) fun x34 h_2 =>
 OP (iBuild [(.bool false), (.slice none 0 0)] [(1, 1, x34)]) fun x35 =>
 CallP P 95 [x35] h_2 fun x36 h_3 =>
 OP (iFld false 1 1 x36) fun x37 =>
 LoopP [(.int .i64 (0)), (.int .i64 (10000))] h_3 fun L2 xs hx =>
 p106z15 P K a2 b3 x4 x5 q6 x37 i8 L1 L2 xs hx)
 (p106z24 P K a2 b3 x4 x5 q6 rest7 h)) := (CutP_def _ _ _ _).trans (by kernel_rfl)
theorem q106z31 (b3 x4 x5 quotient12 left13 x78 x82 : Value) (h : Heap) : p106z31 P K b3 x4 x5 quotient12 left13 x78 x82 h =
 (OP (iPick x78 x82 (.bool false)) fun x83 =>
 IfP x83
 (OP (iLoad true 2 h quotient12) fun x84 =>
 (True) ∧
 CallP P 22 [(.int .i64 (1))] h fun x85 h_1 =>
 (iLoad true 2 h_1 quotient12 = some x84 ∧ True) ∧
 CallP P 94 [x84, x85] h_1 fun x86 h_2 =>
 (True) ∧
 OP (iLoad true 2 h_2 b3) fun x87 =>
 (iLoad true 2 h b3 = some x87 ∧ iLoad true 2 h_1 b3 = some x87 ∧ True) ∧
 OP (iLoad true 2 h_2 left13) fun x88 =>
 (iLoad true 2 h left13 = some x88 ∧ iLoad true 2 h_1 left13 = some x88 ∧ True) ∧
 CallP P 94 [x87, x88] h_2 fun x89 h_3 =>
 (True) ∧
 OH (oStore 2 h_3 x4 x86) fun _ h_4 =>
 (True) ∧
 OH (oStore 2 h_4 x5 x89) fun _ h_5 =>
 (True) ∧
 OP (iLoad true 2 h_5 x4) fun r0 =>
 OP (iLoad true 2 h_5 x5) fun r1 =>
 K (.tuple #[r0, r1]) h_5)
 (OP (iLoad true 2 h quotient12) fun x90 =>
 (True) ∧
 OP (iLoad true 2 h left13) fun x91 =>
 (True) ∧
 OH (oStore 2 h x4 x90) fun _ h_1 =>
 (iLoad true 2 h_1 left13 = some x91 ∧ True) ∧
 OH (oStore 2 h_1 x5 x91) fun _ h_2 =>
 (True) ∧
 OP (iLoad true 2 h_2 x4) fun r0 =>
 OP (iLoad true 2 h_2 x5) fun r1 =>
 K (.tuple #[r0, r1]) h_2)) := (CutP_def _ _ _ _).trans (by kernel_rfl)
theorem q106z29 (b3 x4 x5 quotient12 left13 x78 : Value) (h : Heap) : p106z29 P K b3 x4 x5 quotient12 left13 x78 h =
 (GdP x78 true
 (OP (iFadr 1 left13) fun x79 =>
 OP (iLoad false 1 h x79) fun x80 =>
 OP (iLenSl x80) fun x81 =>
 OP (iBin .gtr x81 (.int .i64 (0))) fun x82 =>
 p106z31 P K b3 x4 x5 quotient12 left13 x78 x82 h)
 (p106z31 P K b3 x4 x5 quotient12 left13 x78 undef h)) := (CutP_def _ _ _ _).trans (by kernel_rfl)
theorem q106z24 (a2 b3 x4 x5 q6 rest7 : Value) (h : Heap) : p106z24 P K a2 b3 x4 x5 q6 rest7 h =
 (OP (iFadr 0 a2) fun x68 =>
 OP (iLoad false 1 h x68) fun x69 =>
 OP (iBuild [(.bool false), (.slice none 0 0)] [(0, 1, x69), (1, 1, q6)]) fun x71 =>
 CallP P 95 [x71] h fun x72 h_1 =>
 OP (iBuild [(.bool false), (.slice none 0 0)] [(1, 1, rest7)]) fun x74 =>
 CallP P 95 [x74] h_1 fun x75 h_2 =>
 OH (iAlloc 36 [(.bool false), (.slice none 0 0)] h_2) fun quotient12 h_3 =>
 OH (iAlloc 36 [(.bool false), (.slice none 0 0)] h_3) fun left13 h_4 =>
 OH (oStore 2 h_4 quotient12 x72) fun _ h_5 =>
 OH (oStore 2 h_5 left13 x75) fun _ h_6 =>
 OP (iFadr 0 a2) fun x76 =>
 OP (iLoad false 1 h_6 x76) fun x77 =>
 p106z29 P K b3 x4 x5 quotient12 left13 x77 h_6) := (CutP_def _ _ _ _).trans (by kernel_rfl)
def T106 (a0 b1 : Value) (h : Heap) : Prop :=
 OH (iBox 36 h a0) fun a2 h_1 =>
 OH (iBox 36 h_1 b1) fun b3 h_2 =>
 OH (iAlloc 36 [(.bool false), (.slice none 0 0)] h_2) fun x4 h_3 =>
 OH (iAlloc 36 [(.bool false), (.slice none 0 0)] h_3) fun x5 h_4 =>
 OP (iFadr 1 a2) fun x14 =>
 OP (iLoad false 1 h_4 x14) fun x15 =>
 OP (iLenSl x15) fun x16 =>
 OH (iMake 3 8 [(.int .i64 (0))] h_4 x16 x16) fun x17 h_5 =>
 OH (iMkSl 3 0 [(.int .i64 (0))] h_5 []) fun x18 h_6 =>
 OP (iFadr 1 a2) fun x19 =>
 OP (iLoad false 1 h_6 x19) fun x20 =>
 OP (iLenSl x20) fun x21 =>
 OP (iBin .sub x21 (.int .i64 (1))) fun x22 =>
 LoopP [x18, x22] h_6 fun L1 xs hx =>
 p106z6 P K a2 b3 x4 x5 x17 L1 xs hx
theorem e106 (a0 b1 : Value) (h : Heap) : iwpP P c106 (bodyP [.cell true 2 4, .cell true 2 5] K) (frame0 [a0, b1]) h = T106 P K a0 b1 h := by kernel_rfl
theorem f106 {K : VK} {a0 b1 : Value} {h : Heap} (H : T106 Tryz.prog K a0 b1 h) : CallP Tryz.prog 106 [a0, b1] h K :=
 callP_intro k106 (Nat.le_of_ble_eq_true rfl) ((e106 Tryz.prog K a0 b1 h).mpr H)
end Go.Proofs.YthplaillblmgfaaGreatDoor

namespace Go.Proofs.YthplaillblmgfaaGreatDoor
open Go.Sim

theorem buildM {e : TypeId} {k : IntKind} {h : Heap} {v : Value} {xs : List Nat} (d : DS e k h v xs) : iBuild [(.bool false), (.slice none 0 0)] [(1, 1, v)] = some (.agg #[B false, v]) := by
  rcases d with ⟨rfl, _⟩ | ⟨i, rfl, _⟩ <;> rfl

theorem fldM (b : Bool) (v : Value) : iFld false 1 1 (.agg #[B b, v]) = some v := rfl

theorem big201 {n : Nat} (h : n < 10000 ^ 201) : n < bigW := by
  refine Nat.lt_of_lt_of_le h ?_
  unfold bigW
  decide +kernel

theorem MagZ.toZ {h : Heap} {v : Value} {n : Nat} (p : MagZ h v n) : ZV h (.agg #[B false, v]) (n : Int) := ⟨v, by rw [decide_eq_false (by omega)], by simpa using p⟩

/-- Times a digit. -/
theorem C125 {v : Value} {n d : Nat} {h : Heap} {K : Value → Heap → Prop} (hv : MagZ h v n) (hn : n < 10000 ^ 200) (hd : d ≤ 10000) (hk : ∀ r h', EX h h' → MagZ h' r (n * d) → K r h') : CallP Tryz.prog 125 [v, I d] h K := by
  have hnb : n < bigW := big201 (by
    have : (10000 : Nat) ^ 201 = 10000 ^ 200 * 10000 := by decide +kernel
    omega)
  have hprod : n * d < bigW := by
    refine big201 ?_
    have h1 : n * d ≤ n * 10000 := Nat.mul_le_mul_left _ hd
    have : (10000 : Nat) ^ 201 = 10000 ^ 200 * 10000 := by decide +kernel
    omega
  refine f125 ?_
  obtain ⟨xs, dx, cx⟩ := id hv
  simp only [T125, buildM dx, OP_some]
  refine C22 (z := d) (by omega) ?_
  intro r1 h1 x1 z1
  refine C53 (hv.toZ.mono x1) z1 (by simpa using hnb) (by have := big201 (n := 10000) (by decide +kernel); simp; omega) ?_
  intro r2 h2 x2 z2
  obtain ⟨u, rfl, hu⟩ := z2
  have e1 : ((n : Int) * (d : Int)).natAbs = n * d := by rw [Int.natAbs_mul]; simp
  rw [e1] at hu
  have e2 : decide ((n : Int) * (d : Int) < 0) = false := decide_eq_false (by have : (n : Int) * (d : Int) = ((n * d : Nat) : Int) := by simp
                                                                              omega)
  rw [e2]
  obtain ⟨ys, dy, cy, vy⟩ := hu
  have ly := canZ_len cy (by rw [vy]; exact hprod)
  refine C95 dy cy.1 (by omega) ?_
  intro r3 h3 x3 z3
  simp only [Bool.false_eq_true, if_false, vy] at z3
  obtain ⟨w, rfl, hw⟩ := z3
  rw [fldM]
  rw [Int.natAbs_natCast] at hw
  exact OP_some.2 (hk _ _ ((x1.trans x2).trans x3) hw)

theorem MagZ.keepI {h h' : Heap} {n i m : Nat} (p : MagZ h (sl 3 i 0 m) n) (hi : h'[i]? = h[i]?) : MagZ h' (sl 3 i 0 m) n := by
  obtain ⟨xs, d, c, v⟩ := p
  refine ⟨xs, ?_, c, v⟩
  rcases d with ⟨h1, h2⟩ | ⟨j, h1, h2⟩
  · cases h1
  · obtain ⟨rfl, rfl⟩ := sl_inj h1
    refine .inr ⟨i, rfl, h2.imp id ?_⟩
    rintro ⟨r, hr⟩
    refine ⟨r, ?_⟩
    unfold objCells at hr ⊢
    rw [hi]; exact hr

/-- A digit at the front. -/
theorem consD {h : Heap} {v : Value} {ys : List Nat} {d : Nat} {K : Value → Heap → Prop} (p : DS 3 .i64 h v ys) (hl : ys.length ≤ 1000) (hk : ∀ r h', EX h h' → DS 3 .i64 h' r (d :: ys) → K r h') :
    OH (iMkSl 3 1 [.int .i64 0] h [(0, 1, I d)]) fun a h1 => OH (iApp 3 1 8 h1 a v) K := by
  have e1 : iMkSl 3 1 [.int .i64 0] h [(0, 1, I d)] = some (sl 3 h.length 0 1, h ++ [.arr 3 [I d]]) := rfl
  rw [e1]
  simp only [OH_some]
  obtain ⟨c1, c2⟩ := (p.mono (EX.append h [.arr 3 [I d]])).cells
  by_cases hn0 : ys.length = 0
  · have : ys = [] := List.length_eq_zero_iff.1 hn0
    subst this
    have e2 : iApp 3 1 8 (h ++ [.arr 3 [I d]]) (sl 3 h.length 0 1) v = some (sl 3 h.length 0 1, h ++ [.arr 3 [I d]]) := by
      simp [iApp, c1, c2, sl, maxLen]
    rw [e2]
    simp only [OH_some]
    exact hk _ _ (EX.append _ _) (.inr ⟨h.length, rfl, .inr ⟨[], by simp [objCells]⟩⟩)
  · have hg : (h ++ [IObj.arr 3 [I d]])[h.length]? = some (.arr 3 [I d]) := get_last
    have e2 : iApp 3 1 8 (h ++ [.arr 3 [I d]]) (sl 3 h.length 0 1) v = some (sl 3 (h.length + 1) 0 (1 + ys.length), (h ++ [IObj.arr 3 [I d]]).set h.length .dead ++ [.arr 3 ([I d] ++ ys.map fun d : Nat => I d)]) := by
      simp only [iApp, c1, c2]
      simp only [sl, hg]
      rw [if_pos ⟨trivial, trivial, by simp, by omega, by unfold maxLen; omega⟩, if_neg hn0]
      simp
    rw [e2]
    simp only [OH_some]
    refine hk _ _ (((EX.append _ _).set (Nat.le_refl _) _).push _) (.inr ⟨h.length + 1, by rw [List.length_cons, Nat.add_comm 1], .inr ⟨[], ?_⟩⟩)
    unfold objCells
    rw [List.getElem?_append_right (by simp)]
    simp

theorem val_drop (B : Nat) (xs : List Nat) {i : Nat} (hi : i < xs.length) : val B (xs.drop i) = xs[i] + B * val B (xs.drop (i + 1)) := by
  rw [List.drop_eq_getElem_cons hi]; rfl

theorem sgn_le {a b : Nat} : sgn a b ≤ 0 ↔ a ≤ b := by
  unfold sgn
  split
  · constructor <;> omega
  · split <;> constructor <;> omega

theorem C106 {va vb : Value} {a b : Int} {h : Heap} {K : Value → Heap → Prop} (ha : ZV h va a) (hb : ZV h vb b) (hb0 : 0 < b) (la : a.natAbs < 10000 ^ 199) (lb : b.natAbs < 10000 ^ 199)
    (hk : ∀ r s h', EX h h' → ZV h' r (a / b) → ZV h' s (a % b) → K (.tuple #[r, s]) h') : CallP Tryz.prog 106 [va, vb] h K := by
  obtain ⟨v, rfl, hv⟩ := ha
  obtain ⟨w, rfl, hw⟩ := hb
  have hp200 : (10000 : Nat) ^ 200 = 10000 ^ 199 * 10000 := by decide +kernel
  have hp201 : (10000 : Nat) ^ 201 = 10000 ^ 200 * 10000 := by decide +kernel
  refine f106 ?_
  unfold T106
  refine box2z ?_
  intro h3 x
  obtain ⟨B, hBb⟩ : ∃ B : Nat, b = B := ⟨b.toNat, by omega⟩
  subst hBb
  have hB0 : 0 < B := by omega
  have hBl : B < 10000 ^ 199 := by simpa using lb
  obtain ⟨xs, dx, cx, ex⟩ := hv.mono x.ex
  have l1 := canZ_len cx (by rw [ex]; exact big201 (by omega))
  have hwB : MagZ h3 w B := by have := hw.mono x.ex; simpa using this
  have e2 : iAlloc 36 [(.bool false), (.slice none 0 0)] h3 = some (pt h3.length 0, h3 ++ [.arr 36 [(.bool false), (.slice none 0 0)]]) := rfl
  simp only [e2, OH_some, fadr_pt, Nat.add_zero, Nat.zero_add]
  have x4 : EX h3 (h3 ++ [.arr 36 [(.bool false), (.slice none 0 0)]]) := EX.append _ _
  have g5 : (h3 ++ [IObj.arr 36 [(.bool false), (.slice none 0 0)]])[h3.length]? = some (.arr 36 [(.bool false), (.slice none 0 0)]) := get_last
  have hl3 : h.length + 2 < h3.length := (List.getElem?_eq_some_iff.1 x.out).1
  generalize hh4 : h3 ++ [IObj.arr 36 [(.bool false), (.slice none 0 0)]] = h4 at x4 g5 ⊢
  have hl4 : h4.length = h3.length + 1 := by rw [← hh4]; simp
  clear hh4
  have dx4 := dx.mono x4
  simp only [EX.load x4 x.a1, OP_some, dx4.len, make_hz (show xs.length ≤ 1000 by omega), OH_some, EX.load (x4.trans (hz_EX h4 _)) x.a1, mkD0]
  have e6 : IntKind.wrap .i64 ((xs.length : Int) - 1) = (xs.length : Int) - 1 := wrap64 (by omega) (by omega)
  have x6 : EX h4 (hz h4 (List.replicate xs.length 0) ++ [.arr 3 []]) := (hz_EX h4 _).push _
  simp only [EX.load (x4.trans x6) x.a1, OP_some, dx4.len, bin_sub, e6]
  have hq0 : (hz h4 (List.replicate xs.length 0) ++ [IObj.arr 3 []])[h4.length]? = some (.arr 3 ((List.replicate xs.length 0).map fun d : Nat => I d)) := by
    rw [List.getElem?_append_left (by simp [hz])]; exact hz_get _ _
  have hr0 : MagZ (hz h4 (List.replicate xs.length 0) ++ [IObj.arr 3 []]) (sl 3 (hz h4 (List.replicate xs.length 0)).length 0 0) 0 := ⟨[], .inr ⟨_, rfl, .inl rfl⟩, Canon.nil _, rfl⟩
  refine loopL (σ := Nat × Nat × Value × List Nat × Heap) (fun p => [p.2.2.1, I ((p.1 : Int) - 1)]) (fun p => p.2.2.2.2)
    (fun p => p.1 ≤ xs.length ∧ EX h4 p.2.2.2.2 ∧ p.2.2.2.2[h4.length]? = some (.arr 3 (p.2.2.2.1.map fun d : Nat => I d)) ∧ p.2.2.2.1.length = xs.length ∧ Lim 10000 p.2.2.2.1 ∧ MagZ p.2.2.2.2 p.2.2.1 p.2.1 ∧ p.2.1 < B ∧ val 10000 (p.2.2.2.1.drop p.1) * B + p.2.1 = val 10000 (xs.drop p.1)) (fun p => p.1)
    (xs.length, 0, _, List.replicate xs.length 0, _) rfl rfl ⟨Nat.le_refl _, x6, hq0, by simp, Lim.zeros (by decide) _, hr0, hB0, by simp [val]⟩ ?_
  rintro ⟨i, R, rv, qs, g⟩ ⟨hi, xg, hq, hql, hqlim, hR, hRB, hval⟩ L hL
  simp only at hi xg hq hql hqlim hR hRB hval hL ⊢
  have ldA : ∀ {g'}, EX h4 g' → iLoad false 1 g' (pt h.length 1) = some v := fun y => EX.load (x4.trans y) x.a1
  have ldB : ∀ {g'}, EX h4 g' → iLoad false 1 g' (pt (h.length + 1) 1) = some w := fun y => EX.load (x4.trans y) x.b1
  rw [q106z6]
  simp only [bin_geq, OP_some, IfP_dec]
  refine ⟨fun hge => ?_, fun hlt => ?_⟩
  · obtain ⟨j, rfl⟩ : ∃ j, i = j + 1 := ⟨i - 1, by omega⟩
    have ej : ((j + 1 : Nat) : Int) - 1 = (j : Int) := by omega
    have hjx : j < xs.length := by omega
    obtain ⟨ia, a1, a2⟩ := (dx4.mono xg).get hjx
    have hxj : xs[j] < 10000 := cx.1 _ (List.getElem_mem hjx)
    have hvd := val_drop 10000 xs hjx
    rw [ej]
    simp only [fadr_pt, Nat.zero_add, ldA xg, OP_some, a1, a2]
    obtain ⟨rs, dr, cr, vr⟩ := id hR
    have lr := canZ_len cr (by rw [vr]; exact big201 (by omega))
    refine consD dr (by omega) ?_
    intro r1 g1 y1 d1
    simp only [buildM d1, OP_some]
    refine C95f d1 (fun z hz => by
      rcases List.mem_cons.1 hz with rfl | hz
      · exact hxj
      · exact cr.1 z hz) (by simp; omega) ?_
    rintro r2 g2 y2 z2 ⟨fb, fi, fn, rfl, hfi⟩
    have ev : val 10000 (xs[j] :: rs) = xs[j] + 10000 * R := by simp only [val, vr]
    simp only [Bool.false_eq_true, if_false, ev] at z2
    obtain ⟨rw2, hrw2e, hrw⟩ := z2
    injection hrw2e with hrw2e
    injection hrw2e with hrw2e
    simp only [List.cons.injEq, and_true] at hrw2e
    obtain ⟨_, rfl⟩ := hrw2e
    rw [fldM]
    have hrw2 : MagZ g2 (sl 3 fi 0 fn) (xs[j] + 10000 * R) := by
      rw [Int.natAbs_natCast] at hrw
      exact hrw
    have hfi4 : h4.length < fi := by
      have h9 := (List.getElem?_eq_some_iff.1 hq).1
      have h8 := y1.1
      omega
    simp only [OP_some]
    have hR' : xs[j] + 10000 * R < 10000 * B := by omega
    generalize hRR : xs[j] + 10000 * R = R' at hrw2 hR'
    have xg2 : EX h4 g2 := (xg.trans y1).trans y2
    refine loopL (σ := Nat × Nat × Heap) (fun p => [I p.1, I p.2.1]) (fun p => p.2.2) (fun p => p.1 < p.2.1 ∧ p.2.1 ≤ 10000 ∧ EX g2 p.2.2 ∧ p.1 * B ≤ R' ∧ R' < p.2.1 * B) (fun p => p.2.1 - p.1)
      (0, 10000, g2) rfl rfl ⟨by show 0 < 10000; decide, Nat.le_refl _, EX.refl _, by simp, hR'⟩ ?_
    rintro ⟨lo, hi2, g3⟩ ⟨hlh, hh, y3, hlo, hhi⟩ L2 hL2
    simp only at hlh hh y3 hlo hhi hL2 ⊢
    have xg3 : EX h4 g3 := xg2.trans y3
    rw [q106z15]
    have e7 : IntKind.wrap .i64 ((hi2 : Int) - (lo : Int)) = ((hi2 - lo : Nat) : Int) := by rw [wrap64 (by omega) (by omega)]; omega
    have e8 : IntKind.wrap .i64 ((lo : Int) + (hi2 : Int)) = ((lo + hi2 : Nat) : Int) := by rw [wrap64 (by omega) (by omega)]; omega
    simp only [bin_sub, e7, OP_some, bin_gtr, IfP_dec]
    refine ⟨fun hgt => ?_, fun hle => ?_⟩
    · simp only [bin_add, e8, OP_some]
      rw [show (.int .i64 2 : Value) = .int .i64 ((2 : Nat) : Int) from rfl, quoI (by decide) (by omega)]
      simp only [OP_some, fadr_pt, Nat.zero_add, ldB xg3]
      have hm : (lo + hi2) / 2 ≤ 10000 := by omega
      refine C125 ((hwB.mono x4).mono xg3) (by omega) hm ?_
      intro r4 g4 y4 m4
      have hbm : B * ((lo + hi2) / 2) < bigW := by
        refine big201 ?_
        have := Nat.mul_le_mul_left B hm
        omega
      refine C98 (a := B * ((lo + hi2) / 2)) (b := R') m4 ((hrw2.mono y3).mono y4) hbm (big201 (by omega)) ?_
      simp only [bin_leq, OP_some, IfP_dec, true_and]
      generalize hmm : (lo + hi2) / 2 = mid at *
      have hml : lo < mid ∧ mid < hi2 := by omega
      refine ⟨fun h0 => ?_, fun h0 => ?_⟩
      · have := sgn_le.1 h0
        exact hL2 (mid, hi2, g4) ⟨hml.2, hh, y3.trans y4, by show mid * B ≤ R'; rw [Nat.mul_comm]; exact this, hhi⟩ (by show hi2 - mid < hi2 - lo; omega)
      · have : ¬ B * mid ≤ R' := fun h9 => h0 (sgn_le.2 h9)
        exact hL2 (lo, mid, g4) ⟨hml.1, by show mid ≤ 10000; omega, y3.trans y4, hlo, by show R' < mid * B; rw [Nat.mul_comm]; omega⟩ (by show mid - lo < hi2 - lo; omega)
    · have hhl : hi2 = lo + 1 := by omega
      subst hhl
      have hRl : R' < lo * B + B := by rw [Nat.succ_mul] at hhi; exact hhi
      rw [q106z21]
      have hq3 : g3[h4.length]? = some (.arr 3 (qs.map fun d : Nat => I d)) := by
        rw [← hq]
        have hgl := (List.getElem?_eq_some_iff.1 hq).1
        rw [((y1.trans y2).trans y3).2 _ hgl]
      have ad : iAdrSl 1 (sl 3 h4.length 0 xs.length) (I j) = some (pt h4.length j) := adr_sl hjx
      simp only [ad, OP_some]
      rw [store_at hq3 (by simp; omega) rfl rfl]
      simp only [OH_some]
      have es : (qs.map fun d : Nat => I d).set j (I lo) = (qs.set j lo).map fun d : Nat => I d := by rw [List.map_set]
      rw [es]
      have xg5 : EX h4 (g3.set h4.length (.arr 3 ((qs.set j lo).map fun d : Nat => I d))) := xg3.set (Nat.le_refl _) _
      have hq5 : (g3.set h4.length (.arr 3 ((qs.set j lo).map fun d : Nat => I d)))[h4.length]? = some (.arr 3 ((qs.set j lo).map fun d : Nat => I d)) := set_get hq3
      -- the rest does not lie there
      have hrw5 : MagZ (g3.set h4.length (.arr 3 ((qs.set j lo).map fun d : Nat => I d))) (sl 3 fi 0 fn) R' := (hrw2.mono y3).keepI (by rw [List.getElem?_set_ne (by omega)])
      generalize g3.set h4.length (.arr 3 ((qs.set j lo).map fun d : Nat => I d)) = g5 at xg5 hq5 hrw5 ⊢
      simp only [fadr_pt, Nat.zero_add, ldB xg5, OP_some]
      refine C125 ((hwB.mono x4).mono xg5) (by omega) (by omega) ?_
      intro r6 g6 y6 m6
      obtain ⟨us, du, cu, vu⟩ := hrw5.mono y6
      obtain ⟨ts, dt, ct, vt⟩ := m6
      have hBlo : B * lo ≤ R' := by rw [Nat.mul_comm]; exact hlo
      have lu := canZ_len cu (by rw [vu]; exact big201 (by omega))
      refine C99 du dt cu.1 ct.1 (by omega) ?_ (by rw [vu, vt]; exact hBlo) ?_
      · apply Classical.byContradiction
        intro hc
        have := Canon.lt_of_len (by decide) cu ct (by omega)
        omega
      intro r7 g7 os y7 d7 l7 s7 v7
      simp only [buildM d7, OP_some]
      refine C95 d7 l7 (by omega) ?_
      intro r8 g8 y8 z8
      simp only [Bool.false_eq_true, if_false] at z8
      obtain ⟨rw8, rfl, hrw8⟩ := z8
      rw [fldM]
      simp only [OP_some]
      have ej2 : IntKind.wrap .i64 ((j : Int) - 1) = (j : Int) - 1 := wrap64 (by omega) (by omega)
      simp only [q106z23, bin_sub, ej2, OP_some, true_and]
      have hlo4 : lo < 10000 := by omega
      have hv7 : val 10000 os = R' - B * lo := by omega
      have hrw8' : MagZ g8 rw8 (R' - B * lo) := by rw [← hv7]; simpa using hrw8
      have hBB : B * lo = lo * B := Nat.mul_comm _ _
      refine hL (j, R' - B * lo, rw8, qs.set j lo, g8) ⟨by show j ≤ xs.length; omega, ((xg5.trans y6).trans y7).trans y8, ?_, by rw [List.length_set]; exact hql, hqlim.set hlo4 _, hrw8', by show R' - B * lo < B; omega, ?_⟩ (by show j < j + 1; omega)
      · have hgl := (List.getElem?_eq_some_iff.1 hq5).1
        show g8[h4.length]? = _
        rw [((y6.trans y7).trans y8).2 _ hgl]; exact hq5
      · show val 10000 ((qs.set j lo).drop j) * B + (R' - B * lo) = val 10000 (xs.drop j)
        have hd : (qs.set j lo).drop j = lo :: qs.drop (j + 1) := by
          rw [List.drop_eq_getElem_cons (by rw [List.length_set]; omega), List.getElem_set_self]
          congr 1
          rw [List.drop_set_of_lt (by omega)]
        rw [hd, hvd, ← hval]
        simp only [val]
        have h1 : (lo + 10000 * val 10000 (qs.drop (j + 1))) * B = lo * B + 10000 * (val 10000 (qs.drop (j + 1)) * B) := by rw [Nat.add_mul, Nat.mul_assoc]
        rw [h1]
        omega
  · have hi0 : i = 0 := by omega
    subst hi0
    simp only [List.drop_zero] at hval
    rw [q106z24]
    have ld0 : ∀ {g'}, EX h4 g' → iLoad false 1 g' (pt h.length 0) = some (Go.Sim.B (decide (a < 0))) := fun y => EX.load (x4.trans y) x.a0
    have dq : DS 3 .i64 g (sl 3 h4.length 0 xs.length) qs := by
      rw [← hql]
      exact .inr ⟨h4.length, rfl, .inr ⟨[], by simp [objCells, hq]⟩⟩
    simp only [fadr_pt, Nat.add_zero, Nat.zero_add, ld0 xg, OP_some, build2 dq]
    refine C95 dq hqlim (by omega) ?_
    intro r1 g1 y1 z1
    generalize hQ : val 10000 qs = Q at z1 hval
    obtain ⟨rs, dr, cr, vr⟩ := hR.mono y1
    have lr := canZ_len cr (by rw [vr]; exact big201 (by omega))
    simp only [buildM dr, OP_some]
    refine C95 dr cr.1 (by omega) ?_
    intro r2 g2 y2 z2
    simp only [Bool.false_eq_true, if_false, vr] at z2
    have z1 := z1.mono y2
    have xg2 : EX h4 g2 := (xg.trans y1).trans y2
    have hl2 : h3.length + 1 ≤ g2.length := by have := xg2.1; omega
    obtain ⟨uq, rfl, hq'⟩ := id z1
    obtain ⟨ur, rfl, hr'⟩ := id z2
    have e3 : ∀ g' : Heap, iAlloc 36 [(.bool false), (.slice none 0 0)] g' = some (pt g'.length 0, g' ++ [.arr 36 [(.bool false), (.slice none 0 0)]]) := fun _ => rfl
    simp only [e3, OH_some, List.length_append, List.length_cons, List.length_nil, Nat.zero_add]
    have k0 : (g2 ++ [IObj.arr 36 [(.bool false), (.slice none 0 0)]] ++ [IObj.arr 36 [(.bool false), (.slice none 0 0)]])[g2.length]? = some (.arr 36 [(.bool false), (.slice none 0 0)]) := by simp
    have k1 : (g2 ++ [IObj.arr 36 [(.bool false), (.slice none 0 0)]] ++ [IObj.arr 36 [(.bool false), (.slice none 0 0)]])[g2.length + 1]? = some (.arr 36 [(.bool false), (.slice none 0 0)]) := by simp
    have y3 : EX g2 (g2 ++ [IObj.arr 36 [(.bool false), (.slice none 0 0)]] ++ [IObj.arr 36 [(.bool false), (.slice none 0 0)]]) := (EX.append _ _).push _
    generalize g2 ++ [IObj.arr 36 [(.bool false), (.slice none 0 0)]] ++ [IObj.arr 36 [(.bool false), (.slice none 0 0)]] = g3 at k0 k1 y3 ⊢
    rw [store2 k0]
    simp only [OH_some]
    have y4 : EX g2 (g3.set g2.length (.arr 36 [Go.Sim.B (decide ((if decide (a < 0) = true then -(Q : Int) else (Q : Int)) < 0)), uq])) := y3.set (Nat.le_refl _) _
    have k0' := set_get (o := .arr 36 [Go.Sim.B (decide ((if decide (a < 0) = true then -(Q : Int) else (Q : Int)) < 0)), uq]) k0
    have k1' : (g3.set g2.length (.arr 36 [Go.Sim.B (decide ((if decide (a < 0) = true then -(Q : Int) else (Q : Int)) < 0)), uq]))[g2.length + 1]? = some (.arr 36 [(.bool false), (.slice none 0 0)]) := by rw [List.getElem?_set_ne (by omega)]; exact k1
    generalize g3.set g2.length (.arr 36 [Go.Sim.B (decide ((if decide (a < 0) = true then -(Q : Int) else (Q : Int)) < 0)), uq]) = g4 at y4 k0' k1' ⊢
    rw [store2 k1']
    simp only [OH_some]
    have y5 : EX g2 (g4.set (g2.length + 1) (.arr 36 [Go.Sim.B (decide ((R : Int) < 0)), ur])) := y4.set (by omega) _
    have m1 := set_get (o := .arr 36 [Go.Sim.B (decide ((R : Int) < 0)), ur]) k1'
    have m0 : (g4.set (g2.length + 1) (.arr 36 [Go.Sim.B (decide ((R : Int) < 0)), ur]))[g2.length]? = some (.arr 36 [Go.Sim.B (decide ((if decide (a < 0) = true then -(Q : Int) else (Q : Int)) < 0)), uq]) := by rw [List.getElem?_set_ne (by omega)]; exact k0'
    generalize g4.set (g2.length + 1) (.arr 36 [Go.Sim.B (decide ((R : Int) < 0)), ur]) = g5h at y5 m0 m1 ⊢
    have xg5 : EX h4 g5h := xg2.trans y5
    have xh5 : EX h g5h := (x.ex.trans x4).trans xg5
    have o4 := xg5.get (x4.get x.out)
    have o5 := xg5.get g5
    have zq := z1.mono y5
    have zr := z2.mono y5
    have zb : ZV g5h (.agg #[Go.Sim.B (decide ((B : Int) < 0)), w]) (B : Int) := ⟨w, rfl, (hw.mono x.ex).mono (x4.trans xg5)⟩
    have hQv : Q * B + R = a.natAbs := by rw [hval, ex]
    -- the two results
    have put : ∀ (r s : Value) (g6 : Heap), EX g5h g6 → ZV g6 r (a / (B : Int)) → ZV g6 s (a % (B : Int)) → OH (oStore 2 g6 (pt (h.length + 2) 0) r) fun _ h_1 => OH (oStore 2 h_1 (pt h3.length 0) s) fun _ h_2 => OP (iLoad true 2 h_2 (pt (h.length + 2) 0)) fun r0 => OP (iLoad true 2 h_2 (pt h3.length 0)) fun r1 => K (.tuple #[r0, r1]) h_2 := by
      rintro r s g6 y6 zr' zs'
      obtain ⟨u1, rfl, hu1⟩ := id zr'
      obtain ⟨u2, rfl, hu2⟩ := id zs'
      have n4 := y6.get o4
      have n5 := y6.get o5
      rw [store2 n4]
      simp only [OH_some]
      have n5' : (g6.set (h.length + 2) (.arr 36 [Go.Sim.B (decide (a / (B : Int) < 0)), u1]))[h3.length]? = some (.arr 36 [.bool false, .slice none 0 0]) := by rw [List.getElem?_set_ne (by omega)]; exact n5
      rw [store2 n5']
      simp only [OH_some]
      have p4 : ((g6.set (h.length + 2) (.arr 36 [Go.Sim.B (decide (a / (B : Int) < 0)), u1])).set h3.length (.arr 36 [Go.Sim.B (decide (a % (B : Int) < 0)), u2]))[h.length + 2]? = some (.arr 36 [Go.Sim.B (decide (a / (B : Int) < 0)), u1]) := by
        rw [List.getElem?_set_ne (by omega)]; exact set_get n4
      rw [load2 p4, OP_some, load2 (set_get n5'), OP_some]
      exact hk _ _ _ (((xh5.trans y6).set (by omega) _).set (by omega) _) ((zr'.setB n4 _).setB n5' _) ((zs'.setB n4 _).setB n5' _)
    have hBne : (0 : Int) < (B : Int) := by omega
    have un : ∀ q r : Int, r + (B : Int) * q = a → 0 ≤ r → r < (B : Int) → a / (B : Int) = q ∧ a % (B : Int) = r := fun q r h1 h2 h3 => (Int.ediv_emod_unique hBne).2 ⟨h1, h2, h3⟩
    have hQB : ((Q * B : Nat) : Int) = (B : Int) * (Q : Int) := by rw [Int.natCast_mul, Int.mul_comm]
    -- nothing to be turned
    have plain : (0 ≤ a ∨ R = 0) → p106z31 Tryz.prog K (pt (h.length + 1) 0) (pt (h.length + 2) 0) (pt h3.length 0) (pt g2.length 0) (pt (g2.length + 1) 0) (Go.Sim.B false) undef g5h ∧ p106z31 Tryz.prog K (pt (h.length + 1) 0) (pt (h.length + 2) 0) (pt h3.length 0) (pt g2.length 0) (pt (g2.length + 1) 0) (Go.Sim.B true) (Go.Sim.B false) g5h := by
      intro hc
      have hun : a / (B : Int) = (if decide (a < 0) = true then -(Q : Int) else (Q : Int)) ∧ a % (B : Int) = (R : Int) := by
        by_cases hneg : a < 0
        · have hR0 : R = 0 := by omega
          rw [decide_eq_true hneg, if_pos rfl]
          refine un _ _ ?_ (by omega) (by omega)
          rw [Int.mul_neg, ← hQB]
          omega
        · rw [decide_eq_false hneg, if_neg (by simp)]
          refine un _ _ ?_ (by omega) (by omega)
          rw [← hQB]
          omega
      have tail : OP (iLoad true 2 g5h (pt g2.length 0)) fun x90 => OP (iLoad true 2 g5h (pt (g2.length + 1) 0)) fun x91 => OH (oStore 2 g5h (pt (h.length + 2) 0) x90) fun _ h_1 => (iLoad true 2 h_1 (pt (g2.length + 1) 0) = some x91) ∧ OH (oStore 2 h_1 (pt h3.length 0) x91) fun _ h_2 => OP (iLoad true 2 h_2 (pt (h.length + 2) 0)) fun r0 => OP (iLoad true 2 h_2 (pt h3.length 0)) fun r1 => K (.tuple #[r0, r1]) h_2 := by
        have := put _ _ g5h (EX.refl _) (by rw [hun.1]; exact zq) (by rw [hun.2]; exact zr)
        rw [load2 m0, OP_some, load2 m1, OP_some]
        rw [store2 o4] at this ⊢
        simp only [OH_some] at this ⊢
        refine ⟨?_, this⟩
        refine load2 (e := 36) ?_
        rw [List.getElem?_set_ne (by omega)]
        exact m1
      constructor
      · rw [q106z31]
        simp only [iPick_f, OP_some, IfP_false, true_and, and_true]
        exact tail
      · rw [q106z31]
        simp only [iPick_t, OP_some, IfP_false, true_and, and_true]
        exact tail
    have ldl : iLoad false 1 g5h (pt (g2.length + 1) 1) = some ur := by simp [iLoad, objCells, m1, iPart]
    obtain ⟨l, p1, p2⟩ := (hr'.mono y5).len0
    have p2' : 0 < l ↔ 0 < R := by simpa using p2
    simp only [ld0 xg5, OP_some, q106z29]
    by_cases hneg : a < 0
    · rw [decide_eq_true hneg]
      simp only [GdP_tt, fadr_pt, Nat.add_comm 0 1, ldl, OP_some, p1, bin_gtr]
      by_cases hR0 : R = 0
      · rw [decide_eq_false (by omega)]
        exact (plain (.inr hR0)).2
      · rw [decide_eq_true (by omega), q106z31]
        have hbigA : a.natAbs < bigW := big201 (by omega)
        have hQle : Q ≤ a.natAbs := by
          have : Q * 1 ≤ Q * B := Nat.mul_le_mul_left _ hB0
          omega
        have hone : (1 : Int).natAbs < bigW := lt_bigW (by decide +kernel)
        simp only [iPick_t, OP_some, IfP_true, load2 m0, true_and]
        refine C22 (z := 1) (by decide) ?_
        intro r6 g6 y6 z6
        refine ⟨⟨EX.load y6 (load2 m0), trivial⟩, ?_⟩
        have ldb : ∀ {g'}, EX h4 g' → iLoad true 2 g' (pt (h.length + 1) 0) = some (.agg #[Go.Sim.B (decide ((B : Int) < 0)), w]) := fun y => EX.load (x4.trans y) x.b2
        refine C94 (zq.mono y6) z6 (by rw [decide_eq_true hneg, if_pos rfl]; omega) hone ?_
        intro r7 g7 y7 z7
        have xg7 := (xg5.trans y6).trans y7
        simp only [ldb xg5, ldb (xg5.trans y6), ldb xg7, OP_some, load2 m1, EX.load y6 (load2 m1), EX.load (y6.trans y7) (load2 m1), true_and, and_true]
        refine C94 (zb.mono (y6.trans y7)) (zr.mono (y6.trans y7)) (by have := big201 (n := B) (by omega); simpa using this) (by have := big201 (n := R) (by omega); simpa using this) ?_
        intro r8 g8 y8 z8
        have hun := un (-(Q : Int) - 1) ((B : Int) - (R : Int)) (by
          rw [Int.mul_sub, Int.mul_neg, ← hQB, Int.mul_one]
          omega) (by omega) (by omega)
        rw [decide_eq_true hneg, if_pos rfl] at z7
        exact put _ _ g8 ((y6.trans y7).trans y8) (by rw [hun.1]; exact z7.mono y8) (by rw [hun.2]; exact z8)
    · rw [decide_eq_false hneg]
      simp only [GdP_ft]
      exact (plain (.inl (by omega))).1

end Go.Proofs.YthplaillblmgfaaGreatDoor


namespace Go.Proofs.YthplaillblmgfaaGreatDoor
open Go.Sim

theorem C101 {va : Value} {a : Int} {h : Heap} {K : Value → Heap → Prop} (ha : ZV h va a) (hk : ∀ u h', EX h h' → MagZ h' u a.natAbs → K (.agg #[B false, u]) h') : CallP Tryz.prog 101 [va] h K := by
  obtain ⟨v, rfl, hv⟩ := ha
  refine f101 ?_
  have e1 : iBox 36 h (.agg #[B (decide (a < 0)), v]) = some (pt h.length 0, h ++ [.arr 36 [B (decide (a < 0)), v]]) := rfl
  have e2 : ∀ g' : Heap, iAlloc 36 [(.bool false), (.slice none 0 0)] g' = some (pt g'.length 0, g' ++ [.arr 36 [(.bool false), (.slice none 0 0)]]) := fun _ => rfl
  simp only [T101, e1, e2, OH_some, List.length_append, List.length_cons, List.length_nil, Nat.zero_add]
  have k0 : (h ++ [IObj.arr 36 [B (decide (a < 0)), v]] ++ [IObj.arr 36 [(.bool false), (.slice none 0 0)]])[h.length]? = some (.arr 36 [B (decide (a < 0)), v]) := by simp
  have k1 : (h ++ [IObj.arr 36 [B (decide (a < 0)), v]] ++ [IObj.arr 36 [(.bool false), (.slice none 0 0)]])[h.length + 1]? = some (.arr 36 [(.bool false), (.slice none 0 0)]) := by simp
  have x1 : EX h (h ++ [IObj.arr 36 [B (decide (a < 0)), v]] ++ [IObj.arr 36 [(.bool false), (.slice none 0 0)]]) := (EX.append _ _).push _
  generalize h ++ [IObj.arr 36 [B (decide (a < 0)), v]] ++ [IObj.arr 36 [(.bool false), (.slice none 0 0)]] = h1 at k0 k1 x1 ⊢
  simp only [fadr_pt, Nat.add_zero, OP_some]
  rw [store_at k0 (by simp) rfl rfl]
  simp only [OH_some, List.set_cons_zero]
  have k1' : (h1.set h.length (.arr 36 [B false, v]))[h.length + 1]? = some (.arr 36 [(.bool false), (.slice none 0 0)]) := by rw [List.getElem?_set_ne (by omega)]; exact k1
  rw [load2 (set_get k0)]
  simp only [OP_some]
  exact fin2z k1' (hk _ _ ((x1.set (Nat.le_refl _) _).set (by omega) _) (((hv.mono x1).setB k0 _).setB k1' _))

theorem C91 {va vb : Value} {a b : Int} {h : Heap} {K : Value → Heap → Prop} (ha : ZV h va a) (hb : ZV h vb b) (la : a.natAbs < 10000 ^ 199) (lb : b.natAbs < 10000 ^ 199)
    (hk : ∀ u h', EX h h' → MagZ h' u (Nat.gcd a.natAbs b.natAbs) → K (.agg #[B false, u]) h') : CallP Tryz.prog 91 [va, vb] h K := by
  have ha0 := ha
  have hb0 := hb
  obtain ⟨v, rfl, hv⟩ := ha
  obtain ⟨w, rfl, hw⟩ := hb
  refine f91 ?_
  have e1 : ∀ (g : Heap) (s : Bool) (v : Value), iBox 36 g (.agg #[B s, v]) = some (pt g.length 0, g ++ [.arr 36 [B s, v]]) := fun _ _ _ => rfl
  have e2 : ∀ g' : Heap, iAlloc 36 [(.bool false), (.slice none 0 0)] g' = some (pt g'.length 0, g' ++ [.arr 36 [(.bool false), (.slice none 0 0)]]) := fun _ => rfl
  simp only [T91, e1, e2, OH_some, List.length_append, List.length_cons, List.length_nil, Nat.zero_add]
  have k0 : (h ++ [IObj.arr 36 [B (decide (a < 0)), v]] ++ [IObj.arr 36 [B (decide (b < 0)), w]] ++ [IObj.arr 36 [(.bool false), (.slice none 0 0)]])[h.length]? = some (.arr 36 [B (decide (a < 0)), v]) := by simp
  have k1 : (h ++ [IObj.arr 36 [B (decide (a < 0)), v]] ++ [IObj.arr 36 [B (decide (b < 0)), w]] ++ [IObj.arr 36 [(.bool false), (.slice none 0 0)]])[h.length + 1]? = some (.arr 36 [B (decide (b < 0)), w]) := by simp
  have k2 : (h ++ [IObj.arr 36 [B (decide (a < 0)), v]] ++ [IObj.arr 36 [B (decide (b < 0)), w]] ++ [IObj.arr 36 [(.bool false), (.slice none 0 0)]])[h.length + 2]? = some (.arr 36 [(.bool false), (.slice none 0 0)]) := by simp
  have x1 : EX h (h ++ [IObj.arr 36 [B (decide (a < 0)), v]] ++ [IObj.arr 36 [B (decide (b < 0)), w]] ++ [IObj.arr 36 [(.bool false), (.slice none 0 0)]]) := ((EX.append _ _).push _).push _
  generalize h ++ [IObj.arr 36 [B (decide (a < 0)), v]] ++ [IObj.arr 36 [B (decide (b < 0)), w]] ++ [IObj.arr 36 [(.bool false), (.slice none 0 0)]] = h1 at k0 k1 k2 x1 ⊢
  rw [load2 k0]
  simp only [OP_some, true_and]
  refine C101 (ha0.mono x1) ?_
  intro u2 h2 x2 m2
  simp only [load2 k1, EX.load x2 (load2 k1), OP_some, true_and]
  refine C101 (hb0.mono (x1.trans x2)) ?_
  intro u3 h3 x3 m3
  have k0' := (x2.trans x3).get k0
  have k1' := (x2.trans x3).get k1
  have k2' := (x2.trans x3).get k2
  have x13 := (x1.trans x2).trans x3
  have m2 := m2.mono x3
  rw [store2 k0']
  simp only [OH_some]
  have q1 : (h3.set h.length (.arr 36 [B false, u2]))[h.length + 1]? = some (.arr 36 [B (decide (b < 0)), w]) := by rw [List.getElem?_set_ne (by omega)]; exact k1'
  rw [store2 q1]
  simp only [OH_some]
  refine loopL (σ := Nat × Nat × Value × Value × Heap) (fun _ => []) (fun p => p.2.2.2.2)
    (fun p => EX h p.2.2.2.2 ∧ p.2.2.2.2[h.length]? = some (.arr 36 [B false, p.2.2.1]) ∧ p.2.2.2.2[h.length + 1]? = some (.arr 36 [B false, p.2.2.2.1]) ∧ p.2.2.2.2[h.length + 2]? = some (.arr 36 [.bool false, .slice none 0 0]) ∧ MagZ p.2.2.2.2 p.2.2.1 p.1 ∧ MagZ p.2.2.2.2 p.2.2.2.1 p.2.1 ∧ p.1 < 10000 ^ 199 ∧ p.2.1 < 10000 ^ 199 ∧ Nat.gcd p.1 p.2.1 = Nat.gcd a.natAbs b.natAbs) (fun p => p.2.1)
    (a.natAbs, b.natAbs, u2, u3, (h3.set h.length (.arr 36 [B false, u2])).set (h.length + 1) (.arr 36 [B false, u3])) rfl rfl
    ⟨(x13.set (Nat.le_refl _) _).set (by omega) _, by rw [List.getElem?_set_ne (by omega)]; exact set_get k0', set_get q1, by rw [List.getElem?_set_ne (by omega), List.getElem?_set_ne (by omega)]; exact k2', (m2.setB k0' _).setB q1 _, (m3.setB k0' _).setB q1 _, la, lb, rfl⟩ ?_
  rintro ⟨x, y, ux, uy, g⟩ ⟨xg, j0, j1, j2, mx, my, lx, ly, hg⟩ L hL
  simp only at xg j0 j1 j2 mx my lx ly hg hL ⊢
  rw [q91z5]
  obtain ⟨l, p1, p2⟩ := my.len0
  have ld : iLoad false 1 g (pt (h.length + 1) 1) = some uy := by simp [iLoad, objCells, j1, iPart]
  simp only [fadr_pt, Nat.zero_add, ld, OP_some, p1, bin_gtr, IfP_dec]
  refine ⟨fun hgt => ?_, fun hle => ?_⟩
  · have hy : 0 < y := p2.1 (by omega)
    rw [load2 j0, OP_some, load2 j1, OP_some]
    refine C106 mx.toZ my.toZ (by omega) (by simpa using lx) (by simpa using ly) ?_
    intro r s g1 y1 zr zs
    obtain ⟨u5, rfl, hu5⟩ := id zr
    obtain ⟨u6, hs6, hu6⟩ := id zs
    have hpos : decide ((x : Int) % (y : Int) < 0) = false := decide_eq_false (by have := Int.emod_nonneg (x : Int) (show (y : Int) ≠ 0 by omega); omega)
    rw [hpos] at hs6
    subst hs6
    have hmv : ((x : Int) % (y : Int)).natAbs = x % y := by
      rw [← Int.natCast_emod, Int.natAbs_natCast]
    rw [hmv] at hu6
    have gl : h.length + 2 < g1.length := by
      have := (List.getElem?_eq_some_iff.1 j2).1
      have := y1.1
      omega
    simp only [ext_tuple, pair0, pair1, OP_some, e2, OH_some, List.length_append, List.length_cons, List.length_nil, Nat.zero_add]
    have n0 : (g1 ++ [IObj.arr 36 [(.bool false), (.slice none 0 0)]] ++ [IObj.arr 36 [(.bool false), (.slice none 0 0)]])[g1.length]? = some (.arr 36 [(.bool false), (.slice none 0 0)]) := by simp
    have n1 : (g1 ++ [IObj.arr 36 [(.bool false), (.slice none 0 0)]] ++ [IObj.arr 36 [(.bool false), (.slice none 0 0)]])[g1.length + 1]? = some (.arr 36 [(.bool false), (.slice none 0 0)]) := by simp
    have y2 : EX g1 (g1 ++ [IObj.arr 36 [(.bool false), (.slice none 0 0)]] ++ [IObj.arr 36 [(.bool false), (.slice none 0 0)]]) := (EX.append _ _).push _
    generalize g1 ++ [IObj.arr 36 [(.bool false), (.slice none 0 0)]] ++ [IObj.arr 36 [(.bool false), (.slice none 0 0)]] = g2 at n0 n1 y2 ⊢
    rw [store2 n0]
    simp only [OH_some]
    have n1' : (g2.set g1.length (.arr 36 [B (decide ((x : Int) / (y : Int) < 0)), u5]))[g1.length + 1]? = some (.arr 36 [(.bool false), (.slice none 0 0)]) := by rw [List.getElem?_set_ne (by omega)]; exact n1
    rw [store2 n1']
    simp only [OH_some]
    have y3 : EX g1 ((g2.set g1.length (.arr 36 [B (decide ((x : Int) / (y : Int) < 0)), u5])).set (g1.length + 1) (.arr 36 [B false, u6])) := (y2.set (Nat.le_refl _) _).set (by omega) _
    have n6 := set_get (o := .arr 36 [B false, u6]) n1'
    generalize (g2.set g1.length (.arr 36 [B (decide ((x : Int) / (y : Int) < 0)), u5])).set (g1.length + 1) (.arr 36 [B false, u6]) = g3 at y3 n6 ⊢
    have i0 := (y1.trans y3).get j0
    have i1 := (y1.trans y3).get j1
    have i2 := (y1.trans y3).get j2
    rw [load2 i1]
    simp only [OP_some, true_and, load2 n6]
    rw [store2 i0]
    simp only [OH_some, and_true]
    have s6 : (g3.set h.length (.arr 36 [B false, uy]))[g1.length + 1]? = some (.arr 36 [B false, u6]) := by rw [List.getElem?_set_ne (by omega)]; exact n6
    have s1 : (g3.set h.length (.arr 36 [B false, uy]))[h.length + 1]? = some (.arr 36 [B false, uy]) := by rw [List.getElem?_set_ne (by omega)]; exact i1
    refine ⟨load2 s6, ?_⟩
    rw [store2 s1]
    simp only [OH_some, true_and]
    have hlt : x % y < y := Nat.mod_lt _ hy
    refine hL (y, x % y, uy, u6, (g3.set h.length (.arr 36 [B false, uy])).set (h.length + 1) (.arr 36 [B false, u6])) ⟨(((xg.trans y1).trans y3).set (Nat.le_refl _) _).set (by omega) _, ?_, set_get s1, ?_, (((my.mono y1).mono y3).setB i0 _).setB s1 _, (((hu6.mono y3)).setB i0 _).setB s1 _, ly, by show x % y < _; omega, ?_⟩ hlt
    · show ((g3.set h.length _).set (h.length + 1) _)[h.length]? = _
      rw [List.getElem?_set_ne (by omega)]; exact set_get i0
    · show ((g3.set h.length _).set (h.length + 1) _)[h.length + 2]? = _
      rw [List.getElem?_set_ne (by omega), List.getElem?_set_ne (by omega)]; exact i2
    · show Nat.gcd y (x % y) = _
      rw [← hg, Nat.gcd_comm x y, Nat.gcd_rec y x, Nat.gcd_comm]
  · have hy : y = 0 := by
      apply Classical.byContradiction
      intro hc
      have := p2.2 (by omega)
      omega
    subst hy
    rw [q91z10, load2 j0]
    simp only [OP_some]
    rw [Nat.gcd_zero_right] at hg
    subst hg
    exact fin2z j2 (hk _ _ (xg.set (by omega) _) (mx.setB j2 _))

theorem C73 {va : Value} {a b : Int} {h : Heap} {K : Value → Heap → Prop} (ha : QZ h va a b) (hb : 0 < b) (la : a.natAbs < 10000 ^ 199) (lb : b.natAbs < 10000 ^ 199)
    (hk : ∀ r h', EX h h' → QZ h' r (a / (Nat.gcd a.natAbs b.natAbs : Int)) (b / (Nat.gcd a.natAbs b.natAbs : Int)) → K r h') : CallP Tryz.prog 73 [va] h K := by
  obtain ⟨u, w, rfl, hu, hw⟩ := ha
  refine f73 ?_
  have e1 : iBox 38 h (.agg #[B (decide (a < 0)), u, B (decide (b < 0)), w]) = some (pt h.length 0, h ++ [.arr 38 [B (decide (a < 0)), u, B (decide (b < 0)), w]]) := rfl
  have e2 : ∀ g' : Heap, iAlloc 36 [(.bool false), (.slice none 0 0)] g' = some (pt g'.length 0, g' ++ [.arr 36 [(.bool false), (.slice none 0 0)]]) := fun _ => rfl
  have e4 : ∀ g' : Heap, iAlloc 38 [(.bool false), (.slice none 0 0), (.bool false), (.slice none 0 0)] g' = some (pt g'.length 0, g' ++ [.arr 38 z4]) := fun _ => rfl
  simp only [T73, e1, e4, OH_some, List.length_append, List.length_cons, List.length_nil, Nat.zero_add]
  have k0 : (h ++ [IObj.arr 38 [B (decide (a < 0)), u, B (decide (b < 0)), w]] ++ [IObj.arr 38 z4])[h.length]? = some (.arr 38 [B (decide (a < 0)), u, B (decide (b < 0)), w]) := by simp
  have k1 : (h ++ [IObj.arr 38 [B (decide (a < 0)), u, B (decide (b < 0)), w]] ++ [IObj.arr 38 z4])[h.length + 1]? = some (.arr 38 z4) := by simp
  have x1 : EX h (h ++ [IObj.arr 38 [B (decide (a < 0)), u, B (decide (b < 0)), w]] ++ [IObj.arr 38 z4]) := (EX.append _ _).push _
  generalize h ++ [IObj.arr 38 [B (decide (a < 0)), u, B (decide (b < 0)), w]] ++ [IObj.arr 38 z4] = h1 at k0 k1 x1 ⊢
  have za : ZV h1 (.agg #[B (decide (a < 0)), u]) a := ⟨u, rfl, hu.mono x1⟩
  have zb : ZV h1 (.agg #[B (decide (b < 0)), w]) b := ⟨w, rfl, hw.mono x1⟩
  simp only [fadr_pt, Nat.add_zero, Nat.zero_add, load4a k0, load4b k0, OP_some]
  refine C91 za zb la lb ?_
  intro ug h2 x2 mg
  have hgpos : 0 < Nat.gcd a.natAbs b.natAbs := Nat.gcd_pos_of_pos_right _ (by omega)
  have hgle : Nat.gcd a.natAbs b.natAbs ≤ b.natAbs := Nat.le_of_dvd (by omega) (Nat.gcd_dvd_right _ _)
  generalize Nat.gcd a.natAbs b.natAbs = g at mg hgpos hgle hk
  have zg := mg.toZ
  simp only [e2, OH_some]
  rw [store2 get_last]
  simp only [OH_some]
  have x3 : EX h2 ((h2 ++ [IObj.arr 36 [(.bool false), (.slice none 0 0)]]).set h2.length (.arr 36 [B false, ug])) := EX.set (EX.append _ _) (Nat.le_refl _) _
  have k3 : ((h2 ++ [IObj.arr 36 [(.bool false), (.slice none 0 0)]]).set h2.length (.arr 36 [B false, ug]))[h2.length]? = some (.arr 36 [B false, ug]) := set_get get_last
  generalize (h2 ++ [IObj.arr 36 [(.bool false), (.slice none 0 0)]]).set h2.length (.arr 36 [B false, ug]) = h3 at x3 k3 ⊢
  have x13 := x2.trans x3
  simp only [EX.load x13 (load4a k0), load2 k3, OP_some]
  have lg : ((g : Nat) : Int).natAbs < 10000 ^ 199 := by rw [Int.natAbs_natCast]; omega
  refine C106 (za.mono x13) (zg.mono x3) (by omega) la lg ?_
  intro r s h4 x4 zr zs
  obtain ⟨ur, rfl, hur⟩ := id zr
  obtain ⟨us, rfl, hus⟩ := id zs
  simp only [ext_tuple, pair0, pair1, OP_some, e2, OH_some, List.length_append, List.length_cons, List.length_nil, Nat.zero_add]
  have n0 : (h4 ++ [IObj.arr 36 [(.bool false), (.slice none 0 0)]] ++ [IObj.arr 36 [(.bool false), (.slice none 0 0)]])[h4.length]? = some (.arr 36 [(.bool false), (.slice none 0 0)]) := by simp
  have n1 : (h4 ++ [IObj.arr 36 [(.bool false), (.slice none 0 0)]] ++ [IObj.arr 36 [(.bool false), (.slice none 0 0)]])[h4.length + 1]? = some (.arr 36 [(.bool false), (.slice none 0 0)]) := by simp
  have y2 : EX h4 (h4 ++ [IObj.arr 36 [(.bool false), (.slice none 0 0)]] ++ [IObj.arr 36 [(.bool false), (.slice none 0 0)]]) := (EX.append _ _).push _
  generalize h4 ++ [IObj.arr 36 [(.bool false), (.slice none 0 0)]] ++ [IObj.arr 36 [(.bool false), (.slice none 0 0)]] = h5 at n0 n1 y2 ⊢
  rw [store2 n0]
  simp only [OH_some]
  have n1' : (h5.set h4.length (.arr 36 [B (decide (a / (g : Int) < 0)), ur]))[h4.length + 1]? = some (.arr 36 [(.bool false), (.slice none 0 0)]) := by rw [List.getElem?_set_ne (by omega)]; exact n1
  rw [store2 n1']
  simp only [OH_some]
  have y3 : EX h4 ((h5.set h4.length (.arr 36 [B (decide (a / (g : Int) < 0)), ur])).set (h4.length + 1) (.arr 36 [B (decide (a % (g : Int) < 0)), us])) := (y2.set (Nat.le_refl _) _).set (by omega) _
  have n0' : ((h5.set h4.length (.arr 36 [B (decide (a / (g : Int) < 0)), ur])).set (h4.length + 1) (.arr 36 [B (decide (a % (g : Int) < 0)), us]))[h4.length]? = some (.arr 36 [B (decide (a / (g : Int) < 0)), ur]) := by rw [List.getElem?_set_ne (by omega)]; exact set_get n0
  generalize (h5.set h4.length (.arr 36 [B (decide (a / (g : Int) < 0)), ur])).set (h4.length + 1) (.arr 36 [B (decide (a % (g : Int) < 0)), us]) = h6 at y3 n0' ⊢
  have x16 := (x13.trans x4).trans y3
  have x36 := x4.trans y3
  simp only [EX.load x16 (load4b k0), EX.load x36 (load2 k3), OP_some]
  refine C106 (zb.mono x16) (zg.mono (x3.trans x36)) (by omega) lb lg ?_
  intro r' s' h7 x7 zr' zs'
  obtain ⟨ur', rfl, hur'⟩ := id zr'
  obtain ⟨us', rfl, hus'⟩ := id zs'
  simp only [ext_tuple, pair0, pair1, OP_some, e2, OH_some, List.length_append, List.length_cons, List.length_nil, Nat.zero_add]
  have m0 : (h7 ++ [IObj.arr 36 [(.bool false), (.slice none 0 0)]] ++ [IObj.arr 36 [(.bool false), (.slice none 0 0)]])[h7.length]? = some (.arr 36 [(.bool false), (.slice none 0 0)]) := by simp
  have m1 : (h7 ++ [IObj.arr 36 [(.bool false), (.slice none 0 0)]] ++ [IObj.arr 36 [(.bool false), (.slice none 0 0)]])[h7.length + 1]? = some (.arr 36 [(.bool false), (.slice none 0 0)]) := by simp
  have w2 : EX h7 (h7 ++ [IObj.arr 36 [(.bool false), (.slice none 0 0)]] ++ [IObj.arr 36 [(.bool false), (.slice none 0 0)]]) := (EX.append _ _).push _
  generalize h7 ++ [IObj.arr 36 [(.bool false), (.slice none 0 0)]] ++ [IObj.arr 36 [(.bool false), (.slice none 0 0)]] = h8 at m0 m1 w2 ⊢
  rw [store2 m0]
  simp only [OH_some]
  have m1' : (h8.set h7.length (.arr 36 [B (decide (b / (g : Int) < 0)), ur']))[h7.length + 1]? = some (.arr 36 [(.bool false), (.slice none 0 0)]) := by rw [List.getElem?_set_ne (by omega)]; exact m1
  rw [store2 m1']
  simp only [OH_some]
  have w3 : EX h7 ((h8.set h7.length (.arr 36 [B (decide (b / (g : Int) < 0)), ur'])).set (h7.length + 1) (.arr 36 [B (decide (b % (g : Int) < 0)), us'])) := (w2.set (Nat.le_refl _) _).set (by omega) _
  have m0' : ((h8.set h7.length (.arr 36 [B (decide (b / (g : Int) < 0)), ur'])).set (h7.length + 1) (.arr 36 [B (decide (b % (g : Int) < 0)), us']))[h7.length]? = some (.arr 36 [B (decide (b / (g : Int) < 0)), ur']) := by rw [List.getElem?_set_ne (by omega)]; exact set_get m0
  generalize (h8.set h7.length (.arr 36 [B (decide (b / (g : Int) < 0)), ur'])).set (h7.length + 1) (.arr 36 [B (decide (b % (g : Int) < 0)), us']) = h9 at w3 m0' ⊢
  have x69 := x7.trans w3
  rw [EX.load x69 (load2 n0'), OP_some, load2 m0', OP_some]
  exact endQ (zr.mono (y3.trans x69)) (zr'.mono w3) (x1.trans (x16.trans x69)) (by omega) ((x16.trans x69).get k1) hk

theorem decS_unique {s : List UInt8} {n : Nat} (hd : digs s) (hv : valB s = n) (hn : 0 < n) (hh : s.head? ≠ some 48) : s = decS n := by
  have e1 : ((s.reverse.map fun c : UInt8 => c.toNat - 48).map dch).reverse = s := by
    rw [List.map_map]
    have : s.reverse.map (dch ∘ fun c : UInt8 => c.toNat - 48) = s.reverse := by
      conv => rhs; rw [← List.map_id s.reverse]
      apply List.map_congr_left
      intro c hc
      have h1 := hd c (by simpa using hc)
      apply UInt8.toNat_inj.1
      simp only [Function.comp, id]
      rw [dch_toNat (by omega)]
      omega
    rw [this, List.reverse_reverse]
  have hlim : Lim 10 (s.reverse.map fun c : UInt8 => c.toNat - 48) := by
    intro x hx
    obtain ⟨c, hc, rfl⟩ := List.mem_map.1 hx
    have h1 := hd c (by simpa using hc)
    omega
  have hval : val 10 (s.reverse.map fun c : UInt8 => c.toNat - 48) = n := by
    rw [← valB_rev hlim, e1, hv]
  have hcan : Canon 10 (s.reverse.map fun c : UInt8 => c.toNat - 48) := by
    refine ⟨hlim, ?_⟩
    rw [List.getLast?_map, List.getLast?_reverse]
    intro hc
    cases hs : s.head? with
    | none => rw [hs] at hc; cases hc
    | some c =>
      rw [hs] at hc
      have hc' : c.toNat - 48 = 0 := by simpa using hc
      have hmem : c ∈ s := List.mem_of_mem_head? hs
      have h1 := hd c hmem
      apply hh
      rw [hs]
      congr 1
      apply UInt8.toNat_inj.1
      show c.toNat = 48
      omega
  obtain ⟨d1, d2⟩ := dig10_canon n
  have := Canon.unique (by decide) hcan d1 (by rw [hval, d2])
  unfold decS
  rw [if_neg (by omega), ← this, e1]

end Go.Proofs.YthplaillblmgfaaGreatDoor


namespace Go.Proofs.YthplaillblmgfaaGreatDoor
open Go.Sim

/-- Four digits. -/
def four (d : Nat) : List UInt8 := [dch (d / 1000), dch (d / 100 % 10), dch (d / 10 % 10), dch (d % 10)]

theorem four_digs {d : Nat} (hd : d < 10000) : digs (four d) ∧ valB (four d) = d := by
  have h1 := dch_toNat (d := d / 1000) (by omega)
  have h2 := dch_toNat (d := d / 100 % 10) (by omega)
  have h3 := dch_toNat (d := d / 10 % 10) (by omega)
  have h4 := dch_toNat (d := d % 10) (by omega)
  constructor
  · intro c hc
    simp only [four, List.mem_cons, List.not_mem_nil, or_false] at hc
    rcases hc with rfl | rfl | rfl | rfl <;> omega
  · simp only [four, valB_cons, h1, h2, h3, h4, List.length_cons, List.length_nil]
    simp only [valB, List.foldl_nil]
    omega

theorem C100 {va : Value} {n : Nat} {h : Heap} {K : Value → Heap → Prop} (ha : ZV h va n) (hn : n < bigW) (hk : ∀ h', EX h h' → K (S (decS n)) h') : CallP Tryz.prog 100 [va] h K := by
  obtain ⟨v, rfl, hv⟩ := ha
  rw [Int.natAbs_natCast] at hv
  refine f100 ?_
  have e1 : iBox 36 h (.agg #[B (decide ((n : Int) < 0)), v]) = some (pt h.length 0, h ++ [.arr 36 [B (decide ((n : Int) < 0)), v]]) := rfl
  simp only [T100, e1, OH_some]
  have x1 : EX h (h ++ [IObj.arr 36 [B (decide ((n : Int) < 0)), v]]) := EX.append _ _
  have ld : iLoad false 1 (h ++ [IObj.arr 36 [B (decide ((n : Int) < 0)), v]]) (pt h.length 1) = some v := load_last rfl
  generalize h ++ [IObj.arr 36 [B (decide ((n : Int) < 0)), v]] = h1 at x1 ld ⊢
  obtain ⟨xs, dx, cx, vx⟩ := hv.mono x1
  have lx := canZ_len cx (by rw [vx]; exact hn)
  simp only [fadr_pt, Nat.zero_add, ld, OP_some, dx.len, bin_eql, IfP_dec]
  refine ⟨fun h0 => ?_, fun hne => ?_⟩
  · have : xs = [] := List.length_eq_zero_iff.1 (by omega)
    subst this
    have hn0 : n = 0 := vx.symm
    subst hn0
    exact hk _ x1
  · have hx0 : 0 < xs.length := by omega
    have hnpos : 0 < n := by
      apply Classical.byContradiction
      intro hc
      have := Canon.zero (by decide) cx (by omega)
      rw [this] at hx0
      simp at hx0
    have e2 : IntKind.wrap .i64 ((xs.length : Int) - 1) = (xs.length : Int) - 1 := wrap64 (by omega) (by omega)
    simp only [bin_sub, e2, OP_some]
    refine loopL (σ := Nat × List UInt8 × Heap) (fun p => [S p.2.1, I ((p.1 : Int) - 1)]) (fun p => p.2.2)
      (fun p => p.1 ≤ xs.length ∧ EX h1 p.2.2 ∧ digs p.2.1 ∧ valB p.2.1 = val 10000 (xs.drop p.1) ∧ p.2.1.length = 4 * (xs.length - p.1)) (fun p => p.1)
      (xs.length, [], h1) rfl rfl ⟨Nat.le_refl _, EX.refl _, fun c hc => by simp at hc, by simp [valB, val], by simp⟩ ?_
    rintro ⟨i, s, g⟩ ⟨hi, xg, hd, hvs, hsl⟩ L hL
    simp only at hi xg hd hvs hsl hL ⊢
    rw [q100z9]
    simp only [bin_geq, OP_some, IfP_dec]
    refine ⟨fun hge => ?_, fun hlt => ?_⟩
    · obtain ⟨j, rfl⟩ : ∃ j, i = j + 1 := ⟨i - 1, by omega⟩
      have ej : ((j + 1 : Nat) : Int) - 1 = (j : Int) := by omega
      have hjx : j < xs.length := by omega
      obtain ⟨ia, a1, a2⟩ := (dx.mono xg).get hjx
      have hd4 : xs[j] < 10000 := cx.1 _ (List.getElem_mem hjx)
      have hvd := val_drop 10000 xs hjx
      rw [ej]
      generalize hdd : xs[j] = d at a2 hd4 hvd
      simp only [fadr_pt, Nat.zero_add, EX.load xg ld, OP_some, a1, a2]
      rw [show (.int .i64 1000 : Value) = .int .i64 ((1000 : Nat) : Int) from rfl, show (.int .i64 100 : Value) = .int .i64 ((100 : Nat) : Int) from rfl, show (.int .i64 10 : Value) = .int .i64 ((10 : Nat) : Int) from rfl]
      rw [quoI (by decide) (by omega), quoI (b := 100) (by decide) (by omega), quoI (b := 10) (by decide) (by omega)]
      simp only [OP_some]
      rw [rem_nat _ _ _ (by decide), rem_nat _ _ _ (by decide), rem_nat _ _ _ (by decide)]
      have w : ∀ q : Nat, q < 10 → IntKind.wrap .i64 (48 + (q : Int)) = ((48 + q : Nat) : Int) := fun q hq => by rw [wrap64 (by omega) (by omega)]; omega
      have w8 : ∀ q : Nat, q < 10 → IntKind.wrap .u8 ((48 + q : Nat) : Int) = ((48 + q : Nat) : Int) := fun q hq => wrapU8 (by omega) (by omega)
      simp only [OP_some, bin_add, conv_int, w _ (show d / 1000 < 10 by omega), w8 _ (show d / 1000 < 10 by omega), w _ (show d / 100 % 10 < 10 by omega), w8 _ (show d / 100 % 10 < 10 by omega), w _ (show d / 10 % 10 < 10 by omega), w8 _ (show d / 10 % 10 < 10 by omega), w _ (show d % 10 < 10 by omega), w8 _ (show d % 10 < 10 by omega)]
      rw [cvd (show d / 1000 < 10 by omega), cvd (show d / 100 % 10 < 10 by omega), cvd (show d / 10 % 10 < 10 by omega), cvd (show d % 10 < 10 by omega)]
      have mk : iMkSl 5 4 [.int .u8 0] g [(0, 1, cv (dch (d / 1000))), (1, 1, cv (dch (d / 100 % 10))), (2, 1, cv (dch (d / 10 % 10))), (3, 1, cv (dch (d % 10)))] = some (sl 5 g.length 0 4, g ++ [.arr 5 ((four d).map cv)]) := rfl
      have yg : EX g (g ++ [IObj.arr 5 ((four d).map cv)]) := EX.append _ _
      have bs : iB2s (g ++ [IObj.arr 5 ((four d).map cv)]) (sl 5 g.length 0 4) = some (S (four d)) := b2s (b := g.length) (e := 5) (.inr ⟨g.length, Nat.le_refl _, rfl, get_last⟩)
      obtain ⟨f1, f2⟩ := four_digs hd4
      have f3 : (four d).length = 4 := rfl
      simp only [mk, OH_some, bs, OP_some]
      rw [bin_addS s (four d) (by rw [f3]; unfold maxLen; omega)]
      have ej2 : IntKind.wrap .i64 ((j : Int) - 1) = (j : Int) - 1 := wrap64 (by omega) (by omega)
      simp only [OP_some, bin_sub, ej2, true_and]
      refine hL (j, s ++ four d, g ++ [IObj.arr 5 ((four d).map cv)]) ⟨by show j ≤ xs.length; omega, xg.trans yg, fun c hc => (List.mem_append.1 hc).elim (hd c) (f1 c), ?_, by show (s ++ four d).length = _; rw [List.length_append, f3]; omega⟩ (by show j < j + 1; omega)
      show valB (s ++ four d) = val 10000 (xs.drop j)
      rw [valB_append, f2, f3, hvd, hvs]
      omega
    · have hi0 : i = 0 := by omega
      subst hi0
      simp only [List.drop_zero, vx] at hvs
      rw [q100z16]
      refine loopL (σ := List UInt8) (fun s => [S s]) (fun _ => g) (fun s => digs s ∧ valB s = n ∧ s.length ≤ 1000) (fun s => s.length) s rfl rfl ⟨hd, hvs, by omega⟩ ?_
      rintro t ⟨td, tv, tl⟩ L2 hL2
      rw [q100z19]
      cases t with
      | nil => simp [valB] at tv; omega
      | cons c t =>
        have ix := idxS_S (a := c :: t) (i := 0) (by simp) .i64
        have ix' : iIdxS (S (c :: t)) (.int .i64 0) = some (cv c) := ix
        have eq : iBin .eql (cv c) (.int .u8 48) = some (B (decide ((c.toNat : Int) = 48))) := rfl
        simp only [ix', OP_some, eq, IfP_dec]
        refine ⟨fun h48 => ?_, fun h48 => ?_⟩
        · have sl1 := slS_lo (a := c :: t) (n := 1) (by simp) .i64
          have sl2 : iSlS (S (c :: t)) (some (.int .i64 1)) none = some (S t) := sl1
          simp only [sl2, OP_some, true_and]
          refine hL2 t ⟨fun x hx => td x (by simp [hx]), ?_, by simp at tl; omega⟩ (by simp)
          rw [valB_cons] at tv
          have : c.toNat - 48 = 0 := by omega
          rw [this] at tv
          omega
        · rw [q100z23]
          have := decS_unique td tv hnpos (by
            simp only [List.head?_cons, ne_eq, Option.some.injEq]
            rintro rfl
            exact h48 rfl)
          rw [this]
          exact hk _ (x1.trans xg)

theorem C64 {va : Value} {a : Int} {h : Heap} {K : Value → Heap → Prop} (ha : QZ h va a 1) (la : a.natAbs < 10000 ^ 199) (hk : ∀ h', EX h h' → K (.tuple #[S (numS a), B true]) h') : CallP Tryz.prog 64 [va] h K := by
  have ha0 := ha
  obtain ⟨u, w, rfl, hu, hw⟩ := ha
  refine f64 ?_
  have e1 : iBox 38 h (.agg #[B (decide (a < 0)), u, B (decide ((1 : Int) < 0)), w]) = some (pt h.length 0, h ++ [.arr 38 [B (decide (a < 0)), u, B (decide ((1 : Int) < 0)), w]]) := rfl
  simp only [T64, e1, OH_some]
  have x1 : EX h (h ++ [IObj.arr 38 [B (decide (a < 0)), u, B (decide ((1 : Int) < 0)), w]]) := EX.append _ _
  have k1 : (h ++ [IObj.arr 38 [B (decide (a < 0)), u, B (decide ((1 : Int) < 0)), w]])[h.length]? = some (.arr 38 [B (decide (a < 0)), u, B (decide ((1 : Int) < 0)), w]) := get_last
  generalize h ++ [IObj.arr 38 [B (decide (a < 0)), u, B (decide ((1 : Int) < 0)), w]] = h1 at x1 k1 ⊢
  rw [load4 k1]
  simp only [OP_some]
  refine C73 (ha0.mono x1) (by decide) la (by decide +kernel) ?_
  intro r h2 x2 q2
  have e2 : Nat.gcd a.natAbs (1 : Int).natAbs = 1 := Nat.gcd_one_right _
  rw [e2] at q2
  have e3 : a / ((1 : Nat) : Int) = a := Int.ediv_one a
  have e4 : (1 : Int) / ((1 : Nat) : Int) = 1 := rfl
  rw [e3, e4] at q2
  have q2' := q2
  obtain ⟨u', w', rfl, hu', hw'⟩ := q2
  have k2 := x2.get k1
  rw [store4 k2]
  simp only [OH_some]
  have x3 : EX h (h2.set h.length (.arr 38 [B (decide (a < 0)), u', B (decide ((1 : Int) < 0)), w'])) := (x1.trans x2).set (Nat.le_refl _) _
  have k3 := set_get (o := .arr 38 [B (decide (a < 0)), u', B (decide ((1 : Int) < 0)), w']) k2
  have hu3 := hu'.setB k2 (.arr 38 [B (decide (a < 0)), u', B (decide ((1 : Int) < 0)), w'])
  have hw3 := hw'.setB k2 (.arr 38 [B (decide (a < 0)), u', B (decide ((1 : Int) < 0)), w'])
  generalize h2.set h.length (.arr 38 [B (decide (a < 0)), u', B (decide ((1 : Int) < 0)), w']) = h3 at x3 k3 hu3 hw3 ⊢
  have hb := big201 (n := a.natAbs) (by
    have : (10000 : Nat) ^ 199 < 10000 ^ 201 := by decide +kernel
    omega)
  simp only [fadr_pt, Nat.add_zero, Nat.zero_add, load4a k3, OP_some, true_and]
  refine C101 (⟨u', rfl, hu3⟩ : ZV h3 _ a) ?_
  intro ua h4 x4 m4
  refine C100 m4.toZ hb ?_
  intro h5 x5
  have ld0 : ∀ {g}, EX h3 g → iLoad false 1 g (pt h.length 0) = some (B (decide (a < 0))) := fun y => EX.load y (by simp [iLoad, objCells, k3, iPart])
  simp only [load4b k3, EX.load x4 (load4b k3), EX.load (x4.trans x5) (load4b k3), OP_some, true_and]
  have hw5 : MagZ h5 w' 1 := (hw3.mono x4).mono x5
  refine C100 (n := 1) (⟨w', rfl, hw5⟩ : ZV h5 _ ((1 : Nat) : Int)) (lt_bigW (by decide +kernel)) ?_
  intro h6 x6
  obtain ⟨d1, d2, d3, d4, d5⟩ := decS_facts hb
  have one : decS 1 = [49] := by decide +kernel
  have xx := (x4.trans x5).trans x6
  simp only [lenS_S, OP_some, bin_gtr, decide_eq_false (show ¬ ((decS a.natAbs).length : Int) > 4000 by omega), q64z7, GdP_ff, one, List.length_singleton]
  rw [decide_eq_false (show ¬ (4000 : Int) < ((1 : Nat) : Int) by decide)]
  simp only [q64z9, iPick_f, OP_some, IfP_false, fadr_pt, Nat.add_zero, ld0 xx]
  have fin : p64z13 Tryz.prog K (S (numS a)) (S [49]) h6 := by
    rw [q64z13]
    have : iBin .neq (S [49]) (.string ⟨#[49]⟩) = some (B false) := by
      show iBin .neq (S [49]) (S [49]) = _
      rw [bin_neqS]; simp
    simp only [this, OP_some, IfP_false, q64z16]
    exact hk _ (x3.trans xx)
  by_cases hneg : a < 0
  · have hs : numS a = 45 :: decS a.natAbs := by unfold numS; rw [if_pos hneg]
    have ad : iBin .add (.string ⟨#[45]⟩) (S (decS a.natAbs)) = some (S (numS a)) := by
      rw [hs]
      exact bin_addS (a := [45]) (b := decS a.natAbs) (by simp [maxLen]; omega)
    rw [decide_eq_true hneg]
    simp only [IfP_true, ad, OP_some]
    exact fin
  · have hs : numS a = decS a.natAbs := by unfold numS; rw [if_neg hneg]
    rw [decide_eq_false hneg, ← hs]
    simp only [IfP_false]
    exact fin

theorem C21 {va : Value} {a : Int} {s : List UInt8} {h : Heap} {K : Value → Heap → Prop} (ha : QZ h va a 1) (la : a.natAbs < 10000 ^ 199) (hk : ∀ h', EX h h' → K (B (decide (s = numS a))) h') : CallP Tryz.prog 21 [S s, va] h K := by
  have ha0 := ha
  obtain ⟨u, w, rfl, hu, hw⟩ := ha
  refine f21 ?_
  have e1 : iBox 38 h (.agg #[B (decide (a < 0)), u, B (decide ((1 : Int) < 0)), w]) = some (pt h.length 0, h ++ [.arr 38 [B (decide (a < 0)), u, B (decide ((1 : Int) < 0)), w]]) := rfl
  simp only [T21, e1, OH_some]
  have x1 : EX h (h ++ [IObj.arr 38 [B (decide (a < 0)), u, B (decide ((1 : Int) < 0)), w]]) := EX.append _ _
  rw [load4 get_last]
  simp only [OP_some]
  refine C64 (ha0.mono x1) la ?_
  intro h2 x2
  simp only [ext_tuple, pair0, pair1, OP_some, q21z5, GdP_tt, bin_eqlS, q21z7, iPick_t]
  exact hk _ (x1.trans x2)

end Go.Proofs.YthplaillblmgfaaGreatDoor


namespace Go.Proofs.YthplaillblmgfaaGreatDoor
open Go.Sim

theorem RatV.mono {h h' : Heap} {v : Value} {a b : Int} (x : EX h h') (p : RatV h v a b) : RatV h' v a b := let ⟨u, w, e, m, n⟩ := p; ⟨u, w, e, m.mono x, n.mono x⟩
theorem RatV.setB {h : Heap} {v : Value} {a b : Int} {j : Nat} {e : TypeId} {s : Bool} {r : List Value} (p : RatV h v a b) (hj : h[j]? = some (.arr e (.bool s :: r))) (o : IObj) : RatV (h.set j o) v a b :=
  let ⟨u, w, e, m, n⟩ := p; ⟨u, w, e, m.setB hj o, n.setB hj o⟩

end Go.Proofs.YthplaillblmgfaaGreatDoor


namespace Go.Proofs.YthplaillblmgfaaGreatDoor
open Go.Sim
variable (P : Program) (K : VK)
/-! F74: pommel/pommelref01.Over -/
end Go.Proofs.YthplaillblmgfaaGreatDoor

namespace Go.Proofs.YthplaillblmgfaaGreatDoor
open Go.Sim

theorem Grd.uniq {W : List Tx} {s : Tx} (hn : ∀ w ∈ W, w ≠ []) {i : Nat} {ix : List Nat} (g : Grd W s i ix) : ∀ {iy : List Nat}, Grd W s i iy → ix = iy := by
  induction g with
  | nil =>
    intro iy g'
    obtain ⟨h1, h2⟩ := g'.read
    rw [List.drop_length] at h2
    have := flat_nil hn (wds_rows h1) h2
    exact (List.map_eq_nil_iff.1 this).symm
  | @cons i j ix hj hi hf hfst _ ih =>
    intro iy g'
    cases g' with
    | nil => omega
    | @cons _ k iy hk _ hf' hfst' g2 =>
      have : j = k := by
        rcases Nat.lt_trichotomy j k with h | h | h
        · rw [hfst' j hj h] at hf; cases hf
        · exact h
        · rw [hfst k hk h] at hf'; cases hf'
      subst this
      rw [ih g2]

theorem smallZ {n i : Nat} (hi : i ≤ 200) (h : n ≤ 12 ^ i) : n < 10000 ^ 199 := by
  have h1 : 12 ^ i ≤ 16 ^ 200 := Nat.le_trans (Nat.pow_le_pow_left (by omega) i) (Nat.pow_le_pow_right (by omega) hi)
  have h2 : (16 : Nat) ^ 200 = 256 ^ 100 := by rw [show (256 : Nat) = 16 ^ 2 by decide, ← Nat.pow_mul]
  have h3 : (256 : Nat) ^ 100 < 10000 ^ 100 := Nat.pow_lt_pow_left (by decide) (by decide)
  have h4 : (10000 : Nat) ^ 100 ≤ 10000 ^ 199 := Nat.pow_le_pow_right (by decide) (by decide)
  omega

theorem C20u {v : Value} {W : List Tx} {s : Tx} {h : Heap} {K : Value → Heap → Prop} (hl : s.length ≤ 200) (few : W.length ≤ 12) (hn : ∀ w ∈ W, w ≠ []) (hle : ∀ w ∈ W, w.length ≤ 10) (hv : SS h v W)
    (hk : ∀ (u : Value) (is : Bool) h', EX h h' → canB W s 0 = is → (is = false → u = .slice none 0 0) → (is = true → ∃ ix, Grd W s 0 ix ∧ OwnS 0 h' 3 u (ix.map fun n : Nat => I n)) → K (.tuple #[u, B is]) h') : CallP Tryz.prog 20 [v, S s] h K :=
  C20 hl few hn hle hv (fun hc h' x => hk _ _ h' x hc (fun _ => rfl) fun h => by cases h) fun hc ix u h' g x own => hk u true h' x hc (fun h => by cases h) fun _ => ⟨ix, g, OwnS.up (Nat.zero_le _) own⟩

theorem Grd.len {W : List Tx} {s : Tx} (hn : ∀ w ∈ W, w ≠ []) {ix : List Nat} (g : Grd W s 0 ix) : ix.length ≤ s.length := by
  have : ∀ l : List Nat, (∀ j ∈ l, j < W.length) → l.length ≤ (wds W l).flatten.length := by
    intro l hl
    induction l with
    | nil => simp
    | cons j l ih =>
      have hj := hl j List.mem_cons_self
      have := List.length_pos_iff.2 (hn _ (List.getElem_mem hj))
      have := ih fun a ha => hl a (List.mem_cons_of_mem _ ha)
      have e : wds W (j :: l) = W[j] :: wds W l := by simp only [wds, List.map_cons, getD_mem hj]
      rw [e, List.flatten_cons, List.length_append, List.length_cons]
      omega
  obtain ⟨h1, h2⟩ := g.read
  have := this ix h1
  rw [h2, List.drop_zero] at this
  exact this

section
variable {K : Value → Heap → Prop} (hk : ∀ h', K (B true) h')
include hk

theorem bad4 {l5 s6 r9 : Value} (c : Int) (hc : c ≠ 0) (hr : iLenSl r9 = some (I 0)) (g : Heap) : p4z8 Tryz.prog K l5 s6 (S []) (I c) r9 (I c) (I c) g := by
  have e1 : iBin .eql (S []) (.string ⟨#[]⟩) = some (B true) := rfl
  rw [q4z8]
  simp only [bin_neq, OP_some, decide_eq_false hc, Bool.not_false, IfP_true, e1, q4z13, GdP_tt, bin_eql, decide_true, q4z15, iPick_t, q4z17, hr, q4z19, q4z21, q4z23, q4z25]
  refine C15 ?_
  rw [q4z27]
  simp only [iPick_t, OP_some]
  exact hk _

theorem good4 {v r9 : Value} {W : List Tx} {s : Tx} {f : Int} {g : Heap} (ok : Ok W) (hl : s.length ≤ 200) (hv : SS g v W)
    (hc : canB W s 0 = false ∧ r9 = .slice none 0 0 ∧ f = 5 ∨ canB W s 0 = true ∧ f = 0 ∧ ∃ ix, Grd W s 0 ix ∧ OwnS 0 g 3 r9 (ix.map fun n : Nat => I n)) :
    p4z8 Tryz.prog K v (S s) (S (numS (rdN W s s.length : Nat))) (I 0) r9 (I f) (I 0) g := by
  have few := ok.few
  have pk : ∀ a b : Value, iPick (.bool true) a b = some a := fun _ _ => rfl
  have pf : ∀ a b : Value, iPick (.bool false) a b = some b := fun _ _ => rfl
  have e00 : iBin .eql (I 0) (.int .i64 (0)) = some (B true) := rfl
  rw [q4z8]
  refine OP_of (v := B false) rfl (IfP_false.2 ?_)
  refine C19 hl few ok.ne ok.le hv ?_
  intro x64 g1 x1 oz
  have ll := rdL_len W s s.length
  have le := rdL_le (W := W) few s s.length
  refine C20u hl few ok.ne ok.le (hv.mono x1) ?_
  intro u is g2 x2 his hu0 hu1
  have t0 : iExt 0 (.tuple #[u, B is]) = some u := rfl
  have t1 : iExt 1 (.tuple #[u, B is]) = some (B is) := rfl
  refine OP_of t0 (OP_of t1 (OP_of (lenS_S _) ?_))
  have hkk : s.length < (rdL W s s.length).length := by omega
  obtain ⟨p, o, r, c1, c2, c3⟩ := oz.get hkk
  have ge : (rdL W s s.length)[s.length] = rdN W s s.length := by simp [rdN, hkk]
  have l2 := le _ (List.getElem_mem hkk)
  rw [ge] at c3 l2
  have c4 := EX.load x2 c2
  refine OP_of c1 (OP_of c4 ⟨trivial, ?_⟩)
  refine C22 (z := 1) (by decide) ?_
  intro r3 g3 x3 z3
  refine ⟨⟨EX.load x3 c4, trivial⟩, ?_⟩
  obtain ⟨ua, rfl, hua⟩ := c3
  obtain ⟨wa, rfl, hwa⟩ := z3
  obtain ⟨xs, dx, cx⟩ := id hua
  obtain ⟨ys, dy, cy⟩ := id hwa
  refine OP_of (build4 dx dy) ?_
  have qz : QZ g3 (.agg #[B (decide (((rdN W s s.length : Nat) : Int) < 0)), ua, B (decide ((1 : Int) < 0)), wa]) (rdN W s s.length : Nat) 1 := ⟨ua, wa, rfl, hua.mono (x2.trans x3), hwa⟩
  refine C21 qz (by rw [Int.natAbs_natCast]; exact smallZ hl l2) ?_
  intro g4 x4
  rw [decide_eq_true rfl]
  refine ⟨trivial, GdP_tt.2 (OP_of e00 (OP_of (pk _ _) (GdP_tt.2 ?_)))⟩
  have x14 := x1.trans (x2.trans (x3.trans x4))
  cases is with
  | false =>
    have hu := hu0 rfl
    subst hu
    rcases hc with ⟨_, rfl, rfl⟩ | ⟨h1, _⟩
    · refine C23 (l := []) (NS.nil _ _) (NS.nil _ _) (by simp) ?_
      have e50 : iBin .eql (I 5) (.int .i64 (0)) = some (B false) := rfl
      have e55 : iBin .eql (I 5) (.int .i64 (5)) = some (B true) := rfl
      have bff : iEqb false (B false) (B false) = some (B true) := rfl
      refine ⟨trivial, OP_of (pk _ _) (GdP_tt.2 (OP_of e50 (OP_of bff (OP_of (pk _ _) (GdP_tt.2 ?_)))))⟩
      exact GdP_ff.2 (OP_of e55 (GdP_tt.2 (OP_of (pf _ _) (OP_of (pk _ _) (GdP_tt.2 (C15 ⟨trivial, OP_of (pk _ _) (hk _)⟩))))))
    · rw [h1] at his; cases his
  | true =>
    obtain ⟨ix, gr, own⟩ := hu1 rfl
    rcases hc with ⟨h1, _⟩ | ⟨_, rfl, iy, gr', own'⟩
    · rw [h1] at his; cases his
    · have e := gr.uniq ok.ne gr'
      subst e
      have il := gr.len ok.ne
      refine C23 (l := ix.map fun l : Nat => (l : Int)) ((own_ns own' (by omega)).mono x14) ((own_ns own (by omega)).mono (x3.trans x4)) (by rw [List.length_map]; omega) ?_
      have btt : iEqb false (B true) (B true) = some (B true) := rfl
      refine ⟨trivial, OP_of (pk _ _) (GdP_tt.2 (OP_of e00 (OP_of btt (OP_of (pk _ _) (GdP_tt.2 ?_)))))⟩
      exact GdP_tf.2 (GdP_tt.2 (OP_of (pk _ _) (OP_of (pk _ _) (GdP_tt.2 (C15 ⟨trivial, OP_of (pk _ _) (hk _)⟩)))))

end

theorem C4 {vx : Value} {xs : List Tx} {y : Tx} {h : Heap} {K : Value → Heap → Prop} (hv : SS h vx xs) (hk : ∀ h', K (B true) h') : CallP Tryz.prog 4 [vx, S y] h K := by
  refine f4 (C16 hv ?_)
  intro u h1 x1 own
  obtain ⟨l1, l2⟩ := cutW_len xs
  generalize cutW xs = W at own l1 l2
  have mm : iMinmax false [I y.length, (.int .i64 (201))] = some (I ((min y.length 201 : Nat) : Int)) := by
    rw [min2]; congr 2; omega
  have sl1 : (y.take (min y.length 201)).length ≤ 201 := by rw [List.length_take]; omega
  refine ⟨trivial, ?_⟩
  simp only [lenS_S, OP_some, mm, slS_hi (a := y) (n := min y.length 201) (Nat.min_le_left _ _) .i64]
  generalize y.take (min y.length 201) = s at sl1
  have tc := txt_chk (W := W) (s := s)
  have fin : ∀ (n7 r9 : Value) (e8 f : Int) (g3 : Heap), EX h1 g3 → (∀ g4, EX g3 g4 → p4z8 Tryz.prog K u (S s) n7 (I e8) r9 (I f) (I (chkE W s)) g4) →
      CallP Tryz.prog 18 [u, S s] g3 fun x36 h_4 => OP (iLenSl u) fun x38 => OP (iBin .gtr x38 (.int .i64 (12))) fun x39 => IfP x39 (p4z8 Tryz.prog K u (S s) n7 (I e8) r9 (I f) (.int .i64 (3)) h_4) (p4z8 Tryz.prog K u (S s) n7 (I e8) r9 (I f) x36 h_4) := by
    intro n7 r9 e8 f g3 x3 hp
    refine C18 ((own_ss own).mono x3) (by omega) l2 (by omega) ?_
    simp only [(own_ss own).len, OP_some, bin_gtr, IfP_dec]
    refine ⟨fun hgt => ?_, fun hle => ?_⟩
    · rw [if_pos (by omega)] at tc
      have := hp g3 (EX.refl _)
      rw [← tc] at this
      exact this
    · rw [if_neg (by omega)] at tc
      have := hp g3 (EX.refl _)
      rw [← tc] at this
      exact this
  refine C10 own (by omega) l2 (by omega) (fun hc h2 x2 => ?_) (fun hc h2 x2 => ?_)
  · simp only [ext_tuple, pair0, pair1, OP_some]
    refine C17 (own9 x2 own) (by omega) l2 (by omega) (fun _ h3 x3 => ?_) (fun hc' => absurd hc' hc) (fun hc' => absurd hc' hc)
    simp only [ext_tuple, pair0, pair1, OP_some]
    exact fin _ _ _ _ _ (x2.trans x3) fun g4 _ => bad4 hk _ hc rfl g4
  · have okl : s.length ≤ 200 ∧ Ok W := by
      unfold chkE at hc
      split at hc
      · cases hc
      · rename_i g1
        split at hc
        · cases hc
        · split at hc
          · rename_i g3
            exact ⟨by omega, ⟨g3.1, fun w hw => (g3.2 w hw).1, fun w hw => (g3.2 w hw).2.1, fun w hw => (g3.2 w hw).2.2, by omega⟩⟩
          · cases hc
    obtain ⟨hl, ok⟩ := okl
    simp only [ext_tuple, pair0, pair1, OP_some]
    refine C17 (own9 x2 own) (by omega) l2 (by omega) (fun hc' => absurd hc hc') (fun _ hno h3 x3 => ?_) (fun _ hyes ix r h3 gr x3 own3 => ?_)
    · simp only [ext_tuple, pair0, pair1, OP_some]
      refine fin _ _ _ _ _ (x2.trans x3) fun g4 x4 => ?_
      rw [hc]
      exact good4 hk ok hl ((own_ss own).mono (x2.trans (x3.trans x4))) (.inl ⟨hno, rfl, rfl⟩)
    · simp only [ext_tuple, pair0, pair1, OP_some]
      refine fin _ _ _ _ _ (x2.trans x3) fun g4 x4 => ?_
      rw [hc]
      exact good4 hk ok hl ((own_ss own).mono (x2.trans (x3.trans x4))) (.inr ⟨hyes, rfl, ix, gr, (OwnS.up (Nat.zero_le _) own3).keep fun d n hv _ => x4.2 d (own3.lt hv).2.1⟩)

end Go.Proofs.YthplaillblmgfaaGreatDoor

