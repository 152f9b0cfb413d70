/-
  Part 6 of the texts behind a statement of this seat: Ct46, Zq1, Ct41, Zq2, Zq3, ZR3, Zp2, Zp4, Zp5, ZMe10, Zs2, Sq27, Zs3, ZM3, Sim33, Zs4, Zp3, ZB, ZMe8, Sq21, ZMe9, ZMd, ZMe15, Sq22, Sq23, Sq28, Sq29.
-/
import Derived.Test.YtelmdbpaoifmoaaGreatProg
import Derived.KernelRfl
import Derived.Test.YtelmdbpaoifmoaaGreatSd5
namespace Go.Proofs.YtelmdbpaoifmoaaGreat
open Go.Sim

theorem C94 {va : Value} {a : Int} {h : Heap} {K : Value → Heap → Prop} (ha : ZV h va a) (hk : ∀ u h', EX h h' → MagZ h' u a.natAbs → K (.agg #[B false, u]) h') : CallP Tryz.prog 94 [va] h K := by
 obtain ⟨v, rfl, hv⟩ := ha
 refine f94 ?_
 have e1 : iBox 35 h (.agg #[B (decide (a < 0)), v]) = some (pt h.length 0, h ++ [.arr 35 [B (decide (a < 0)), v]]) := rfl
 have e2 : ∀ g' : Heap, iAlloc 35 [(.bool false), (.slice none 0 0)] g' = some (pt g'.length 0, g' ++ [.arr 35 [(.bool false), (.slice none 0 0)]]) := fun _ => rfl
 simp only [T94, e1, e2, OH_some, List.length_append, List.length_cons, List.length_nil, Nat.zero_add]
 have k0 : (h ++ [IObj.arr 35 [B (decide (a < 0)), v]] ++ [IObj.arr 35 [(.bool false), (.slice none 0 0)]])[h.length]? = some (.arr 35 [B (decide (a < 0)), v]) := by simp
 have k1 : (h ++ [IObj.arr 35 [B (decide (a < 0)), v]] ++ [IObj.arr 35 [(.bool false), (.slice none 0 0)]])[h.length + 1]? = some (.arr 35 [(.bool false), (.slice none 0 0)]) := by simp
 have x1 : EX h (h ++ [IObj.arr 35 [B (decide (a < 0)), v]] ++ [IObj.arr 35 [(.bool false), (.slice none 0 0)]]) := (EX.append _ _).push _
 generalize h ++ [IObj.arr 35 [B (decide (a < 0)), v]] ++ [IObj.arr 35 [(.bool false), (.slice none 0 0)]] = h1 at k0 k1 x1 ⊢
 simp only [fadr_pt, Nat.add_zero, OP_some]
 rw [store_at k0 (by simp) rfl rfl]
 simp only [OH_some, List.set_cons_zero]
 have k1' : (h1.set h.length (.arr 35 [B false, v]))[h.length + 1]? = some (.arr 35 [(.bool false), (.slice none 0 0)]) := by rw [List.getElem?_set_ne (by omega)]; exact k1
 rw [load2 (set_get k0)]
 simp only [OP_some]
 exact fin2z k1' (hk _ _ ((x1.set (Nat.le_refl _) _).set (by omega) _) (((hv.mono x1).setB k0 _).setB k1' _))

theorem C68 {va vb : Value} {a b : Int} {h : Heap} {K : Value → Heap → Prop} (ha : ZV h va a) (hb : ZV h vb b) (la : a.natAbs < 10000 ^ 199) (lb : b.natAbs < 10000 ^ 199)
  (hk : ∀ u h', EX h h' → MagZ h' u (Nat.gcd a.natAbs b.natAbs) → K (.agg #[B false, u]) h') : CallP Tryz.prog 68 [va, vb] h K := by
 have ha0 := ha
 have hb0 := hb
 obtain ⟨v, rfl, hv⟩ := ha
 obtain ⟨w, rfl, hw⟩ := hb
 refine f68 ?_
 have e1 : ∀ (g : Heap) (s : Bool) (v : Value), iBox 35 g (.agg #[B s, v]) = some (pt g.length 0, g ++ [.arr 35 [B s, v]]) := fun _ _ _ => rfl
 have e2 : ∀ g' : Heap, iAlloc 35 [(.bool false), (.slice none 0 0)] g' = some (pt g'.length 0, g' ++ [.arr 35 [(.bool false), (.slice none 0 0)]]) := fun _ => rfl
 simp only [T68, e1, e2, OH_some, List.length_append, List.length_cons, List.length_nil, Nat.zero_add]
 have k0 : (h ++ [IObj.arr 35 [B (decide (a < 0)), v]] ++ [IObj.arr 35 [B (decide (b < 0)), w]] ++ [IObj.arr 35 [(.bool false), (.slice none 0 0)]])[h.length]? = some (.arr 35 [B (decide (a < 0)), v]) := by simp
 have k1 : (h ++ [IObj.arr 35 [B (decide (a < 0)), v]] ++ [IObj.arr 35 [B (decide (b < 0)), w]] ++ [IObj.arr 35 [(.bool false), (.slice none 0 0)]])[h.length + 1]? = some (.arr 35 [B (decide (b < 0)), w]) := by simp
 have k2 : (h ++ [IObj.arr 35 [B (decide (a < 0)), v]] ++ [IObj.arr 35 [B (decide (b < 0)), w]] ++ [IObj.arr 35 [(.bool false), (.slice none 0 0)]])[h.length + 2]? = some (.arr 35 [(.bool false), (.slice none 0 0)]) := by simp
 have x1 : EX h (h ++ [IObj.arr 35 [B (decide (a < 0)), v]] ++ [IObj.arr 35 [B (decide (b < 0)), w]] ++ [IObj.arr 35 [(.bool false), (.slice none 0 0)]]) := ((EX.append _ _).push _).push _
 generalize h ++ [IObj.arr 35 [B (decide (a < 0)), v]] ++ [IObj.arr 35 [B (decide (b < 0)), w]] ++ [IObj.arr 35 [(.bool false), (.slice none 0 0)]] = h1 at k0 k1 k2 x1 ⊢
 rw [load2 k0]
 simp only [OP_some, true_and]
 refine C94 (ha0.mono x1) ?_
 intro u2 h2 x2 m2
 simp only [load2 k1, EX.load x2 (load2 k1), OP_some, true_and]
 refine C94 (hb0.mono (x1.trans x2)) ?_
 intro u3 h3 x3 m3
 have k0' := (x2.trans x3).get k0
 have k1' := (x2.trans x3).get k1
 have k2' := (x2.trans x3).get k2
 have x13 := (x1.trans x2).trans x3
 have m2 := m2.mono x3
 rw [store2 k0']
 simp only [OH_some]
 have q1 : (h3.set h.length (.arr 35 [B false, u2]))[h.length + 1]? = some (.arr 35 [B (decide (b < 0)), w]) := by rw [List.getElem?_set_ne (by omega)]; exact k1'
 rw [store2 q1]
 simp only [OH_some]
 refine loopL (σ := Nat × Nat × Value × Value × Heap) (fun _ => []) (fun p => p.2.2.2.2)
  (fun p => EX h p.2.2.2.2 ∧ p.2.2.2.2[h.length]? = some (.arr 35 [B false, p.2.2.1]) ∧ p.2.2.2.2[h.length + 1]? = some (.arr 35 [B false, p.2.2.2.1]) ∧ p.2.2.2.2[h.length + 2]? = some (.arr 35 [.bool false, .slice none 0 0]) ∧ MagZ p.2.2.2.2 p.2.2.1 p.1 ∧ MagZ p.2.2.2.2 p.2.2.2.1 p.2.1 ∧ p.1 < 10000 ^ 199 ∧ p.2.1 < 10000 ^ 199 ∧ Nat.gcd p.1 p.2.1 = Nat.gcd a.natAbs b.natAbs) (fun p => p.2.1)
  (a.natAbs, b.natAbs, u2, u3, (h3.set h.length (.arr 35 [B false, u2])).set (h.length + 1) (.arr 35 [B false, u3])) rfl rfl
  ⟨(x13.set (Nat.le_refl _) _).set (by omega) _, by rw [List.getElem?_set_ne (by omega)]; exact set_get k0', set_get q1, by rw [List.getElem?_set_ne (by omega), List.getElem?_set_ne (by omega)]; exact k2', (m2.setB k0' _).setB q1 _, (m3.setB k0' _).setB q1 _, la, lb, rfl⟩ ?_
 rintro ⟨x, y, ux, uy, g⟩ ⟨xg, j0, j1, j2, mx, my, lx, ly, hg⟩ L hL
 simp only at xg j0 j1 j2 mx my lx ly hg hL ⊢
 rw [q68z5]
 obtain ⟨l, p1, p2⟩ := my.len0
 have ld : iLoad false 1 g (pt (h.length + 1) 1) = some uy := by simp [iLoad, objCells, j1, iPart]
 simp only [fadr_pt, Nat.zero_add, ld, OP_some, p1, bin_gtr, IfP_dec]
 refine ⟨fun hgt => ?_, fun hle => ?_⟩
 ·have hy : 0 < y := p2.1 (by omega)
  rw [load2 j0, OP_some, load2 j1, OP_some]
  refine C69 mx.toZ my.toZ (by omega) (by simpa using lx) (by simpa using ly) ?_
  intro r s g1 y1 zr zs
  obtain ⟨u5, rfl, hu5⟩ := id zr
  obtain ⟨u6, hs6, hu6⟩ := id zs
  have hpos : decide ((x : Int) % (y : Int) < 0) = false := decide_eq_false (by have := Int.emod_nonneg (x : Int) (show (y : Int) ≠ 0 by omega); omega)
  rw [hpos] at hs6
  subst hs6
  have hmv : ((x : Int) % (y : Int)).natAbs = x % y := by
   rw [← Int.natCast_emod, Int.natAbs_natCast]
  rw [hmv] at hu6
  have gl : h.length + 2 < g1.length := by
   have := (List.getElem?_eq_some_iff.1 j2).1
   have := y1.1
   omega
  simp only [ext_tuple, pair0, pair1, OP_some, e2, OH_some, List.length_append, List.length_cons, List.length_nil, Nat.zero_add]
  have n0 : (g1 ++ [IObj.arr 35 [(.bool false), (.slice none 0 0)]] ++ [IObj.arr 35 [(.bool false), (.slice none 0 0)]])[g1.length]? = some (.arr 35 [(.bool false), (.slice none 0 0)]) := by simp
  have n1 : (g1 ++ [IObj.arr 35 [(.bool false), (.slice none 0 0)]] ++ [IObj.arr 35 [(.bool false), (.slice none 0 0)]])[g1.length + 1]? = some (.arr 35 [(.bool false), (.slice none 0 0)]) := by simp
  have y2 : EX g1 (g1 ++ [IObj.arr 35 [(.bool false), (.slice none 0 0)]] ++ [IObj.arr 35 [(.bool false), (.slice none 0 0)]]) := (EX.append _ _).push _
  generalize g1 ++ [IObj.arr 35 [(.bool false), (.slice none 0 0)]] ++ [IObj.arr 35 [(.bool false), (.slice none 0 0)]] = g2 at n0 n1 y2 ⊢
  rw [store2 n0]
  simp only [OH_some]
  have n1' : (g2.set g1.length (.arr 35 [B (decide ((x : Int) / (y : Int) < 0)), u5]))[g1.length + 1]? = some (.arr 35 [(.bool false), (.slice none 0 0)]) := by rw [List.getElem?_set_ne (by omega)]; exact n1
  rw [store2 n1']
  simp only [OH_some]
  have y3 : EX g1 ((g2.set g1.length (.arr 35 [B (decide ((x : Int) / (y : Int) < 0)), u5])).set (g1.length + 1) (.arr 35 [B false, u6])) := (y2.set (Nat.le_refl _) _).set (by omega) _
  have n6 := set_get (o := .arr 35 [B false, u6]) n1'
  generalize (g2.set g1.length (.arr 35 [B (decide ((x : Int) / (y : Int) < 0)), u5])).set (g1.length + 1) (.arr 35 [B false, u6]) = g3 at y3 n6 ⊢
  have i0 := (y1.trans y3).get j0
  have i1 := (y1.trans y3).get j1
  have i2 := (y1.trans y3).get j2
  rw [load2 i1]
  simp only [OP_some, true_and, load2 n6]
  rw [store2 i0]
  simp only [OH_some, and_true]
  have s6 : (g3.set h.length (.arr 35 [B false, uy]))[g1.length + 1]? = some (.arr 35 [B false, u6]) := by rw [List.getElem?_set_ne (by omega)]; exact n6
  have s1 : (g3.set h.length (.arr 35 [B false, uy]))[h.length + 1]? = some (.arr 35 [B false, uy]) := by rw [List.getElem?_set_ne (by omega)]; exact i1
  refine ⟨load2 s6, ?_⟩
  rw [store2 s1]
  simp only [OH_some, true_and]
  have hlt : x % y < y := Nat.mod_lt _ hy
  refine hL (y, x % y, uy, u6, (g3.set h.length (.arr 35 [B false, uy])).set (h.length + 1) (.arr 35 [B false, u6])) ⟨(((xg.trans y1).trans y3).set (Nat.le_refl _) _).set (by omega) _, ?_, set_get s1, ?_, (((my.mono y1).mono y3).setB i0 _).setB s1 _, (((hu6.mono y3)).setB i0 _).setB s1 _, ly, by show x % y < _; omega, ?_⟩ hlt
  ·show ((g3.set h.length _).set (h.length + 1) _)[h.length]? = _
   rw [List.getElem?_set_ne (by omega)]; exact set_get i0
  ·show ((g3.set h.length _).set (h.length + 1) _)[h.length + 2]? = _
   rw [List.getElem?_set_ne (by omega), List.getElem?_set_ne (by omega)]; exact i2
  ·show Nat.gcd y (x % y) = _
   rw [← hg, Nat.gcd_comm x y, Nat.gcd_rec y x, Nat.gcd_comm]
 ·have hy : y = 0 := by
   apply Classical.byContradiction
   intro hc
   have := p2.2 (by omega)
   omega
  subst hy
  rw [q68z10, load2 j0]
  simp only [OP_some]
  rw [Nat.gcd_zero_right] at hg
  subst hg
  exact fin2z j2 (hk _ _ (xg.set (by omega) _) (mx.setB j2 _))

end Go.Proofs.YtelmdbpaoifmoaaGreat


namespace Go.Proofs.YtelmdbpaoifmoaaGreat
open Go.Sim

theorem word_big {b : Nat} (h : b < 4294967296) : b < bigW := lt_bigW (Nat.lt_of_lt_of_le h (by decide))

theorem sgn_neg {a b : Nat} : sgn a b < 0 ↔ a < b := by
 unfold sgn
 constructor
 ·intro h
  apply Classical.byContradiction
  intro hn
  rw [if_neg hn] at h
  split at h <;> omega
 ·intro h; rw [if_pos h]; decide

theorem C130 {va vb : Value} {a b : Nat} {h : Heap} {K : Value → Heap → Prop} (ha : MagV h va a) (hb : MagV h vb b) (la : a < bigW) (b0 : 0 < b) (lb : b < 4294967296) (hk : ∀ q r h', EX h h' → MagV h' q (a / b) → MagV h' r (a % b) → K (.tuple #[q, r]) h') :
  CallP Tryz.prog 130 [va, vb] h K := by
 refine f130 ?_
 unfold T130
 refine C126 ha hb la (word_big lb) ?_
 simp only [bin_lss, OP_some, IfP_dec]
 refine ⟨fun hlt => ?_, fun hge => ?_⟩
 ·have hab := sgn_neg.1 hlt
  have ha0 := ha
  obtain ⟨xs, d, c, rfl⟩ := ha
  obtain ⟨s1, s2⟩ := d.cells
  have lx := canW_len c la
  have hq : ∀ g, MagV g (.slice none 0 0) (val 4294967296 xs / b) := fun g => ⟨[], DS.nil _ _ _, ⟨fun x hx => by simp at hx, by simp⟩, by rw [Nat.div_eq_of_lt hab]; rfl⟩
  by_cases h0 : xs.length = 0
  ·have e : iApp 177 1 4 h (.slice none 0 0) va = some (.slice none 0 0, h) := by
    simp only [iApp, s1, s2]
    rw [if_pos h0]
   simp only [e, OH_some]
   have : xs = [] := List.length_eq_zero_iff.1 h0
   subst this
   exact hk _ _ h (EX.refl h) (hq h) ⟨[], DS.nil _ _ _, c, by rw [Nat.mod_eq_of_lt hab]⟩
  ·have e : iApp 177 1 4 h (.slice none 0 0) va = some (sl 177 h.length 0 xs.length, h ++ [.arr 177 (xs.map fun d : Nat => Value.int .u32 (d : Int))]) := by
    simp only [iApp, s1, s2]
    rw [if_neg h0, if_pos ⟨by omega, by unfold maxLen; omega⟩]
   simp only [e, OH_some]
   refine hk _ _ _ (EX.append _ _) (hq _) ⟨xs, .inr ⟨h.length, rfl, .inr ⟨[], ?_⟩⟩, c, by rw [Nat.mod_eq_of_lt hab]⟩
   simp [objCells]
 ·have hab : b ≤ a := by
   apply Classical.byContradiction
   intro hc
   exact hge (sgn_neg.2 (by omega))
  obtain ⟨ys, d, c, hy⟩ := id hb
  have hlen : ys.length = 1 := by
   have h1 : ys.length ≤ 1 := c.len (k := 1) (by decide) (by rw [hy]; simpa using lb)
   have h2 : ys ≠ [] := by rintro rfl; simp [val] at hy; omega
   have : 0 < ys.length := List.length_pos_iff.2 h2
   omega
  obtain ⟨y, rfl⟩ : ∃ y, ys = [y] := by
   match ys, hlen with
   | [y], _ => exact ⟨y, rfl⟩
  have hyb : y = b := by simpa [val] using hy
  subst hyb
  obtain ⟨i, g1, g2⟩ := d.get (j := 0) (by simp)
  have g1' : iAdrSl 1 vb (.int .i64 (0)) = some (pt i 0) := g1
  have lenb : iLenSl vb = some (I 1) := d.len
  simp only [lenb, OP_some, bin_eql, decide_true, IfP_true, g1', g2, List.getElem_cons_zero]
  refine C114 ha la b0 lb ?_
  intro q h2 x2 hq
  have mk : ∀ (g : Heap) (r : Nat), iMkSl 177 1 [(.int .u32 (0))] g [(0, 1, .int .u32 (r : Int))] = some (sl 177 g.length 0 1, g ++ [.arr 177 [.int .u32 (r : Int)]]) := fun _ _ => rfl
  simp only [ext_tuple, pair0, pair1, OP_some, mk, OH_some]
  have x3 : EX h2 (h2 ++ [.arr 177 [.int .u32 ((a % y : Nat) : Int)]]) := EX.append _ _
  have dr : DS 177 .u32 (h2 ++ [.arr 177 [.int .u32 ((a % y : Nat) : Int)]]) (sl 177 h2.length 0 1) [a % y] := .inr ⟨h2.length, rfl, .inr ⟨[], by simp [objCells]⟩⟩
  have hm : a % y < y := Nat.mod_lt _ b0
  refine C118 dr (fun x hx => by rw [List.mem_singleton.1 hx]; omega) (by simp) ?_
  intro v' hv'
  have e : val 4294967296 [a % y] = a % y := by simp [val]
  rw [e] at hv'
  exact hk _ _ _ (x2.trans x3) (hq.mono x3) hv'

theorem C109 {va : Value} {a : Int} {h : Heap} {K : Value → Heap → Prop} (ha : IntV h va a) (hk : ∀ h', EX h h' → K (I (if a = 0 then 0 else if a < 0 then -1 else 1)) h') : CallP Tryz.prog 109 [va] h K := by
 obtain ⟨v, rfl, hv⟩ := ha
 refine f109 ?_
 have e1 : iBox 105 h (.agg #[B (decide (a < 0)), v]) = some (pt h.length 0, h ++ [.arr 105 [B (decide (a < 0)), v]]) := rfl
 have x1 : EX h (h ++ [.arr 105 [B (decide (a < 0)), v]]) := EX.append _ _
 have l1 : iLoad false 1 (h ++ [IObj.arr 105 [B (decide (a < 0)), v]]) (pt h.length 1) = some v := load_last rfl
 have l0 : iLoad false 1 (h ++ [IObj.arr 105 [B (decide (a < 0)), v]]) (pt h.length 0) = some (B (decide (a < 0))) := load_last rfl
 obtain ⟨l, e2, e3⟩ := hv.len0
 simp only [T109, e1, OH_some, fadr_pt, Nat.zero_add, Nat.add_zero, OP_some, l1, l0, e2, bin_eql, IfP_dec]
 refine ⟨fun hz => ?_, fun hz => ⟨fun hn => ?_, fun hn => ?_⟩⟩
 ·have := hk _ x1
  rw [if_pos (by omega)] at this
  exact this
 ·have := hk _ x1
  rw [if_neg (by omega), if_pos hn] at this
  exact this
 ·have := hk _ x1
  rw [if_neg (by omega), if_neg hn] at this
  exact this

theorem C111 {va vb : Value} {a b : Int} {h : Heap} {K : Value → Heap → Prop} (ha : IntV h va a) (hb : IntV h vb b) (la : a.natAbs < bigW) (lb : b.natAbs < bigW) (hk : ∀ h', EX h h' → K (I (if a - b = 0 then 0 else if a - b < 0 then -1 else 1)) h') : CallP Tryz.prog 111 [va, vb] h K := by
 have ha0 := ha
 have hb0 := hb
 obtain ⟨v, rfl, hv⟩ := ha
 obtain ⟨w, rfl, hw⟩ := hb
 refine f111 ?_
 have e1 : ∀ (g : Heap) (s : Bool) (v : Value), iBox 105 g (.agg #[B s, v]) = some (pt g.length 0, g ++ [.arr 105 [B s, v]]) := fun _ _ _ => rfl
 simp only [T111, e1, OH_some]
 have g0 : (h ++ [IObj.arr 105 [B (decide (a < 0)), v]] ++ [IObj.arr 105 [B (decide (b < 0)), w]])[h.length]? = some (.arr 105 [B (decide (a < 0)), v]) := by simp
 have g1 : (h ++ [IObj.arr 105 [B (decide (a < 0)), v]] ++ [IObj.arr 105 [B (decide (b < 0)), w]])[(h ++ [IObj.arr 105 [B (decide (a < 0)), v]]).length]? = some (.arr 105 [B (decide (b < 0)), w]) := get_last
 have x1 : EX h (h ++ [IObj.arr 105 [B (decide (a < 0)), v]] ++ [IObj.arr 105 [B (decide (b < 0)), w]]) := (EX.append _ _).push _
 generalize h ++ [IObj.arr 105 [B (decide (a < 0)), v]] ++ [IObj.arr 105 [B (decide (b < 0)), w]] = h1 at g0 g1 x1 ⊢
 rw [load2 g0, load2 g1]
 simp only [OP_some]
 refine C127 (ha0.mono x1) (hb0.mono x1) la lb ?_
 intro r h2 x2 hr
 exact C109 hr fun h3 x3 => hk h3 (x1.trans (x2.trans x3))

theorem IntV.nat {h : Heap} {v : Value} {n : Nat} (p : MagV h v n) : IntV h (.agg #[B false, v]) (n : Int) := ⟨v, by rw [decide_eq_false (by omega)], by rwa [Int.natAbs_natCast]⟩

theorem C120 {va vb : Value} {a b : Int} {h : Heap} {K : Value → Heap → Prop} (ha : IntV h va a) (hb : IntV h vb b) (la : a.natAbs < bigW) (lb : b.natAbs < 4294967296) (hk : ∀ r h', EX h h' → IntV h' r (Nat.gcd a.natAbs b.natAbs : Nat) → K r h') : CallP Tryz.prog 120 [va, vb] h K := by
 obtain ⟨v, rfl, hv⟩ := ha
 obtain ⟨w, rfl, hw⟩ := hb
 refine f120 ?_
 unfold T120
 refine box2 ?_
 intro h3 x
 simp only [fadr_pt, Nat.zero_add, OP_some, x.a1, x.b1, true_and]
 refine loopL (σ := Value × Value × Nat × Nat × Heap) (fun q => [q.1, q.2.1]) (fun q => q.2.2.2.2) (fun q => (MagV q.2.2.2.2 q.1 q.2.2.1 ∧ MagV q.2.2.2.2 q.2.1 q.2.2.2.1) ∧ (q.2.2.1 < bigW ∧ q.2.2.2.1 < 4294967296) ∧ Nat.gcd q.2.2.1 q.2.2.2.1 = Nat.gcd a.natAbs b.natAbs ∧ EX h3 q.2.2.2.2) (fun q => q.2.2.2.1)
  (v, w, a.natAbs, b.natAbs, h3) rfl rfl ⟨⟨hv.mono x.ex, hw.mono x.ex⟩, ⟨la, lb⟩, rfl, EX.refl _⟩ ?_
 rintro ⟨vx, vy, m, n, g⟩ ⟨⟨hm, hn⟩, ⟨lm, ln⟩, hg, xg⟩ L hL
 simp only at hm hn lm ln hg xg hL ⊢
 rw [q120z5]
 obtain ⟨l, e1, e2⟩ := hn.len0
 simp only [e1, OP_some, bin_gtr, IfP_dec]
 refine ⟨fun hp => ?_, fun hz => ?_⟩
 ·have n0 : 0 < n := e2.1 (by omega)
  refine C130 hm hn lm n0 ln ?_
  intro q r g2 x2 hq hr
  simp only [ext_tuple, pair0, pair1, OP_some, true_and]
  have hmod : m % n < n := Nat.mod_lt _ n0
  refine hL (vy, r, n, m % n, g2) ⟨⟨hn.mono x2, hr⟩, ⟨word_big ln, by show m % n < _; omega⟩, ?_, xg.trans x2⟩ hmod
  show Nat.gcd n (m % n) = _
  rw [← hg, Nat.gcd_comm m n, Nat.gcd_rec n m, Nat.gcd_comm]
 ·have n0 : n = 0 := by
   apply Classical.byContradiction
   intro hne
   have := e2.2 (by omega)
   omega
  subst n0
  rw [q120z10]
  rw [Nat.gcd_zero_right] at hg
  refine C117 hm ?_
  intro h5 x5
  have g' := (xg.trans x5).get x.out
  rw [Bool.false_and]
  refine fin2 g' (hk _ _ (((x.ex.trans xg).trans x5).set (by omega) _) ?_)
  rw [← hg]
  exact (IntV.nat (hm.mono x5)).setB g' _

end Go.Proofs.YtelmdbpaoifmoaaGreat


namespace Go.Proofs.YtelmdbpaoifmoaaGreat
open Go.Sim

def RatV (h : Heap) (val : Value) (a b : Int) : Prop := ∃ u w, val = .agg #[B (decide (a < 0)), u, B (decide (b < 0)), w] ∧ MagV h u a.natAbs ∧ MagV h w b.natAbs

theorem C90 {u w : Value} {s : Bool} {h : Heap} {K : Value → Heap → Prop} (hw : MagV h w 1) (hk : ∀ h', EX h h' → K (B true) h') : CallP Tryz.prog 90 [.agg #[B s, u, B false, w]] h K := by
 refine f90 ?_
 have e1 : iBox 107 h (.agg #[B s, u, B false, w]) = some (pt h.length 0, h ++ [.arr 107 [B s, u, B false, w]]) := rfl
 simp only [T90, e1, OH_some]
 have x1 : EX h (h ++ [IObj.arr 107 [B s, u, B false, w]]) := EX.append _ _
 have l3 : iLoad false 1 (h ++ [IObj.arr 107 [B s, u, B false, w]]) (pt h.length 3) = some w := load_last rfl
 obtain ⟨xs, dx, cx, vx⟩ := hw.mono x1
 have hx1 : xs = [1] := Canon.unique (by decide) cx ⟨fun y hy => by simp at hy; subst hy; decide, by simp⟩ (by rw [vx]; rfl)
 subst hx1
 obtain ⟨i, g1, g2⟩ := dx.get (j := 0) (by simp)
 have g1' : iAdrSl 1 w (I 0) = some (pt i 0) := g1
 simp only [fadr_pt, Nat.zero_add, Nat.add_zero, OP_some, l3, dx.len, List.length_singleton, bin_eql, q90z4]
 rw [decide_eq_true (show ((1 : Nat) : Int) = 1 by rfl)]
 simp only [GdP_tt, l3, OP_some, g1', g2, bin_eql, q90z6, iPick_t]
 exact hk _ x1

end Go.Proofs.YtelmdbpaoifmoaaGreat


namespace Go.Proofs.YtelmdbpaoifmoaaGreat
open Go.Sim

theorem C121 {va vb : Value} {a b : Int} {h : Heap} {K : Value → Heap → Prop} (ha : IntV h va a) (hb : IntV h vb b) (la : a.natAbs < bigW) (b0 : 0 < b) (lb : b.natAbs < 4294967296) (hd : b ∣ a) (hk : ∀ r s h', EX h h' → IntV h' r (a / b) → IntV h' s 0 → K (.tuple #[r, s]) h') : CallP Tryz.prog 121 [va, vb] h K := by
 obtain ⟨v, rfl, hv⟩ := ha
 obtain ⟨w, rfl, hw⟩ := hb
 have hsb : decide (b < 0) = false := decide_eq_false (by omega)
 obtain ⟨c, rfl⟩ := hd
 have hdiv : b * c / b = c := Int.mul_ediv_cancel_left c (by omega)
 rw [hdiv] at hk
 have hab : (b * c).natAbs = b.natAbs * c.natAbs := Int.natAbs_mul b c
 have hb0 : 0 < b.natAbs := by omega
 have hq : (b * c).natAbs / b.natAbs = c.natAbs := by rw [hab]; exact Nat.mul_div_cancel_left _ hb0
 have hr : (b * c).natAbs % b.natAbs = 0 := by rw [hab]; exact Nat.mul_mod_right _ _
 have hneg : (decide (b * c < 0) && decide (0 < c.natAbs)) = decide (c < 0) := by
  by_cases hc : c < 0
  ·rw [decide_eq_true hc, decide_eq_true (show 0 < c.natAbs by omega), decide_eq_true (Int.mul_neg_of_pos_of_neg b0 hc)]; rfl
  ·have : 0 ≤ b * c := Int.mul_nonneg (by omega) (by omega)
   rw [decide_eq_false hc, decide_eq_false (by omega)]; rfl
 refine f121 ?_
 have e1 : ∀ (g : Heap) (s : Bool) (v : Value), iBox 105 g (.agg #[B s, v]) = some (pt g.length 0, g ++ [.arr 105 [B s, v]]) := fun _ _ _ => rfl
 have e2 : ∀ (g : Heap), iAlloc 105 [(.bool false), (.slice none 0 0)] g = some (pt g.length 0, g ++ [.arr 105 [(.bool false), (.slice none 0 0)]]) := fun _ => rfl
 have ob : ∀ {g : Heap} {i : Nat}, g[i]? = some (.arr 105 [(.bool false), (.slice none 0 0)]) → iObj g (pt i 0) = some (.agg #[.int .i64 105, .bool false, .slice none 0 0]) := by
  intro g i hi
  simp [iObj, idOf, hi, encObj, noId]
 rw [hsb]
 simp only [T121, e1, e2, OH_some]
 have q0 : EX h (h ++ [.arr 105 [B (decide (b * c < 0)), v]]) := EX.append _ _
 have p0 : (h ++ [IObj.arr 105 [B (decide (b * c < 0)), v]])[h.length]? = some (.arr 105 [B (decide (b * c < 0)), v]) := get_last
 generalize h ++ [IObj.arr 105 [B (decide (b * c < 0)), v]] = ga at q0 p0 ⊢
 have q1 : EX ga (ga ++ [.arr 105 [B false, w]]) := EX.append _ _
 have p1 : (ga ++ [IObj.arr 105 [B false, w]])[ga.length]? = some (.arr 105 [B false, w]) := get_last
 generalize ga ++ [IObj.arr 105 [B false, w]] = gb at q1 p1 ⊢
 have q2 : EX gb (gb ++ [.arr 105 [(.bool false), (.slice none 0 0)]]) := EX.append _ _
 have p2 : (gb ++ [IObj.arr 105 [(.bool false), (.slice none 0 0)]])[gb.length]? = some (.arr 105 [(.bool false), (.slice none 0 0)]) := get_last
 generalize gb ++ [IObj.arr 105 [(.bool false), (.slice none 0 0)]] = gc at q2 p2 ⊢
 have q3 : EX gc (gc ++ [.arr 105 [(.bool false), (.slice none 0 0)]]) := EX.append _ _
 have p3 : (gc ++ [IObj.arr 105 [(.bool false), (.slice none 0 0)]])[gc.length]? = some (.arr 105 [(.bool false), (.slice none 0 0)]) := get_last
 generalize gc ++ [IObj.arr 105 [(.bool false), (.slice none 0 0)]] = gd at q3 p3 ⊢
 have q13 := q1.trans (q2.trans q3)
 have q03 := q0.trans q13
 have k0 := q13.get p0
 have k1 := (q2.trans q3).get p1
 have k2 := q3.get p2
 have la1 : ∀ {g : Heap}, EX gd g → iLoad false 1 g (pt h.length 1) = some v := fun x => by simp [iLoad, objCells, x.get k0, iPart]
 have la0 : ∀ {g : Heap}, EX gd g → iLoad false 1 g (pt h.length 0) = some (B (decide (b * c < 0))) := fun x => by simp [iLoad, objCells, x.get k0, iPart]
 have lb1 : ∀ {g : Heap}, EX gd g → iLoad false 1 g (pt ga.length 1) = some w := fun x => by simp [iLoad, objCells, x.get k1, iPart]
 have lb0 : ∀ {g : Heap}, EX gd g → iLoad false 1 g (pt ga.length 0) = some (B false) := fun x => by simp [iLoad, objCells, x.get k1, iPart]
 simp only [fadr_pt, Nat.zero_add, Nat.add_zero, OP_some, la1 (EX.refl gd), lb1 (EX.refl gd)]
 refine C130 (hv.mono q03) (hw.mono q03) la hb0 lb ?_
 intro q r g5 x5 mq mr
 rw [hq] at mq
 rw [hr] at mr
 simp only [ext_tuple, pair0, pair1, OP_some]
 have y1 : EX g5 (g5 ++ [.arr 105 [(.bool false), (.slice none 0 0)]]) := EX.append _ _
 have s1 : (g5 ++ [IObj.arr 105 [(.bool false), (.slice none 0 0)]])[g5.length]? = some (.arr 105 [(.bool false), (.slice none 0 0)]) := get_last
 have sl1 : (g5 ++ [IObj.arr 105 [(.bool false), (.slice none 0 0)]]).length = g5.length + 1 := by simp
 generalize g5 ++ [IObj.arr 105 [(.bool false), (.slice none 0 0)]] = g6 at y1 s1 sl1 ⊢
 have y2 : EX g6 (g6 ++ [.arr 105 [(.bool false), (.slice none 0 0)]]) := EX.append _ _
 have s2 : (g6 ++ [IObj.arr 105 [(.bool false), (.slice none 0 0)]])[g6.length]? = some (.arr 105 [(.bool false), (.slice none 0 0)]) := get_last
 generalize g6 ++ [IObj.arr 105 [(.bool false), (.slice none 0 0)]] = g7 at y2 s2 ⊢
 have s1' := y2.get s1
 have y12 := y1.trans y2
 have z5 := x5
 have z6 := x5.trans y1
 have z7 := x5.trans y12
 simp only [ob s1, ob s1', ob s2, OP_some, true_and, la0 z5, la0 z6, la0 z7, lb0 z5, lb0 z6, lb0 z7, eqb_bool, if_true]
 have hx : (!(decide (b * c < 0) == false)) = decide (b * c < 0) := by cases decide (b * c < 0) <;> rfl
 rw [hx]
 refine C117 (mq.mono y12) ?_
 intro g8 x8
 rw [hneg]
 simp only [ob (x8.get s1'), ob (x8.get s2), true_and, la0 (z7.trans x8), OP_some]
 refine C117 ((mr.mono y12).mono x8) ?_
 intro g9 x9
 have x89 := x8.trans x9
 have t1 := x89.get s1'
 have t2 := x89.get s2
 have hne : g5.length ≠ g6.length := by omega
 simp only [ob t1, ob t2, true_and, decide_eq_false (show ¬ (0 < 0) by decide), Bool.and_false]
 rw [store2 t1]
 simp only [OH_some]
 have t2' : (g9.set g5.length (.arr 105 [B (decide (c < 0)), q]))[g6.length]? = some (.arr 105 [(.bool false), (.slice none 0 0)]) := by rw [List.getElem?_set_ne hne]; exact t2
 rw [store2 t2']
 simp only [OH_some]
 obtain ⟨l, l1, l2⟩ := mr.len0
 have l0 : l = 0 := by
  apply Classical.byContradiction
  intro hc
  have := l2.1 (by omega)
  omega
 subst l0
 simp only [l1, OP_some, bin_gtr]
 rw [decide_eq_false (show ¬ ((0 : Int) < ((0 : Nat) : Int)) by decide)]
 rw [q121z7]
 simp only [GdP_ft]
 rw [q121z9]
 have pk : iPick (B false) undef (.bool false) = some (B false) := rfl
 simp only [pk, OP_some, IfP_false]
 rw [q121z10]
 have u1 : ((g9.set g5.length (.arr 105 [B (decide (c < 0)), q])).set g6.length (.arr 105 [B false, r]))[g5.length]? = some (.arr 105 [B (decide (c < 0)), q]) := by
  rw [List.getElem?_set_ne (fun e => hne e.symm)]; exact set_get t1
 have u2 : ((g9.set g5.length (.arr 105 [B (decide (c < 0)), q])).set g6.length (.arr 105 [B false, r]))[g6.length]? = some (.arr 105 [B false, r]) := set_get t2'
 have hgd : gd.length ≤ g5.length := x5.1
 have hx0 : EX h ((g9.set g5.length (.arr 105 [B (decide (c < 0)), q])).set g6.length (.arr 105 [B false, r])) :=
  (((q03.trans z7).trans x89).set (by have := q03.1; omega) _).set (by have := q03.1; omega) _
 have lgb : gb.length < gd.length := by
  have := (List.getElem?_eq_some_iff.1 k2).1; exact this
 have lgc : gc.length < gd.length := (List.getElem?_eq_some_iff.1 p3).1
 have w2 : ((g9.set g5.length (.arr 105 [B (decide (c < 0)), q])).set g6.length (.arr 105 [B false, r]))[gb.length]? = some (.arr 105 [(.bool false), (.slice none 0 0)]) := by
  rw [List.getElem?_set_ne (by omega), List.getElem?_set_ne (by omega)]; exact (z7.trans x89).get k2
 have w3 : ((g9.set g5.length (.arr 105 [B (decide (c < 0)), q])).set g6.length (.arr 105 [B false, r]))[gc.length]? = some (.arr 105 [(.bool false), (.slice none 0 0)]) := by
  rw [List.getElem?_set_ne (by omega), List.getElem?_set_ne (by omega)]; exact (z7.trans x89).get p3
 have mqf : MagV ((g9.set g5.length (.arr 105 [B (decide (c < 0)), q])).set g6.length (.arr 105 [B false, r])) q c.natAbs := (((mq.mono y12).mono x89).setB t1 _).setB t2' _
 have mrf : MagV ((g9.set g5.length (.arr 105 [B (decide (c < 0)), q])).set g6.length (.arr 105 [B false, r])) r 0 := (((mr.mono y12).mono x89).setB t1 _).setB t2' _
 generalize (g9.set g5.length (.arr 105 [B (decide (c < 0)), q])).set g6.length (.arr 105 [B false, r]) = gz at u1 u2 hx0 w2 w3 mqf mrf ⊢
 rw [load2 u1, load2 u2]
 simp only [OP_some, true_and]
 rw [store2 w2]
 simp only [OH_some]
 have hbc : gb.length ≠ gc.length := by
  have := (List.getElem?_eq_some_iff.1 p2).1; omega
 have u2' : (gz.set gb.length (.arr 105 [B (decide (c < 0)), q]))[g6.length]? = some (.arr 105 [B false, r]) := by rw [List.getElem?_set_ne (by omega)]; exact u2
 have w3' : (gz.set gb.length (.arr 105 [B (decide (c < 0)), q]))[gc.length]? = some (.arr 105 [(.bool false), (.slice none 0 0)]) := by rw [List.getElem?_set_ne hbc]; exact w3
 rw [load2 u2', store2 w3']
 simp only [true_and, OH_some]
 have n2 : ((gz.set gb.length (.arr 105 [B (decide (c < 0)), q])).set gc.length (.arr 105 [B false, r]))[gb.length]? = some (.arr 105 [B (decide (c < 0)), q]) := by
  rw [List.getElem?_set_ne (fun e => hbc e.symm)]; exact set_get w2
 rw [load2 n2, load2 (set_get w3')]
 simp only [OP_some]
 have hlb : h.length ≤ gb.length := (q0.trans q1).1
 refine hk _ _ _ ((hx0.set hlb _).set (by have := (List.getElem?_eq_some_iff.1 p2).1; omega) _) ⟨q, rfl, (mqf.setB w2 _).setB w3' _⟩ ⟨r, rfl, (mrf.setB w2 _).setB w3' _⟩

theorem RatV.mono {h h' : Heap} {v : Value} {a b : Int} (x : EX h h') (p : RatV h v a b) : RatV h' v a b := let ⟨u, w, e, m, n⟩ := p; ⟨u, w, e, m.mono x, n.mono x⟩
theorem RatV.setB {h : Heap} {v : Value} {a b : Int} {j : Nat} {e : TypeId} {s : Bool} {r : List Value} (p : RatV h v a b) (hj : h[j]? = some (.arr e (.bool s :: r))) (o : IObj) : RatV (h.set j o) v a b :=
 let ⟨u, w, e, m, n⟩ := p; ⟨u, w, e, m.setB hj o, n.setB hj o⟩

theorem endR {h h' : Heap} {j : Nat} {va vb : Value} {a b : Int} {K : Value → Heap → Prop} (ha : IntV h' va a) (hb : IntV h' vb b) (x : EX h h') (hj : h.length ≤ j) (hg : h'[j]? = some (.arr 107 z4)) (hk : ∀ r h', EX h h' → RatV h' r a b → K r h') :
  OP (iBuild [(.bool false), (.slice none 0 0), (.bool false), (.slice none 0 0)] [(0, 2, va), (2, 2, vb)]) fun x25 => OH (oStore 4 h' (pt j 0) x25) fun _ h_6 => OP (iLoad true 4 h_6 (pt j 0)) fun r0 => K r0 h_6 := by
 obtain ⟨v, rfl, hv⟩ := ha
 obtain ⟨w, rfl, hw⟩ := hb
 obtain ⟨xs, dx, _⟩ := id hv
 obtain ⟨ys, dy, _⟩ := id hw
 rw [build4 dx dy]
 simp only [OP_some]
 exact fin4 hg (hk _ _ (x.set hj _) ⟨v, w, rfl, hv.setB hg _, hw.setB hg _⟩)

theorem C75 {n : Int} {h : Heap} {K : Value → Heap → Prop} (h1 : -9223372036854775808 ≤ n) (h2 : n < 9223372036854775808) (hk : ∀ r h', EX h h' → RatV h' r n 1 → K r h') : CallP Tryz.prog 75 [I n] h K := by
 refine f75 ?_
 have e1 : iAlloc 107 [(.bool false), (.slice none 0 0), (.bool false), (.slice none 0 0)] h = some (pt h.length 0, h ++ [.arr 107 z4]) := rfl
 simp only [T75, e1, OH_some]
 have x0 : EX h (h ++ [.arr 107 z4]) := EX.append _ _
 have g0 : (h ++ [IObj.arr 107 z4])[h.length]? = some (.arr 107 z4) := get_last
 generalize h ++ [IObj.arr 107 z4] = ga at x0 g0 ⊢
 refine C105 h1 h2 ?_
 intro r h3 x3 i3
 refine C105 (by decide) (by decide) ?_
 intro s h4 x4 i4
 exact endR (i3.mono x4) i4 (x0.trans (x3.trans x4)) (Nat.le_refl _) ((x3.trans x4).get g0) hk

theorem gcd_small {a b : Int} (b0 : 0 < b) : 0 < (Nat.gcd a.natAbs b.natAbs : Int) ∧ (Nat.gcd a.natAbs b.natAbs : Int) ≤ b := by
 have h1 : 0 < Nat.gcd a.natAbs b.natAbs := Nat.gcd_pos_of_pos_right _ (by omega)
 have h2 : Nat.gcd a.natAbs b.natAbs ≤ b.natAbs := Nat.gcd_le_right _ (by omega)
 omega

theorem C106 {va vb : Value} {a b : Int} {h : Heap} {K : Value → Heap → Prop} (ha : IntV h va a) (hb : IntV h vb b) (la : a.natAbs < bigW) (b0 : 0 < b) (lb : b.natAbs < 4294967296)
  (hk : ∀ r h', EX h h' → RatV h' r (a / (Nat.gcd a.natAbs b.natAbs : Int)) (b / (Nat.gcd a.natAbs b.natAbs : Int)) → K r h') : CallP Tryz.prog 106 [va, vb] h K := by
 obtain ⟨v, rfl, hv⟩ := ha
 obtain ⟨w, rfl, hw⟩ := hb
 have hsb : decide (b < 0) = false := decide_eq_false (by omega)
 obtain ⟨g1p, g1le⟩ := gcd_small (a := a) b0
 have hda : (Nat.gcd a.natAbs b.natAbs : Int) ∣ a := Int.gcd_dvd_left ..
 have hdb : (Nat.gcd a.natAbs b.natAbs : Int) ∣ b := Int.gcd_dvd_right ..
 refine f106 ?_
 have e1 : ∀ (g : Heap) (s : Bool) (v : Value), iBox 105 g (.agg #[B s, v]) = some (pt g.length 0, g ++ [.arr 105 [B s, v]]) := fun _ _ _ => rfl
 have e2 : ∀ (g : Heap), iAlloc 105 [(.bool false), (.slice none 0 0)] g = some (pt g.length 0, g ++ [.arr 105 [(.bool false), (.slice none 0 0)]]) := fun _ => rfl
 have e3 : ∀ (g : Heap), iAlloc 107 [(.bool false), (.slice none 0 0), (.bool false), (.slice none 0 0)] g = some (pt g.length 0, g ++ [.arr 107 z4]) := fun _ => rfl
 simp only [T106, e1, e3, OH_some]
 have q0 : EX h (h ++ [.arr 105 [B (decide (a < 0)), v]]) := EX.append _ _
 have p0 : (h ++ [IObj.arr 105 [B (decide (a < 0)), v]])[h.length]? = some (.arr 105 [B (decide (a < 0)), v]) := get_last
 generalize h ++ [IObj.arr 105 [B (decide (a < 0)), v]] = ga at q0 p0 ⊢
 have q1 : EX ga (ga ++ [.arr 105 [B (decide (b < 0)), w]]) := EX.append _ _
 have p1 : (ga ++ [IObj.arr 105 [B (decide (b < 0)), w]])[ga.length]? = some (.arr 105 [B (decide (b < 0)), w]) := get_last
 generalize ga ++ [IObj.arr 105 [B (decide (b < 0)), w]] = gb at q1 p1 ⊢
 have q2 : EX gb (gb ++ [.arr 107 z4]) := EX.append _ _
 have p2 : (gb ++ [IObj.arr 107 z4])[gb.length]? = some (.arr 107 z4) := get_last
 generalize gb ++ [IObj.arr 107 z4] = gc at q2 p2 ⊢
 have k0 := (q1.trans q2).get p0
 have k1 := q2.get p1
 have x0 := q0.trans (q1.trans q2)
 have hlb : h.length ≤ gb.length := (q0.trans q1).1
 have ldn : ∀ {g : Heap}, EX gc g → iLoad true 2 g (pt h.length 0) = some (.agg #[B (decide (a < 0)), v]) := fun x => load2 (x.get k0)
 have ldd : ∀ {g : Heap}, EX gc g → iLoad true 2 g (pt ga.length 0) = some (.agg #[B (decide (b < 0)), w]) := fun x => load2 (x.get k1)
 have iva : ∀ {g : Heap}, EX gc g → IntV g (.agg #[B (decide (a < 0)), v]) a := fun x => ⟨v, rfl, hv.mono (x0.trans x)⟩
 have ivb : ∀ {g : Heap}, EX gc g → IntV g (.agg #[B (decide (b < 0)), w]) b := fun x => ⟨w, rfl, hw.mono (x0.trans x)⟩
 have l1 : iLoad false 1 gc (pt ga.length 0) = some (B (decide (b < 0))) := by simp [iLoad, objCells, k1, iPart]
 simp only [fadr_pt, Nat.add_zero, OP_some, l1]
 rw [hsb]
 simp only [IfP_false]
 rw [q106z4]
 rw [ldn (EX.refl gc), ldd (EX.refl gc)]
 simp only [OP_some]
 refine C120 (iva (EX.refl gc)) (ivb (EX.refl gc)) la lb ?_
 intro r g3 x3 ir
 simp only [e2, OH_some]
 have y4 : EX g3 (g3 ++ [.arr 105 [(.bool false), (.slice none 0 0)]]) := EX.append _ _
 have s4 : (g3 ++ [IObj.arr 105 [(.bool false), (.slice none 0 0)]])[g3.length]? = some (.arr 105 [(.bool false), (.slice none 0 0)]) := get_last
 generalize g3 ++ [IObj.arr 105 [(.bool false), (.slice none 0 0)]] = g4 at y4 s4 ⊢
 obtain ⟨u, rfl, hu⟩ := ir
 have hu4 := (hu.mono y4).setB s4 (.arr 105 [B (decide ((Nat.gcd a.natAbs b.natAbs : Int) < 0)), u])
 rw [store2 s4]
 simp only [OH_some]
 have hgl : gc.length ≤ g3.length := x3.1
 have x5 : EX gc (g4.set g3.length (.arr 105 [B (decide ((Nat.gcd a.natAbs b.natAbs : Int) < 0)), u])) := (x3.trans y4).set hgl _
 have s5 : (g4.set g3.length (.arr 105 [B (decide ((Nat.gcd a.natAbs b.natAbs : Int) < 0)), u]))[g3.length]? = some (.arr 105 [B (decide ((Nat.gcd a.natAbs b.natAbs : Int) < 0)), u]) := set_get s4
 generalize g4.set g3.length (.arr 105 [B (decide ((Nat.gcd a.natAbs b.natAbs : Int) < 0)), u]) = g5 at x5 s5 hu4 ⊢
 have ig : ∀ {g : Heap}, EX g5 g → IntV g (.agg #[B (decide ((Nat.gcd a.natAbs b.natAbs : Int) < 0)), u]) (Nat.gcd a.natAbs b.natAbs : Int) := fun x => ⟨u, rfl, hu4.mono x⟩
 rw [load2 s5]
 simp only [OP_some, true_and]
 refine C105 (by decide) (by decide) ?_
 intro one g6 x6 i1
 rw [load2 (x6.get s5)]
 simp only [true_and]
 have lgW : ((Nat.gcd a.natAbs b.natAbs : Int)).natAbs < 4294967296 := by rw [Int.natAbs_natCast]; have := Nat.gcd_le_right a.natAbs (show 0 < b.natAbs by omega); omega
 refine C111 (ig x6) i1 (word_big lgW) (by rw [show (1 : Int).natAbs = 1 from rfl]; exact word_big (by decide)) ?_
 intro g7 x7
 have x57 := x6.trans x7
 have xc7 := x5.trans x57
 simp only [bin_eql, OP_some, IfP_dec]
 refine ⟨fun h1 => ?_, fun h1 => ?_⟩
 ·have hg1 : (Nat.gcd a.natAbs b.natAbs : Int) = 1 := by
   split at h1
   ·omega
   ·split at h1 <;> omega
  rw [ldn xc7, ldd xc7]
  simp only [OP_some]
  rw [hg1, Int.ediv_one, Int.ediv_one] at hk
  exact endR (iva xc7) (ivb xc7) (x0.trans xc7) hlb (xc7.get p2) hk
 ·rw [ldn xc7, load2 (x57.get s5)]
  simp only [OP_some]
  refine C121 (iva xc7) (ig x57) la g1p lgW hda ?_
  intro rn sn g8 x8 irn isn
  simp only [ext_tuple, pair0, pair1, OP_some, e2, OH_some]
  have y9 : EX g8 (g8 ++ [.arr 105 [(.bool false), (.slice none 0 0)]]) := EX.append _ _
  have s9 : (g8 ++ [IObj.arr 105 [(.bool false), (.slice none 0 0)]])[g8.length]? = some (.arr 105 [(.bool false), (.slice none 0 0)]) := get_last
  generalize g8 ++ [IObj.arr 105 [(.bool false), (.slice none 0 0)]] = g9 at y9 s9 ⊢
  have y10 : EX g9 (g9 ++ [.arr 105 [(.bool false), (.slice none 0 0)]]) := EX.append _ _
  have s10 : (g9 ++ [IObj.arr 105 [(.bool false), (.slice none 0 0)]])[g9.length]? = some (.arr 105 [(.bool false), (.slice none 0 0)]) := get_last
  generalize g9 ++ [IObj.arr 105 [(.bool false), (.slice none 0 0)]] = g10 at y10 s10 ⊢
  have s9' := y10.get s9
  obtain ⟨qn, rfl, hqn⟩ := irn
  obtain ⟨zn, rfl, hzn⟩ := isn
  have h98 : g8.length ≠ g9.length := by have := (List.getElem?_eq_some_iff.1 s9).1; omega
  rw [store2 s9']
  simp only [OH_some]
  have t10 : (g10.set g8.length (.arr 105 [B (decide (a / (Nat.gcd a.natAbs b.natAbs : Int) < 0)), qn]))[g9.length]? = some (.arr 105 [(.bool false), (.slice none 0 0)]) := by rw [List.getElem?_set_ne h98]; exact s10
  have t9 : (g10.set g8.length (.arr 105 [B (decide (a / (Nat.gcd a.natAbs b.natAbs : Int) < 0)), qn]))[g8.length]? = some (.arr 105 [B (decide (a / (Nat.gcd a.natAbs b.natAbs : Int) < 0)), qn]) := set_get s9'
  have x810 := y9.trans y10
  have hqn2 := (hqn.mono x810).setB s9' (.arr 105 [B (decide (a / (Nat.gcd a.natAbs b.natAbs : Int) < 0)), qn])
  have xc8 := xc7.trans x8
  have x58 := x57.trans x8
  have xs1 : EX g8 (g10.set g8.length (.arr 105 [B (decide (a / (Nat.gcd a.natAbs b.natAbs : Int) < 0)), qn])) := x810.set (Nat.le_refl _) _
  generalize g10.set g8.length (.arr 105 [B (decide (a / (Nat.gcd a.natAbs b.natAbs : Int) < 0)), qn]) = g11 at t10 t9 hqn2 xs1 ⊢
  rw [store2 t10]
  simp only [OH_some]
  have t9' : (g11.set g9.length (.arr 105 [B (decide ((0 : Int) < 0)), zn]))[g8.length]? = some (.arr 105 [B (decide (a / (Nat.gcd a.natAbs b.natAbs : Int) < 0)), qn]) := by rw [List.getElem?_set_ne (fun e => h98 e.symm)]; exact t9
  have hqn3 := hqn2.setB t10 (.arr 105 [B (decide ((0 : Int) < 0)), zn])
  have h89 : g8.length ≤ g9.length := by have := (List.getElem?_eq_some_iff.1 s9).1; omega
  have xs2 : EX g8 (g11.set g9.length (.arr 105 [B (decide ((0 : Int) < 0)), zn])) := xs1.set h89 _
  generalize g11.set g9.length (.arr 105 [B (decide ((0 : Int) < 0)), zn]) = g12 at t9' hqn3 xs2 ⊢
  rw [ldd (xc8.trans xs2), load2 ((x58.trans xs2).get s5)]
  simp only [OP_some]
  refine C121 (ivb (xc8.trans xs2)) (ig (x58.trans xs2)) (word_big lb) g1p lgW hdb ?_
  intro rd sd g13 x13 ird isd
  simp only [ext_tuple, pair0, pair1, OP_some]
  have y14 : EX g13 (g13 ++ [.arr 105 [(.bool false), (.slice none 0 0)]]) := EX.append _ _
  have s14 : (g13 ++ [IObj.arr 105 [(.bool false), (.slice none 0 0)]])[g13.length]? = some (.arr 105 [(.bool false), (.slice none 0 0)]) := get_last
  generalize g13 ++ [IObj.arr 105 [(.bool false), (.slice none 0 0)]] = g14 at y14 s14 ⊢
  have y15 : EX g14 (g14 ++ [.arr 105 [(.bool false), (.slice none 0 0)]]) := EX.append _ _
  have s15 : (g14 ++ [IObj.arr 105 [(.bool false), (.slice none 0 0)]])[g14.length]? = some (.arr 105 [(.bool false), (.slice none 0 0)]) := get_last
  generalize g14 ++ [IObj.arr 105 [(.bool false), (.slice none 0 0)]] = g15 at y15 s15 ⊢
  have s14' := y15.get s14
  obtain ⟨qd, rfl, hqd⟩ := ird
  obtain ⟨zd, rfl, hzd⟩ := isd
  have h1314 : g13.length ≠ g14.length := by have := (List.getElem?_eq_some_iff.1 s14).1; omega
  rw [store2 s14']
  simp only [OH_some]
  have x1315 := y14.trans y15
  have t15 : (g15.set g13.length (.arr 105 [B (decide (b / (Nat.gcd a.natAbs b.natAbs : Int) < 0)), qd]))[g14.length]? = some (.arr 105 [(.bool false), (.slice none 0 0)]) := by rw [List.getElem?_set_ne h1314]; exact s15
  have t14 : (g15.set g13.length (.arr 105 [B (decide (b / (Nat.gcd a.natAbs b.natAbs : Int) < 0)), qd]))[g13.length]? = some (.arr 105 [B (decide (b / (Nat.gcd a.natAbs b.natAbs : Int) < 0)), qd]) := set_get s14'
  have hqd2 := (hqd.mono x1315).setB s14' (.arr 105 [B (decide (b / (Nat.gcd a.natAbs b.natAbs : Int) < 0)), qd])
  have xs3 : EX g13 (g15.set g13.length (.arr 105 [B (decide (b / (Nat.gcd a.natAbs b.natAbs : Int) < 0)), qd])) := x1315.set (Nat.le_refl _) _
  generalize g15.set g13.length (.arr 105 [B (decide (b / (Nat.gcd a.natAbs b.natAbs : Int) < 0)), qd]) = g16 at t15 t14 hqd2 xs3 ⊢
  rw [store2 t15]
  simp only [OH_some]
  have t14' : (g16.set g14.length (.arr 105 [B (decide ((0 : Int) < 0)), zd]))[g13.length]? = some (.arr 105 [B (decide (b / (Nat.gcd a.natAbs b.natAbs : Int) < 0)), qd]) := by rw [List.getElem?_set_ne (fun e => h1314 e.symm)]; exact t14
  have hqd3 := hqd2.setB t15 (.arr 105 [B (decide ((0 : Int) < 0)), zd])
  have h13 : g13.length ≤ g14.length := by have := (List.getElem?_eq_some_iff.1 s14).1; omega
  have xs4 : EX g13 (g16.set g14.length (.arr 105 [B (decide ((0 : Int) < 0)), zd])) := xs3.set h13 _
  generalize g16.set g14.length (.arr 105 [B (decide ((0 : Int) < 0)), zd]) = g17 at t14' hqd3 xs4 ⊢
  rw [load2 ((x13.trans xs4).get t9'), load2 t14']
  simp only [OP_some]
  have xfin := xc8.trans (xs2.trans (x13.trans xs4))
  exact endR ⟨qn, rfl, hqn3.mono (x13.trans xs4)⟩ ⟨qd, rfl, hqd3⟩ (x0.trans xfin) hlb (xfin.get p2) hk

end Go.Proofs.YtelmdbpaoifmoaaGreat


namespace Go.Proofs.YtelmdbpaoifmoaaGreat
open Go.Sim

theorem C77 {va vb : Value} {a b c d : Int} {h : Heap} {K : Value → Heap → Prop} (ha : RatV h va a b) (hb : RatV h vb c d) (la : a.natAbs < bigW) (lb : b.natAbs < bigW) (lc : c.natAbs < bigW) (ld : d.natAbs < bigW) (lad : (a * d).natAbs < bigW) (b0 : 0 < b * c) (lbc : (b * c).natAbs < 4294967296)
  (hk : ∀ r h', EX h h' → RatV h' r (a * d / (Nat.gcd (a * d).natAbs (b * c).natAbs : Int)) (b * c / (Nat.gcd (a * d).natAbs (b * c).natAbs : Int)) → K r h') : CallP Tryz.prog 77 [va, vb] h K := by
 obtain ⟨u, w, rfl, hu, hw⟩ := ha
 obtain ⟨u2, w2, rfl, hu2, hw2⟩ := hb
 refine f77 ?_
 have e1 : ∀ (g : Heap) (s t : Bool) (v w : Value), iBox 107 g (.agg #[B s, v, B t, w]) = some (pt g.length 0, g ++ [.arr 107 [B s, v, B t, w]]) := fun _ _ _ _ _ => rfl
 have e3 : ∀ (g : Heap), iAlloc 107 [(.bool false), (.slice none 0 0), (.bool false), (.slice none 0 0)] g = some (pt g.length 0, g ++ [.arr 107 z4]) := fun _ => rfl
 simp only [T77, e1, e3, OH_some]
 have q0 : EX h (h ++ [.arr 107 [B (decide (a < 0)), u, B (decide (b < 0)), w]]) := EX.append _ _
 have p0 : (h ++ [IObj.arr 107 [B (decide (a < 0)), u, B (decide (b < 0)), w]])[h.length]? = some (.arr 107 [B (decide (a < 0)), u, B (decide (b < 0)), w]) := get_last
 generalize h ++ [IObj.arr 107 [B (decide (a < 0)), u, B (decide (b < 0)), w]] = ga at q0 p0 ⊢
 have q1 : EX ga (ga ++ [.arr 107 [B (decide (c < 0)), u2, B (decide (d < 0)), w2]]) := EX.append _ _
 have p1 : (ga ++ [IObj.arr 107 [B (decide (c < 0)), u2, B (decide (d < 0)), w2]])[ga.length]? = some (.arr 107 [B (decide (c < 0)), u2, B (decide (d < 0)), w2]) := get_last
 generalize ga ++ [IObj.arr 107 [B (decide (c < 0)), u2, B (decide (d < 0)), w2]] = gb at q1 p1 ⊢
 have q2 : EX gb (gb ++ [.arr 107 z4]) := EX.append _ _
 have p2 : (gb ++ [IObj.arr 107 z4])[gb.length]? = some (.arr 107 z4) := get_last
 generalize gb ++ [IObj.arr 107 z4] = gc at q2 p2 ⊢
 have k0 := (q1.trans q2).get p0
 have k1 := q2.get p1
 have x0 := q0.trans (q1.trans q2)
 have hlb : h.length ≤ gb.length := (q0.trans q1).1
 simp only [fadr_pt, Nat.zero_add, OP_some]
 rw [load4a k0, load4b k1]
 simp only [OP_some, true_and]
 refine C107 (a := a) (b := d) ⟨u, rfl, hu.mono x0⟩ ⟨w2, rfl, hw2.mono x0⟩ la ld ?_
 intro r1 g4 x4 i1
 rw [load4b (x4.get k0), load4a (x4.get k1)]
 simp only [load4b k0, load4a k1, OP_some, true_and]
 refine C107 (a := b) (b := c) ⟨w, rfl, (hw.mono x0).mono x4⟩ ⟨u2, rfl, (hu2.mono x0).mono x4⟩ lb lc ?_
 intro r2 g5 x5 i2
 refine C106 (i1.mono x5) i2 lad b0 lbc ?_
 intro r g6 x6 ir
 have x46 := x4.trans (x5.trans x6)
 have g2 := x46.get p2
 obtain ⟨y, z, rfl, hy, hz⟩ := ir
 exact fin4 g2 (hk _ _ ((x0.trans x46).set hlb _) ⟨y, z, rfl, hy.setB g2 _, hz.setB g2 _⟩)

theorem C90q {u w : Value} {s : Bool} {b : Nat} {h : Heap} {K : Value → Heap → Prop} (hw : MagV h w b) (lb : b < bigW) (hk : ∀ h', EX h h' → K (B (decide (b = 1))) h') : CallP Tryz.prog 90 [.agg #[B s, u, B false, w]] h K := by
 by_cases h1 : b = 1
 ·subst h1
  exact C90 hw hk
 rw [decide_eq_false h1] at hk
 refine f90 ?_
 have e1 : iBox 107 h (.agg #[B s, u, B false, w]) = some (pt h.length 0, h ++ [.arr 107 [B s, u, B false, w]]) := rfl
 simp only [T90, e1, OH_some]
 have x1 : EX h (h ++ [IObj.arr 107 [B s, u, B false, w]]) := EX.append _ _
 have l3 : iLoad false 1 (h ++ [IObj.arr 107 [B s, u, B false, w]]) (pt h.length 3) = some w := load_last rfl
 obtain ⟨xs, dx, cx, vx⟩ := hw.mono x1
 simp only [fadr_pt, Nat.zero_add, OP_some, l3, dx.len, bin_eql]
 by_cases hl : xs.length = 1
 ·obtain ⟨y, rfl⟩ : ∃ y, xs = [y] := by
   match xs, hl with
   | [y], _ => exact ⟨y, rfl⟩
  have hy : y = b := by simpa [val] using vx
  subst hy
  obtain ⟨i, g1, g2⟩ := dx.get (j := 0) (by simp)
  have g1' : iAdrSl 1 w (.int .i64 (0)) = some (pt i 0) := g1
  rw [decide_eq_true (show ((([y] : List Nat).length : Nat) : Int) = 1 from rfl), q90z4]
  simp only [GdP_tt, fadr_pt, Nat.zero_add, OP_some, l3, g1', g2, List.getElem_cons_zero, bin_eql]
  rw [decide_eq_false (show ¬ ((y : Int) = 1) by omega), q90z6]
  simp only [iPick_t, OP_some]
  exact hk _ x1
 ·rw [decide_eq_false (show ¬ ((xs.length : Int) = 1) by omega), q90z4]
  simp only [GdP_ft]
  rw [q90z6]
  simp only [iPick_f, OP_some]
  exact hk _ x1

def ratS (a b : Int) : List UInt8 := if b = 1 then numS a else numS a ++ 47 :: decS b.natAbs

theorem numS_len {a : Int} (la : a.natAbs < bigW) : (numS a).length ≤ 1001 := by
 have := (decS_facts la).2.2.1
 unfold numS
 split <;> simp <;> omega

theorem C45q {va : Value} {a b : Int} {h : Heap} {K : Value → Heap → Prop} (ha : RatV h va a b) (b0 : 0 < b) (la : a.natAbs < bigW) (lb : b.natAbs < bigW) (hk : ∀ h', EX h h' → K (.tuple #[S (ratS a b), I 0]) h') : CallP Tryz.prog 45 [va] h K := by
 obtain ⟨u, w, rfl, hu, hw⟩ := ha
 have hsb : decide (b < 0) = false := decide_eq_false (by omega)
 rw [hsb]
 refine f45 ?_
 have e1 : iBox 107 h (.agg #[B (decide (a < 0)), u, B false, w]) = some (pt h.length 0, h ++ [.arr 107 [B (decide (a < 0)), u, B false, w]]) := rfl
 simp only [T45, e1, OH_some]
 have x1 : EX h (h ++ [IObj.arr 107 [B (decide (a < 0)), u, B false, w]]) := EX.append _ _
 have l1 : iLoad false 1 (h ++ [IObj.arr 107 [B (decide (a < 0)), u, B false, w]]) (pt h.length 1) = some u := load_last rfl
 have l0 : iLoad false 1 (h ++ [IObj.arr 107 [B (decide (a < 0)), u, B false, w]]) (pt h.length 0) = some (B (decide (a < 0))) := load_last rfl
 have g0 : (h ++ [IObj.arr 107 [B (decide (a < 0)), u, B false, w]])[h.length]? = some (.arr 107 [B (decide (a < 0)), u, B false, w]) := get_last
 generalize h ++ [IObj.arr 107 [B (decide (a < 0)), u, B false, w]] = h1 at x1 l1 l0 g0 ⊢
 obtain ⟨d1, d2, d3, d4, d5⟩ := decS_facts la
 obtain ⟨c1, c2, c3, c4, c5⟩ := decS_facts lb
 simp only [fadr_pt, Nat.zero_add, Nat.add_zero, OP_some, l1]
 refine C89 (hu.mono x1) la ?_
 intro h2 x2
 simp only [lenS_S, OP_some, bin_gtr, decide_eq_false (show ¬ ((decS a.natAbs).length : Int) > 4000 by omega), IfP_false, EX.load x2 l0]
 have last : p45z8 Tryz.prog K (pt h.length 0) (S (numS a)) h2 := by
  rw [q45z8, load4 (x2.get g0)]
  simp only [OP_some]
  refine C90q ((hw.mono x1).mono x2) lb ?_
  intro h3 x3
  simp only [IfP_dec]
  refine ⟨fun h9 => ?_, fun h9 => ?_⟩
  ·have e : ratS a b = numS a := by unfold ratS; rw [if_pos (by omega)]
   rw [← e]
   exact hk _ ((x1.trans x2).trans x3)
  ·have l3 : iLoad false 1 h3 (pt h.length 3) = some w := by simp [iLoad, objCells, (x2.trans x3).get g0, iPart]
   simp only [fadr_pt, Nat.zero_add, Nat.add_zero, OP_some, l3]
   refine C89 (((hw.mono x1).mono x2).mono x3) lb ?_
   intro h4 x4
   have nl := numS_len la
   have a1 : iBin .add (S (numS a)) (.string ⟨#[47]⟩) = some (S (numS a ++ [47])) := bin_addS (a := numS a) (b := [47]) (by simp [maxLen]; omega)
   have a2 : iBin .add (S (numS a ++ [47])) (S (decS b.natAbs)) = some (S (numS a ++ [47] ++ decS b.natAbs)) := bin_addS (a := numS a ++ [47]) (b := decS b.natAbs) (by simp [maxLen]; omega)
   simp only [lenS_S, OP_some, bin_gtr, decide_eq_false (show ¬ ((decS b.natAbs).length : Int) > 4000 by omega), IfP_false, a1, a2]
   have e : ratS a b = numS a ++ [47] ++ decS b.natAbs := by unfold ratS; rw [if_neg (by omega)]; simp
   rw [← e]
   exact hk _ ((x1.trans x2).trans (x3.trans x4))
 by_cases hneg : a < 0
 ·rw [decide_eq_true hneg]
  have : numS a = 45 :: decS a.natAbs := by unfold numS; rw [if_pos hneg]
  have ad : iBin .add (.string ⟨#[45]⟩) (S (decS a.natAbs)) = some (S (numS a)) := by
   rw [this]
   exact bin_addS (a := [45]) (b := decS a.natAbs) (by simp [maxLen]; omega)
  simp only [IfP_true, ad, OP_some]
  exact last
 ·rw [decide_eq_false hneg]
  have : numS a = decS a.natAbs := by unfold numS; rw [if_neg hneg]
  rw [this] at last
  simp only [IfP_false]
  exact last

end Go.Proofs.YtelmdbpaoifmoaaGreat


namespace Go.Proofs.YtelmdbpaoifmoaaGreat
open Go.Sim
variable (P : Program) (K : VK)
/-! F34: pommel/pommelref06.Sidney -/
/-! F35: pommel/pommelref01.SameLists -/
/-! F36: pommel/pommelref06.Ratio -/
/-! F49: pommel/pommelref01.Same -/
/-! F51: pommel/pommelref01.DivQ -/
/-! F52: pommel/pommelref01.SubQ -/
/-! F54: pommel/pommelref01.Over -/
/-! F91: pommel/pommelref01.Before -/
end Go.Proofs.YtelmdbpaoifmoaaGreat

namespace Go.Proofs.YtelmdbpaoifmoaaGreat
open Go.Sim

def vOf (s : List UInt8) : Nat := if digOk s = true then valB s else 0

theorem vOf_lt (s : List UInt8) : vOf s < 10 ^ s.length := by
 unfold vOf
 split
 ·rename_i h
  exact valB_lt (digOk_iff.1 h).2.2
 ·exact Nat.pow_pos (by decide)

theorem pow_four {k n : Nat} (h : k ≤ 4 * n) : 10 ^ k ≤ 10000 ^ n := by
 have e : 10 ^ (4 * n) = 10000 ^ n := by rw [Nat.pow_mul]
 rw [← e]
 exact Nat.pow_le_pow_right (by decide) h
theorem pow199_big : (10000 : Nat) ^ 199 ≤ bigW := by unfold bigW; decide +kernel
theorem two199 : (2 : Nat) < 10000 ^ 199 := by decide +kernel

theorem vOf_small {s : List UInt8} (h : s.length ≤ 700) : vOf s < 10000 ^ 199 := by
 exact Nat.lt_of_lt_of_le (vOf_lt s) (pow_four (n := 199) (by omega))

theorem MagZ.nil (h : Heap) : MagZ h (.slice none 0 0) 0 := ⟨[], .inl ⟨rfl, rfl⟩, ⟨fun y hy => by simp at hy, by simp⟩, rfl⟩

theorem C99z {s : List UInt8} {h : Heap} {K : Value → Heap → Prop}
  (hk : ∀ r h', EX h h' → ZV h' r (vOf s) → K (.tuple #[r, B (digOk s)]) h') : CallP Tryz.prog 99 [S s] h K := by
 refine C99g (fun hd r h' x z => ?_) (fun hd h' x => ?_)
 ·have := hk r h' x (by unfold vOf; rw [if_pos hd]; exact z)
  rw [hd] at this
  exact this
 ·have := hk (.agg #[B false, .slice none 0 0]) h' x (by
   unfold vOf; rw [if_neg (by rw [hd]; decide)]
   exact ⟨.slice none 0 0, rfl, MagZ.nil h'⟩)
  rw [hd] at this
  exact this


def zAgg : Value := .agg #[B false, .slice none 0 0, B false, .slice none 0 0]

theorem fail4 {g : Heap} {j : Nat} {K : Value → Heap → Prop} (hg : g[j]? = some (.arr 37 z4)) (hk : K (.tuple #[zAgg, B false]) (g.set j (.arr 37 z4))) :
  OP (iBuild [(.bool false), (.slice none 0 0), (.bool false), (.slice none 0 0)] []) fun x91 => OH (oStore 4 g (pt j 0) x91) fun _ h_1 => OP (iLoad true 4 h_1 (pt j 0)) fun r0 => K (.tuple #[r0, (.bool false)]) h_1 := by
 have e : iBuild [(.bool false), (.slice none 0 0), (.bool false), (.slice none 0 0)] [] = some zAgg := rfl
 rw [e, OP_some]
 have s := store4 (x := B false) (y := .slice none 0 0) (z := B false) (w := .slice none 0 0) hg
 have s' : oStore 4 g (pt j 0) zAgg = some (undef, g.set j (.arr 37 z4)) := s
 rw [s', OH_some]
 have l := load4 (set_get (o := .arr 37 z4) hg)
 have l' : iLoad true 4 (g.set j (.arr 37 z4)) (pt j 0) = some zAgg := l
 rw [l', OP_some]
 exact hk

theorem C67_33 {m ok : Bool} {n d : Nat} {h0 g : Heap} {i2 i8 i10 : Nat} {vn vd : Value} {K : Value → Heap → Prop} (k2 : g[i2]? = some (.arr 37 z4)) (k8 : g[i8]? = some (.arr 35 [B (decide ((n : Int) < 0)), vn])) (mn : MagZ g vn n)
  (k10 : g[i10]? = some (.arr 35 [B (decide ((d : Int) < 0)), vd])) (md : MagZ g vd d) (b2 : h0.length ≤ i2) (b8 : h0.length ≤ i8) (n28 : i2 ≠ i8) (n810 : i8 ≠ i10) (x : EX h0 g)
  (hk : ok = true → (m = true → n ≠ 0) → ∀ r h', EX h0 h' → QZ h' r (if m then -(n : Int) else n) d → K (.tuple #[r, B true]) h')
  (hk0 : (ok = false ∨ m = true ∧ n = 0) → ∀ h', EX h0 h' → K (.tuple #[zAgg, B false]) h') : p67z33 Tryz.prog K (pt i2 0) (B m) (pt i8 0) (B ok) (pt i10 0) g := by
 have bad : (ok = false ∨ m = true ∧ n = 0) → ∀ t u, iPick t (.bool true) u = some (B true) → p67z43 Tryz.prog K (pt i2 0) (B m) (pt i8 0) (pt i10 0) t u g := by
  intro hb t u ht
  rw [q67z43, ht]
  simp only [OP_some, IfP_true]
  exact fail4 k2 (hk0 hb _ (x.set b2 _))
 have good : ok = true → (m = true → n ≠ 0) → p67z43 Tryz.prog K (pt i2 0) (B m) (pt i8 0) (pt i10 0) (B false) (B false) g := by
  intro ho hm
  have hk := hk ho hm
  rw [q67z43]
  simp only [iPick_f, OP_some]
  cases m with
  | false =>
   simp only [IfP_false]
   rw [q67z47, load2 k8, OP_some, load2 k10, OP_some]
   exact endQ (K := fun v h => K (.tuple #[v, B true]) h) ⟨vn, rfl, mn⟩ ⟨vd, rfl, md⟩ x b2 k2 hk
  | true =>
   simp only [IfP_false, IfP_true]
   rw [load2 k8, OP_some]
   refine C95 (a := n) ⟨vn, rfl, mn⟩ ?_
   intro r7 h7 x7 z7
   obtain ⟨v7, rfl, hv7⟩ := id z7
   have g7 := x7.get k8
   rw [store2 g7]
   simp only [OH_some]
   have k10' : (h7.set i8 (.arr 35 [B (decide (-(n : Int) < 0)), v7]))[i10]? = some (.arr 35 [B (decide ((d : Int) < 0)), vd]) := by
    rw [List.getElem?_set_ne n810]; exact x7.get k10
   rw [q67z47, load2 (set_get g7), OP_some, load2 k10', OP_some]
   refine endQ (K := fun v h => K (.tuple #[v, B true]) h) (z7.setB g7 _) ⟨vd, rfl, ?_⟩ ((x.trans x7).set b8 _) b2 (by rw [List.getElem?_set_ne n28.symm]; exact x7.get k2) hk
   exact MagZ.setB (md.mono x7) g7 _
 have n1 : iUn .not (B ok) = some (B (!ok)) := rfl
 rw [q67z33, n1, OP_some, q67z37]
 cases ok with
 | false =>
  simp only [Bool.not_false, GdP_tf, q67z39, GdP_undef, q67z41]
  exact bad (.inl rfl) _ _ rfl
 | true =>
  simp only [Bool.not_true, GdP_ff, q67z39]
  cases m with
  | false =>
   simp only [GdP_ft, q67z41, GdP_ff, iPick_f, OP_some]
   exact good rfl (fun h => by cases h)
  | true =>
   obtain ⟨l, p1, p2⟩ := mn.len0
   have ld : iLoad false 1 g (pt i8 1) = some vn := by simp [iLoad, objCells, k8, iPart]
   simp only [GdP_tt, fadr_pt, Nat.zero_add, OP_some, ld, p1, bin_eql, q67z41, GdP_ff, iPick_t]
   by_cases hn : n = 0
   ·rw [decide_eq_true (show (l : Int) = 0 by omega)]
    exact bad (.inr ⟨rfl, hn⟩) _ _ rfl
   ·rw [decide_eq_false (show ¬ (l : Int) = 0 by omega)]
    exact good rfl (fun _ => hn)

def overT (t : List UInt8) : List UInt8 := t.take (t.idxOf 47)
def underT (t : List UInt8) : List UInt8 := t.drop (t.idxOf 47 + 1)
def hasSl (t : List UInt8) : Bool := decide (t.idxOf 47 < t.length)
def denOk (t : List UInt8) : Bool := !hasSl t || (digOk (underT t) && (decide (2 ≤ vOf (underT t)) && decide (Nat.gcd (vOf (overT t)) (vOf (underT t)) = 1)))
def denT (t : List UInt8) : Nat := if hasSl t = true then vOf (underT t) else 1
def parseT (m : Bool) (t : List UInt8) : Option (Int × Nat) :=
 if denOk t = true ∧ digOk (overT t) = true ∧ (m = true → vOf (overT t) ≠ 0) then some (if m then -(vOf (overT t) : Int) else vOf (overT t), denT t) else none
def parseQ (s : List UInt8) : Option (Int × Nat) := if s.head? = some 45 then parseT true s.tail else parseT false s

theorem idxOf_drop (s : List UInt8) : ∀ {i : Nat}, i < s.length → (s.drop i).idxOf 47 = if s[i]! = 47 then 0 else (s.drop (i + 1)).idxOf 47 + 1 := by
 intro i hi
 rw [List.drop_eq_getElem_cons hi, List.idxOf_cons]
 have : s[i]! = s[i] := by simp [hi]
 rw [this]
 by_cases h : s[i] = 47
 ·simp [h]
 ·have h' : (s[i] == 47) = false := beq_eq_false_iff_ne.2 h
  rw [h']; simp [h]

theorem C67_12 {s : List UInt8} {m : Bool} {h : Heap} {j : Nat} {K : Value → Heap → Prop} {h0 : Heap} (hl : s.length ≤ 700) (x0 : EX h0 h) (hj : h0.length ≤ j) (hg : h[j]? = some (.arr 37 z4))
  (hk : ∀ n d, parseT m s = some (n, d) → ∀ r h', EX h0 h' → QZ h' r n d → K (.tuple #[r, B true]) h')
  (hk0 : parseT m s = none → ∀ h', EX h0 h' → K (.tuple #[zAgg, B false]) h') : p67z12 Tryz.prog K (pt j 0) (S s) (B m) h := by
 rw [q67z12]
 have e1 : IntKind.wrap .i64 ((s.length : Int) - 1) = (s.length : Int) - 1 := wrap64 (by omega) (by omega)
 simp only [lenS_S, OP_some, bin_sub, e1]
 refine loopL (σ := Nat) (fun p => [I ((p + (s.drop p).idxOf 47 : Nat) : Int), I ((p : Int) - 1)]) (fun _ => h) (fun p => p ≤ s.length) (fun p => p)
  s.length (by simp) rfl (Nat.le_refl _) ?_
 intro i hi L hL
 rw [q67z17]
 simp only [bin_geq, OP_some, IfP_dec]
 refine ⟨fun hge => ?_, fun hlt => ?_⟩
 ·obtain ⟨p, rfl⟩ : ∃ p, i = p + 1 := ⟨i - 1, by omega⟩
  have hp : p < s.length := by omega
  have ei : ((p + 1 : Nat) : Int) - 1 = (p : Int) := by omega
  have ix := idxS_S (a := s) (i := p) hp .i64
  have e5 : iBin .eql (cv s[p]) (.int .u8 47) = some (B (decide ((s[p].toNat : Int) = 47))) := rfl
  have e2 : IntKind.wrap .i64 ((p : Int) - 1) = (p : Int) - 1 := wrap64 (by omega) (by omega)
  have nx := hL p (by omega) (by omega)
  rw [idxOf_drop s hp] at nx
  have e6 : s[p]! = s[p] := by simp [hp]
  rw [e6] at nx
  rw [ei]
  simp only [ix, OP_some, e5, q67z23, bin_sub, e2, true_and]
  have e7 : (decide ((s[p].toNat : Int) = 47)) = decide (s[p] = 47) := by
   rw [decide_eq_decide]
   constructor
   ·intro h; apply UInt8.toNat_inj.1; show s[p].toNat = 47; omega
   ·intro h; rw [h]; rfl
  rw [e7, IfP_dec]
  refine ⟨fun h => ?_, fun h => ?_⟩
  ·rw [if_pos h] at nx; simpa using nx
  ·rw [if_neg h] at nx
   have : p + ((s.drop (p + 1)).idxOf 47 + 1) = p + 1 + (s.drop (p + 1)).idxOf 47 := by omega
   rw [this] at nx; exact nx
 ·have h0' : i = 0 := by omega
  subst h0'
  simp only [List.drop_zero, Nat.zero_add]
  have hkl : s.idxOf 47 ≤ s.length := List.idxOf_le_length
  rw [q67z24]
  have sl1 := slS_hi (a := s) (n := s.idxOf 47) hkl .i64
  simp only [sl1, OP_some]
  have lo : (overT s).length ≤ 700 := by unfold overT; rw [List.length_take]; omega
  have lu : (underT s).length ≤ 700 := by unfold underT; rw [List.length_drop]; omega
  refine C99z ?_
  intro r h1 x1 z1
  show OP _ _
  have fo : s.take (s.idxOf 47) = overT s := rfl
  rw [fo] at z1
  obtain ⟨v, rfl, hv⟩ := id z1
  rw [Int.natAbs_natCast] at hv
  simp only [ext_tuple, pair0, pair1, OP_some, fo]
  have e2 : ∀ g : Heap, iAlloc 35 [(.bool false), (.slice none 0 0)] g = some (pt g.length 0, g ++ [.arr 35 [(.bool false), (.slice none 0 0)]]) := fun _ => rfl
  simp only [e2, OH_some]
  rw [store2 get_last]
  simp only [OH_some]
  have x2 : EX h1 ((h1 ++ [IObj.arr 35 [(.bool false), (.slice none 0 0)]]).set h1.length (.arr 35 [B (decide ((vOf (overT s) : Int) < 0)), v])) := EX.set (EX.append _ _) (Nat.le_refl _) _
  have g3 : ((h1 ++ [IObj.arr 35 [(.bool false), (.slice none 0 0)]]).set h1.length (.arr 35 [B (decide ((vOf (overT s) : Int) < 0)), v]))[h1.length]? = some (.arr 35 [B (decide ((vOf (overT s) : Int) < 0)), v]) := set_get get_last
  generalize (h1 ++ [IObj.arr 35 [(.bool false), (.slice none 0 0)]]).set h1.length (.arr 35 [B (decide ((vOf (overT s) : Int) < 0)), v]) = h3 at x2 g3 ⊢
  have hjl := (List.getElem?_eq_some_iff.1 hg).1
  have hj1 : j < h1.length := by have := x1.1; omega
  have hx0 := x0.1
  refine C55 (z := ((1 : Nat) : Int)) (by decide) ?_
  intro r4 h4 x4 z4'
  obtain ⟨w, rfl, hw⟩ := id z4'
  rw [Int.natAbs_natCast] at hw
  rw [store2 get_last]
  simp only [OH_some]
  have x5 : EX h4 ((h4 ++ [IObj.arr 35 [(.bool false), (.slice none 0 0)]]).set h4.length (.arr 35 [B (decide (((1 : Nat) : Int) < 0)), w])) := EX.set (EX.append _ _) (Nat.le_refl _) _
  have g5 : ((h4 ++ [IObj.arr 35 [(.bool false), (.slice none 0 0)]]).set h4.length (.arr 35 [B (decide (((1 : Nat) : Int) < 0)), w]))[h4.length]? = some (.arr 35 [B (decide (((1 : Nat) : Int) < 0)), w]) := set_get get_last
  generalize (h4 ++ [IObj.arr 35 [(.bool false), (.slice none 0 0)]]).set h4.length (.arr 35 [B (decide (((1 : Nat) : Int) < 0)), w]) = h5 at x5 g5 ⊢
  have hh1 : h1.length < h4.length := by
   have := x4.1
   have := (List.getElem?_eq_some_iff.1 g3).1
   omega
  have x15 := (x2.trans x4).trans x5
  have g3' := (x4.trans x5).get g3
  have hgj := (x1.trans x15).get hg
  have xA : EX h0 h5 := x0.trans (x1.trans x15)
  have mn := hv.mono x15
  have md := hw.mono x5
  have h45 : h4.length < h5.length := (List.getElem?_eq_some_iff.1 g5).1
  simp only [lenS_S, OP_some, bin_lss, IfP_dec]
  refine ⟨fun hlt => ?_, fun hge => ?_⟩
  rotate_left
  ·have hns : hasSl s = false := by unfold hasSl; exact decide_eq_false (by omega)
   have hdt : denT s = 1 := by unfold denT; rw [if_neg (by rw [hns]; decide)]
   have hdo : denOk s = true := by unfold denOk; rw [hns]; rfl
   refine C67_33 (h0 := h0) hgj g3' mn g5 md hj (by omega) (by omega) (by omega) xA (fun a b => ?_) (fun a => ?_)
   ·rw [← hdt]
    exact hk _ _ (if_pos ⟨hdo, a, b⟩)
   ·refine hk0 (if_neg ?_)
    rintro ⟨_, b1, b2⟩
    rcases a with a | ⟨a1, a2⟩
    ·rw [a] at b1; cases b1
    ·exact b2 a1 a2
  have hsl : hasSl s = true := decide_eq_true (by omega)
  have hdt : denT s = vOf (underT s) := by unfold denT; rw [if_pos hsl]
  have hdo : denOk s = (digOk (underT s) && (decide (2 ≤ vOf (underT s)) && decide (Nat.gcd (vOf (overT s)) (vOf (underT s)) = 1))) := by unfold denOk; rw [hsl]; rfl
  have sl2 := slS_lo (a := s) (n := s.idxOf 47 + 1) (by omega) .i64
  have fu : s.drop (s.idxOf 47 + 1) = underT s := rfl
  have wi : IntKind.wrap .i64 ((s.idxOf 47 : Nat) + 1 : Int) = ((s.idxOf 47 + 1 : Nat) : Int) := by rw [wrap64 (by omega) (by omega)]; omega
  simp only [bin_add, wi, OP_some, sl2, fu]
  refine C99z ?_
  intro r6 h6 x6 z6
  obtain ⟨v6, rfl, hv6⟩ := id z6
  rw [Int.natAbs_natCast] at hv6
  simp only [ext_tuple, pair0, pair1, OP_some, e2, OH_some]
  rw [store2 get_last]
  simp only [OH_some]
  have x7 : EX h6 ((h6 ++ [IObj.arr 35 [(.bool false), (.slice none 0 0)]]).set h6.length (.arr 35 [B (decide ((vOf (underT s) : Int) < 0)), v6])) := EX.set (EX.append _ _) (Nat.le_refl _) _
  have g7 : ((h6 ++ [IObj.arr 35 [(.bool false), (.slice none 0 0)]]).set h6.length (.arr 35 [B (decide ((vOf (underT s) : Int) < 0)), v6]))[h6.length]? = some (.arr 35 [B (decide ((vOf (underT s) : Int) < 0)), v6]) := set_get get_last
  generalize (h6 ++ [IObj.arr 35 [(.bool false), (.slice none 0 0)]]).set h6.length (.arr 35 [B (decide ((vOf (underT s) : Int) < 0)), v6]) = h7 at x7 g7 ⊢
  have x57 := x6.trans x7
  have nn : iUn .not (B (digOk (underT s))) = some (B (!digOk (underT s))) := rfl
  have bad : ∀ {g : Heap}, EX h7 g → denOk s = false → (OP (iBuild [(.bool false), (.slice none 0 0), (.bool false), (.slice none 0 0)] []) fun x91 => OH (oStore 4 g (pt j 0) x91) fun _ h_1 => OP (iLoad true 4 h_1 (pt j 0)) fun r0 => K (.tuple #[r0, (.bool false)]) h_1) := by
   intro g xg hd
   refine fail4 ((x57.trans xg).get hgj) (hk0 (if_neg ?_) _ ((xA.trans (x57.trans xg)).set hj _))
   rintro ⟨b, _⟩
   rw [hd] at b; cases b
  simp only [nn, OP_some]
  cases hdu : digOk (underT s) with
  | false =>
   rw [hdu] at hdo
   simp only [Bool.not_false, GdP_tf, true_and, iPick_t, OP_some, IfP_true]
   exact bad (EX.refl _) (by rw [hdo]; rfl)
  | true =>
   rw [hdu, Bool.true_and] at hdo
   have zu : ZV h7 (.agg #[B (decide ((vOf (underT s) : Int) < 0)), v6]) (vOf (underT s)) := z6.mono x7
   have zo : ZV h7 (.agg #[B (decide ((vOf (overT s) : Int) < 0)), v]) (vOf (overT s)) := ⟨v, rfl, by rw [Int.natAbs_natCast]; exact mn.mono x57⟩
   have small := vOf_small lu
   have smallo := vOf_small lo
   have hbig : (10000 : Nat) ^ 199 ≤ bigW := pow199_big
   simp only [Bool.not_true, GdP_ff, load2 g7, OP_some, true_and]
   refine C55 (z := 2) (by decide) ?_
   intro r8 h8 x8 z8
   simp only [(x8.load (load2 g7)), true_and]
   refine C72 (zu.mono x8) z8 (by rw [Int.natAbs_natCast]; omega) (by have : (2 : Nat) < 10000 ^ 199 := two199; show 2 < bigW; omega) ?_
   intro h9 x9
   have x79 := x8.trans x9
   simp only [true_and, bin_lss, OP_some, iPick_f]
   by_cases h2 : vOf (underT s) < 2
   ·have en : isgn ((vOf (underT s) : Int) - 2) = -1 := by unfold isgn; rw [if_neg (by omega), if_pos (by omega)]
    rw [en]
    simp only [show decide ((-1 : Int) < 0) = true from rfl, GdP_tf, true_and, iPick_t, OP_some, IfP_true]
    refine bad x79 ?_
    rw [hdo, decide_eq_false (by omega)]; rfl
   ·have en : 0 ≤ isgn ((vOf (underT s) : Int) - 2) := by
     unfold isgn
     split
     ·decide
     ·rw [if_neg (by omega)]; decide
    rw [decide_eq_false (show ¬ isgn ((vOf (underT s) : Int) - 2) < 0 by omega)]
    rw [decide_eq_true (show 2 ≤ vOf (underT s) by omega), Bool.true_and] at hdo
    have l8 : iLoad true 2 h9 (pt h1.length 0) = some (.agg #[B (decide ((vOf (overT s) : Int) < 0)), v]) := load2 ((x57.trans x79).get g3')
    have l9 : iLoad true 2 h9 (pt h6.length 0) = some (.agg #[B (decide ((vOf (underT s) : Int) < 0)), v6]) := load2 (x79.get g7)
    simp only [GdP_ff, l8, l9, OP_some, true_and]
    refine C68 (zo.mono x79) (zu.mono x79) (by rw [Int.natAbs_natCast]; exact smallo) (by rw [Int.natAbs_natCast]; exact small) ?_
    intro u h10 x10 mu
    simp only [Int.natAbs_natCast] at mu
    have hgle : Nat.gcd (vOf (overT s)) (vOf (underT s)) ≤ vOf (underT s) := Nat.gcd_le_right _ (by omega)
    have zg : ZV h10 (.agg #[B false, u]) (Nat.gcd (vOf (overT s)) (vOf (underT s)) : Nat) := ⟨u, by rw [decide_eq_false (by omega)], by rw [Int.natAbs_natCast]; exact mu⟩
    refine C55 (z := 1) (by decide) ?_
    intro r11 h11 x11 z11
    refine C72 (zg.mono x11) z11 (by rw [Int.natAbs_natCast]; omega) (by have : (2 : Nat) < 10000 ^ 199 := two199; show 1 < bigW; omega) ?_
    intro h12 x12
    have x712 := x79.trans (x10.trans (x11.trans x12))
    simp only [true_and, bin_neq, OP_some, iPick_f]
    by_cases hg1 : Nat.gcd (vOf (overT s)) (vOf (underT s)) = 1
    ·have en : isgn ((Nat.gcd (vOf (overT s)) (vOf (underT s)) : Nat) - 1 : Int) = 0 := by unfold isgn; rw [if_pos (by omega)]
     rw [decide_eq_true hg1] at hdo
     rw [en]
     have l12 : iLoad true 2 h12 (pt h6.length 0) = some (.agg #[B (decide ((vOf (underT s) : Int) < 0)), v6]) := load2 (x712.get g7)
     simp only [decide_true, Bool.not_true, IfP_false, l12, OP_some]
     have x512 := x57.trans x712
     have g5' := x512.get g5
     rw [store2 g5']
     simp only [OH_some]
     refine C67_33 (h0 := h0) (i2 := j) (i8 := h1.length) (i10 := h4.length) (n := vOf (overT s)) (d := vOf (underT s)) (vn := v) (vd := v6) ?_ ?_ ?_ (set_get g5') ?_ hj (by omega) (by omega) (by omega) ?_ (fun a b => ?_) (fun a => ?_)
     ·rw [List.getElem?_set_ne (by omega)]; exact x512.get hgj
     ·rw [List.getElem?_set_ne (by omega)]; exact x512.get g3'
     ·exact MagZ.setB (mn.mono x512) g5' _
     ·exact MagZ.setB (hv6.mono (x7.trans x712)) g5' _
     ·exact (xA.trans x512).set (by omega) _
     ·rw [← hdt]
      exact hk _ _ (if_pos ⟨hdo, a, b⟩)
     ·refine hk0 (if_neg ?_)
      rintro ⟨_, b1, b2⟩
      rcases a with a | ⟨a1, a2⟩
      ·rw [a] at b1; cases b1
      ·exact b2 a1 a2
    ·have en : isgn ((Nat.gcd (vOf (overT s)) (vOf (underT s)) : Nat) - 1 : Int) ≠ 0 := by
      unfold isgn; rw [if_neg (by omega)]; split <;> decide
     rw [decide_eq_false hg1] at hdo
     rw [decide_eq_false en]
     simp only [Bool.not_false, IfP_true]
     exact bad x712 hdo

end Go.Proofs.YtelmdbpaoifmoaaGreat


namespace Go.Proofs.YtelmdbpaoifmoaaGreat
open Go.Sim
variable (P : Program) (K : VK)
/-! F24: pommel/pommelref01.Valid -/
noncomputable def oc24 := compFn Tryz.prog 24 [[], [], []]
@[irreducible] noncomputable def c24 : ICode := icOf oc24
theorem k24 : oc24 = some (11, c24, [.tmp 2]) := by kernel_rfl
def T24 (x0 : Value) (h : Heap) : Prop :=
 CallP P 67 [x0] h fun x7 h_1 =>
 OP (iExt 0 x7) fun x8 =>
 OP (iExt 1 x7) fun x9 =>
 OH (iAlloc 37 [(.bool false), (.slice none 0 0), (.bool false), (.slice none 0 0)] h_1) fun x3 h_2 =>
 OH (oStore 4 h_2 x3 x8) fun _ h_3 =>
 K x9 h_3
theorem e24 (x0 : Value) (h : Heap) : iwpP P c24 (bodyP [.tmp 2] K) (frame0 [x0]) h = T24 P K x0 h := by kernel_rfl
theorem f24 {K : VK} {x0 : Value} {h : Heap} (H : T24 Tryz.prog K x0 h) : CallP Tryz.prog 24 [x0] h K :=
 callP_intro k24 (Nat.le_of_ble_eq_true rfl) ((e24 Tryz.prog K x0 h).mpr H)
end Go.Proofs.YtelmdbpaoifmoaaGreat

namespace Go.Proofs.YtelmdbpaoifmoaaGreat
open Go.Sim
variable (P : Program) (K : VK)
/-! F38: pommel/pommelref01.Nums -/
noncomputable def oc38 := compFn Tryz.prog 38 [[], [], [0], [3], [], [], [], [], [], [], []]
@[irreducible] noncomputable def c38 : ICode := icOf oc38
@[irreducible] noncomputable def c38z5 : ICode := c38.r.l.r.l.l
@[irreducible] noncomputable def c38z2 : ICode := c38.r.r
theorem k38 : oc38 = some (16, c38, [.tmp 2]) := by kernel_rfl
def K38z0 (_P : Program) (K : VK) : Kont := bodyP [.tmp 2] K
def K38z2 : Kont := thenK (iwpP P c38z2 (K38z0 P K)) (K38z0 P K)
def K38z4 : Kont := inBlockK 0 (K38z2 P K)
def K38z5 (l0 : Value) (L1 : LK) : Kont := thenK (fun f' h'' => (([0] : List Nat).map f' : List Value) = [l0] ∧ L1 (([3] : List Nat).map f') h'') (K38z4 P K)
def p38z5 (l0 : Value) (L1 : LK) (xs : List Value) (h : Heap) : Prop := CutP (iwpP P c38z5 (K38z5 P K l0 L1)) ([0] ++ [3]) ([l0] ++ xs) h
theorem q38z5 (l0 : Value) (L1 : LK) (i3 : Value) (h : Heap) : p38z5 P K l0 L1 [i3] h =
 (OP (iLenSl l0) fun x6 =>
 OP (iBin .lss i3 x6) fun x7 =>
 IfP x7
 (OP (iAdrSl 1 l0 i3) fun x12 =>
 OP (iLoad false 1 h x12) fun x13 =>
 CallP P 24 [x13] h fun x14 h_1 =>
 OP (iUn .not x14) fun x15 =>
 IfP x15
 (K (.int .i64 (2)) h_1)
 (OP (iBin .add i3 (.int .i64 (1))) fun x9 =>
 ([l0] : List Value) = [l0] ∧ L1 [x9] h_1))
 (K (.int .i64 (0)) h)) := (CutP_def _ _ _ _).trans (by kernel_rfl)
def T38 (l0 : Value) (h : Heap) : Prop :=
 LoopP [(.int .i64 (0))] h fun L1 xs hx =>
 p38z5 P K l0 L1 xs hx
theorem e38 (l0 : Value) (h : Heap) : iwpP P c38 (bodyP [.tmp 2] K) (frame0 [l0]) h = T38 P K l0 h := by kernel_rfl
theorem f38 {K : VK} {l0 : Value} {h : Heap} (H : T38 Tryz.prog K l0 h) : CallP Tryz.prog 38 [l0] h K :=
 callP_intro k38 (Nat.le_of_ble_eq_true rfl) ((e38 Tryz.prog K l0 h).mpr H)
end Go.Proofs.YtelmdbpaoifmoaaGreat

namespace Go.Proofs.YtelmdbpaoifmoaaGreat
open Go.Sim

def cut (most n : Nat) : Nat := min n (if 10 < n then 11 else most)

end Go.Proofs.YtelmdbpaoifmoaaGreat


namespace Go.Proofs.YtelmdbpaoifmoaaGreat
open Go.Sim


structure LL (h : Heap) (v : Value) (ll : List (List Nat)) : Prop where
 len : iLenSl v = some (I ll.length)
 get : ∀ i (hi : i < ll.length), ∃ b o w, iAdrSl 1 v (I i) = some (pt b o) ∧ iLoad false 1 h (pt b o) = some w ∧ NS h w .i64 (ll[i].map fun i : Nat => (i : Int))

theorem LL.mono {h h' : Heap} {v : Value} {ll : List (List Nat)} (x : EX h h') (p : LL h v ll) : LL h' v ll :=
 ⟨p.len, fun i hi => let ⟨b, o, w, a, c, d⟩ := p.get i hi; ⟨b, o, w, a, EX.load x c, d.mono x⟩⟩

def isSl : Value → Bool
 | .slice _ _ _ => true
 | _ => false

structure OL (b : Nat) (g : Heap) (v : Value) (ws : List Value) (ll : List (List Nat)) : Prop where
 own : OwnS b g 33 v ws
 len : ws.length = ll.length
 sls : ∀ w ∈ ws, isSl w = true
 get : ∀ (i : Nat) (w : Value) (l : List Nat), ws[i]? = some w → ll[i]? = some l → NS g w .i64 (l.map fun i : Nat => (i : Int))

theorem NS.keepN {g g' : Heap} {w : Value} {ns : List Int} (p : NS g w .i64 ns) (hk : ∀ b, b < g.length → (∃ o n, iLoad false 1 g (pt b o) = some (I n)) → g'[b]? = g[b]?) : NS g' w .i64 ns := by
 refine ⟨p.len, fun i hi => ?_, p.le⟩
 obtain ⟨b, o, h1, h2⟩ := p.get i hi
 have hb : b < g.length := by
  apply Classical.byContradiction
  intro hge
  simp only [iLoad, pt] at h2
  rw [objCells, List.getElem?_eq_none (by omega)] at h2
  cases h2
 refine ⟨b, o, h1, ?_⟩
 have := hk b hb ⟨o, _, h2⟩
 simp only [iLoad, pt, objCells, this] at h2 ⊢
 exact h2

theorem OL.keep {b : Nat} {g g' : Heap} {v w : Value} {ws : List Value} {ll : List (List Nat)} {ns : List Int} (o : OL b g v ws ll) (p : NS g w .i64 ns) (hold : ∀ d, d < g.length → (∀ n, v ≠ sl 33 d 0 n) → g'[d]? = g[d]?) : NS g' w .i64 ns := by
 refine NS.keepN p fun d hd ⟨o', n, hl⟩ => hold d hd fun m hv => ?_
 obtain ⟨_, _, h3⟩ := o.own.lt hv
 simp only [iLoad, pt, objCells, h3, Option.bind_some, iPart, Bool.false_eq_true, if_false] at hl
 have := o.sls _ (List.mem_of_getElem? hl)
 cases this

theorem OL.app {h0 hx : Heap} {v w : Value} {ws : List Value} {ll : List (List Nat)} {l : List Nat} {K : Value → Heap → Prop} (o : OL h0.length hx v ws ll) (hex : EX h0 hx) (hw : NS hx w .i64 (l.map fun i : Nat => (i : Int))) (hl : ws.length ≤ 1000)
  (hk : ∀ v' hx', EX h0 hx' → OL h0.length hx' v' (ws ++ [w]) (ll ++ [l]) → K v' hx') : OH (iMkSl 33 1 [(.slice none 0 0)] hx [(0, 1, w)]) fun a h2 => OH (iApp 33 1 24 h2 v a) K := by
 obtain ⟨t1, t2⟩ := slice_of_len hw.len
 have hsl : isSl w = true := by
  have := hw.len
  unfold iLenSl at this
  split at this
  ·rfl
  ·cases this
 refine app1p o.own (by omega) (by simp [maxLen]; omega) t1 t2 ?_
 intro w1 hx' _ hlen hold hnew
 simp only [OH_some]
 have key : ∀ {w' : Value} {ns : List Int}, NS hx w' .i64 ns → NS hx' w' .i64 ns := fun p => o.keep p hold
 refine hk _ _ ⟨by have := hex.1; omega, fun d hd => ?_⟩ ⟨.inr ⟨hx.length + 1, by have := hex.1; omega, by simp, hnew⟩, by simp [o.len], fun x hx => ?_, fun i x y hx hy => ?_⟩
 ·rw [hold d (by have := hex.1; omega) fun n hv => ?_]
  ·exact hex.2 d hd
  ·have := (o.own.lt hv).1
   omega
 ·rcases List.mem_append.1 hx with hx | hx
  ·exact o.sls x hx
  ·rw [List.mem_singleton.1 hx]; exact hsl
 ·by_cases hi : i < ws.length
  ·rw [List.getElem?_append_left hi] at hx
   rw [List.getElem?_append_left (by rw [← o.len]; exact hi)] at hy
   exact key (o.get i x y hx hy)
  ·rw [List.getElem?_append_right (by omega)] at hx
   rw [List.getElem?_append_right (by rw [← o.len]; omega), ← o.len] at hy
   have h0 : i - ws.length = 0 := by
    have := (List.getElem?_eq_some_iff.1 hx).1
    simp at this; omega
   rw [h0] at hx hy
   simp only [List.getElem?_cons_zero, Option.some.injEq] at hx hy
   subst hx hy
   exact key hw

theorem OL.ll {b : Nat} {g : Heap} {v : Value} {ws : List Value} {ll : List (List Nat)} (o : OL b g v ws ll) : LL g v ll := by
 rcases o.own with ⟨rfl, h2⟩ | ⟨i, _, rfl, h3⟩
 ·have hl := o.len
  rw [h2] at hl
  have : ll = [] := List.length_eq_zero_iff.1 hl.symm
  subst this
  exact ⟨rfl, fun i hi => by simp at hi⟩
 ·refine ⟨by rw [← o.len]; rfl, fun j hj => ?_⟩
  have hjw : j < ws.length := by rw [o.len]; exact hj
  refine ⟨i, j, ws[j], adr_sl hjw, ?_, o.get j _ _ (List.getElem?_eq_getElem hjw) (List.getElem?_eq_getElem hj)⟩
  simp [iLoad, objCells, h3, iPart, hjw]

theorem OL.start (b : Nat) (g : Heap) : OL b g (.slice none 0 0) [] [] := ⟨.inl ⟨rfl, rfl⟩, rfl, fun w hw => by simp at hw, fun i w l h => by simp at h⟩

theorem C31 {vj vp : Value} {js ps : List (Int × Int)} {h : Heap} {K : Value → Heap → Prop} (hj : PS h vj js) (hp : PS h vp ps) (hjl : js.length ≤ 1000) (hpl : ps.length ≤ 1000)
  (hk0 : validB js ps = false → ∀ h', EX h h' → K (.tuple #[.slice none 0 0, I 1]) h')
  (hk : validB js ps = true → ∀ os v h', EX h h' → SidP (bsOf ps js.length) js js.length 0 os → LL h' v (os.map fun s => listS s 10) → K (.tuple #[v, I 0]) h') : CallP Tryz.prog 31 [vj, vp] h K := by
 refine f31 (C59v hj hp hjl hpl (fun hv p g xg => ?_) (fun v hv p g xg hplan => ?_))
 ·simp only [ext_tuple, pair0, pair1, OP_some, un_not, Bool.not_false, IfP_true]
  exact hk0 hv g xg
 have hk := hk hv
 have two := v.two
 obtain ⟨os, hos⟩ := SidP.ex (bs := bsOf ps js.length) (js := js) (v.small.pos rfl) v.n10 v.is.lt (fullS js.length) 0 (Nat.pow_pos (by decide)) (by omega)
 have hlt := SidP.lt (Nat.pow_pos (by decide)) hos
 have hosl : os.length ≤ 1024 := by
  have key : ∀ {l : List Nat} {d : Nat}, d < 2 ^ js.length → SidP (bsOf ps js.length) js js.length d l → d + l.length ≤ fullS js.length := by
   intro l
   induction l with
   | nil => intro d _ h; have h' : d = fullS js.length := h; simp; omega
   | cons b l ih =>
    intro d hd h
    obtain ⟨h1, h2, _⟩ := h.1.step hd
    have := ih h2 h.2
    simp only [List.length_cons]
    omega
  have := key (Nat.pow_pos (by decide)) hos
  unfold fullS at this
  omega
 simp only [ext_tuple, pair0, pair1, OP_some, un_not, Bool.not_true, IfP_false]
 refine C73 (os := os) hplan rfl v.n1 v.n10 v.small v.is.len v.is.lt hos ?_
 have ls : iLenSl (sl 131 g.length 0 os.length) = some (I os.length) := rfl
 simp only [ls, OP_some]
 have x1 : EX g (g ++ [.arr 131 (os.map fun b : Nat => U b)]) := EX.append _ _
 have k1 : (g ++ [IObj.arr 131 (os.map fun b : Nat => U b)])[g.length]? = some (.arr 131 (os.map fun b : Nat => U b)) := get_last
 generalize g ++ [IObj.arr 131 (os.map fun b : Nat => U b)] = g1 at x1 k1 ⊢
 refine loopL (σ := Nat × Value × List Value × Heap) (fun q => [q.2.1, I q.1]) (fun q => q.2.2.2) (fun q => q.1 ≤ os.length ∧ EX g1 q.2.2.2 ∧ OL g1.length q.2.2.2 q.2.1 q.2.2.1 ((os.take q.1).map fun s => listS s 10)) (fun q => os.length - q.1)
  (0, .slice none 0 0, [], g1) rfl rfl ⟨Nat.zero_le _, EX.refl _, by simpa using OL.start g1.length g1⟩ ?_
 rintro ⟨i, vo, ws, g2⟩ ⟨hi, x2, hol⟩ L hL
 simp only at hi x2 hol hL ⊢
 rw [q31z10]
 simp only [bin_lss, OP_some, IfP_dec]
 refine ⟨fun hlt2 => ?_, fun hge => ?_⟩
 ·have hil : i < os.length := by omega
  have ld : iLoad false 1 g2 (pt g.length i) = some (U os[i]) := by
   simp [iLoad, objCells, x2.get k1, iPart, hil]
  have hos1 : os[i] < 1024 := by have := hlt _ (List.getElem_mem hil); omega
  simp only [adr_sl hil, OP_some, ld]
  refine C74 hos1 ?_
  intro w g3 x3 hw
  have hol3 : OL g1.length g3 vo ws ((os.take i).map fun s => listS s 10) := ⟨OwnS.keep hol.own fun d n hv hd => x3.2 d (hol.own.lt hv).2.1, hol.len, hol.sls, fun j x y hx hy => (hol.get j x y hx hy).mono x3⟩
  have hwl : ws.length ≤ 1000 ∨ 1000 < ws.length := by omega
  have hwl' : ws.length = i := by have := hol.len; rw [List.length_map, List.length_take] at this; omega
  have hi1000 : i ≤ 1000 := by
   -- each set has a job of its own
   have key : ∀ {l : List Nat} {d : Nat}, d < 2 ^ js.length → SidP (bsOf ps js.length) js js.length d l → cardS d js.length + l.length ≤ js.length := by
    intro l
    induction l with
    | nil => intro d _ _; simpa using cardS_le d js.length
    | cons b l ih =>
     intro d hd h
     obtain ⟨h1, h2, _⟩ := h.1.step hd
     have := ih h2 h.2
     obtain ⟨j, hj⟩ := bit_of_ne h.1.1.1.ne
     have hjd : d.testBit j = false := by
      cases e : d.testBit j with
      | false => rfl
      | true =>
       have h9 : (d &&& b).testBit j = true := by rw [Nat.testBit_and, e, hj]; rfl
       rw [h.1.1.1.apart] at h9
       simp at h9
     have := cardS_lt (s := d) (t := d ||| b) (fun k hk => by rw [Nat.testBit_or, hk]; rfl) hjd (by rw [Nat.testBit_or, hj]; simp) (bit_lt h.1.1.1.lt hj)
     simp only [List.length_cons]
     omega
   have := key (Nat.pow_pos (by decide)) hos
   have := v.n10
   omega
  refine hol3.app (x2.trans x3) hw (by omega) ?_
  intro v' hx' x' ho'
  have hti : (os.take (i + 1)).map (fun s => listS s 10) = (os.take i).map (fun s => listS s 10) ++ [listS os[i] 10] := by
   rw [List.take_succ_eq_append_getElem hil, List.map_append]; rfl
  simp only [bin_add, OP_some, inc i (by omega), true_and]
  exact hL (i + 1, v', ws ++ [w], hx') ⟨by show i + 1 ≤ _; omega, x', by rw [hti]; exact ho'⟩ (by show os.length - (i + 1) < os.length - i; omega)
 ·have hie : i = os.length := by omega
  rw [hie, List.take_length] at hol
  rw [q31z16]
  exact hk os vo g2 (xg.trans (x1.trans x2)) hos hol.ll

end Go.Proofs.YtelmdbpaoifmoaaGreat


namespace Go.Sim

structure Gath (bs : List Nat) (js : List (Int × Int)) (n d k best b : Nat) : Prop where
 none : best = 0 → b = 0 ∧ ∀ m, m < k → ¬ Rel1 bs n d m
 rel : best ≠ 0 → (b < k ∧ Rel1 bs n d b) ∧ (∀ m, m < k → Rel1 bs n d m → wS js m * lS js b ≤ wS js b * lS js m) ∧ ∀ i, best.testBit i = true ↔ ∃ m, m < k ∧ Rel1 bs n d m ∧ wS js m * lS js b = wS js b * lS js m ∧ m.testBit i = true

section
variable {bs : List Nat} {js : List (Int × Int)} {n d k best b : Nat}

theorem Gath.start : Gath bs js n d 1 0 0 := ⟨fun _ => ⟨rfl, fun m hm h => h.ne (by omega)⟩, fun h => absurd rfl h⟩

theorem Gath.skip (g : Gath bs js n d k best b) (h : ¬ Rel1 bs n d k) : Gath bs js n d (k + 1) best b := by
 refine ⟨fun h0 => ⟨(g.none h0).1, fun m hm hr => ?_⟩, fun h0 => ?_⟩
 ·by_cases e : m = k
  ·subst e; exact h hr
  ·exact (g.none h0).2 m (by omega) hr
 ·obtain ⟨⟨a1, a2⟩, a3, a4⟩ := g.rel h0
  refine ⟨⟨by omega, a2⟩, fun m hm hr => ?_, fun i => ?_⟩
  ·by_cases e : m = k
   ·subst e; exact absurd hr h
   ·exact a3 m (by omega) hr
  ·rw [a4 i]
   constructor
   ·rintro ⟨m, q1, q2, q3⟩; exact ⟨m, by omega, q2, q3⟩
   ·rintro ⟨m, q1, q2, q3⟩
    by_cases e : m = k
    ·subst e; exact absurd q2 h
    ·exact ⟨m, by omega, q2, q3⟩

theorem Gath.take (P : PosJ js n) (hn : n ≤ 10) (g : Gath bs js n d k best b) (h : Rel1 bs n d k) (hb : best = 0 ∨ wS js b * lS js k < wS js k * lS js b) : Gath bs js n d (k + 1) k k := by
 refine ⟨fun h0 => absurd h0 h.ne, fun _ => ?_⟩
 have less : ∀ m, m < k → Rel1 bs n d m → wS js m * lS js k < wS js k * lS js m := by
  intro m hm hr
  rcases hb with hb | hb
  ·exact absurd hr ((g.none hb).2 m hm)
  ·have h0 : best ≠ 0 := by
    rintro rfl
    exact (g.none rfl).2 m hm hr
   obtain ⟨⟨a1, a2⟩, a3, _⟩ := g.rel h0
   have h1 := a3 m hm hr
   have p1 := lS_pos P hn hr.lt hr.ne
   have p2 := lS_pos P hn a2.lt a2.ne
   have p3 := lS_pos P hn h.lt h.ne
   apply Classical.byContradiction
   intro hc
   have := cross_trans p3 p1 p2 (show wS js k * lS js m ≤ wS js m * lS js k by omega) h1
   omega
 refine ⟨⟨by omega, h⟩, fun m hm hr => ?_, fun i => ?_⟩
 ·by_cases e : m = k
  ·subst e; exact Int.le_refl _
  ·exact Int.le_of_lt (less m (by omega) hr)
 ·constructor
  ·intro hi; exact ⟨k, by omega, h, rfl, hi⟩
  ·rintro ⟨m, q1, q2, q3, q4⟩
   by_cases e : m = k
   ·subst e; exact q4
   ·have := less m (by omega) q2
    omega

theorem Gath.join (g : Gath bs js n d k best b) (h : Rel1 bs n d k) (h0 : best ≠ 0) (hb : wS js k * lS js b = wS js b * lS js k) : Gath bs js n d (k + 1) (best ||| k) b := by
 have hne : best ||| k ≠ 0 := by
  intro e
  have : best ≤ best ||| k := Nat.left_le_or
  omega
 refine ⟨fun e => absurd e hne, fun _ => ?_⟩
 obtain ⟨⟨a1, a2⟩, a3, a4⟩ := g.rel h0
 refine ⟨⟨by omega, a2⟩, fun m hm hr => ?_, fun i => ?_⟩
 ·by_cases e : m = k
  ·subst e; omega
  ·exact a3 m (by omega) hr
 ·rw [Nat.testBit_or, Bool.or_eq_true, a4 i]
  constructor
  ·rintro (⟨m, q1, q2⟩ | hi)
   ·exact ⟨m, by omega, q2⟩
   ·exact ⟨k, by omega, h, hb, hi⟩
  ·rintro ⟨m, q1, q2, q3, q4⟩
   by_cases e : m = k
   ·subst e; exact .inr q4
   ·exact .inl ⟨m, by omega, q2, q3, q4⟩

theorem Gath.pass (g : Gath bs js n d k best b) (h0 : best ≠ 0) (hb : wS js k * lS js b < wS js b * lS js k) : Gath bs js n d (k + 1) best b := by
 refine ⟨fun e => absurd e h0, fun _ => ?_⟩
 obtain ⟨⟨a1, a2⟩, a3, a4⟩ := g.rel h0
 refine ⟨⟨by omega, a2⟩, fun m hm hr => ?_, fun i => ?_⟩
 ·by_cases e : m = k
  ·subst e; omega
  ·exact a3 m (by omega) hr
 ·rw [a4 i]
  constructor
  ·rintro ⟨m, q1, q2⟩; exact ⟨m, by omega, q2⟩
  ·rintro ⟨m, q1, q2, q3, q4⟩
   by_cases e : m = k
   ·subst e; omega
   ·exact ⟨m, by omega, q2, q3, q4⟩

theorem Gath.all (P : PosJ js n) (hn : n ≤ 10) (hb : ∀ b ∈ bs, b < 2 ^ n) (hd : d < fullS n) (g : Gath bs js n d (2 ^ n) best b) : IsSid bs js n d best := by
 obtain ⟨s, hs⟩ := IsSid.ex (js := js) P hn hb hd
 have h0 : best ≠ 0 := fun e => (g.none e).2 s hs.1.1.lt hs.1.1
 obtain ⟨⟨a1, a2⟩, a3, a4⟩ := g.rel h0
 have hmax : MaxR bs js n d b := ⟨a2, fun x hx => a3 x hx.lt hx⟩
 have e : best = s := by
  apply Nat.eq_of_testBit_eq
  intro i
  rw [Bool.eq_iff_iff, a4 i]
  constructor
  ·rintro ⟨m, _, q2, q3, q4⟩
   have hm := hmax.same P hn q2 (Int.le_of_eq q3.symm)
   exact subB_iff.1 (hs.2 m hm) i q4
  ·intro hi
   exact ⟨s, hs.1.1.lt, hs.1.1, Int.le_antisymm (a3 s hs.1.1.lt hs.1.1) (hs.1.2 b a2), hi⟩
 rw [e]
 exact hs
end

end Go.Sim


namespace Go.Proofs.YtelmdbpaoifmoaaGreat
open Go.Sim

theorem sid_len {bs : List Nat} {js : List (Int × Int)} {n : Nat} : ∀ {l : List Nat} {d : Nat}, d < 2 ^ n → SidP bs js n d l → cardS d n + l.length ≤ n
 | [], d, _, _ => by simpa using cardS_le d n
 | b :: l, d, hd, h => by
  obtain ⟨h1, h2, _⟩ := h.1.step hd
  have := sid_len h2 h.2
  obtain ⟨j, hj⟩ := bit_of_ne h.1.1.1.ne
  have hjd : d.testBit j = false := by
   cases e : d.testBit j with
   | false => rfl
   | true =>
    have h9 : (d &&& b).testBit j = true := by rw [Nat.testBit_and, e, hj]; rfl
    rw [h.1.1.1.apart] at h9
    simp at h9
  have := cardS_lt (s := d) (t := d ||| b) (fun k hk => by rw [Nat.testBit_or, hk]; rfl) hjd (by rw [Nat.testBit_or, hj]; simp) (bit_lt h.1.1.1.lt hj)
  simp only [List.length_cons]
  omega

end Go.Proofs.YtelmdbpaoifmoaaGreat


namespace Go.Proofs.YtelmdbpaoifmoaaGreat
open Go.Sim
variable (P : Program) (K : VK)
/-! F7: pommel/pommellaw06.MendSidneys -/
noncomputable def oc7 := compFn Tryz.prog 7 [[], [], [], [], [], [6, 8, 42], [8, 42, 44], [8, 46], [46, 48], [50], [50, 51], [], [], [], [3, 6, 7, 8, 9, 60], [3, 7, 8, 9, 60, 62], [3, 7, 8, 9, 64], [3, 7, 8, 9, 64, 69], [3, 7, 8, 9, 71], [3, 7, 9, 71, 73], [3, 7, 9, 75], [3, 7, 9, 75, 77], [], [], [], [], [3, 7, 9], [10], [], [], [], [], [3, 7, 9, 10], [11, 12], [], [], [], [3, 7, 9, 10, 11], [], [], [], [3, 7, 9, 10], [], []]
@[irreducible] noncomputable def c7 : ICode := icOf oc7
@[irreducible] noncomputable def c7z9 : ICode := c7.r.r.r.r.l.r.l.l.r.l
@[irreducible] noncomputable def c7z7 : ICode := c7.r.r.r.r.l.r.l.r
@[irreducible] noncomputable def c7z5 : ICode := c7.r.r.r.r.r
@[irreducible] noncomputable def c7z24 : ICode := c7z5.r.l.l.r.l
@[irreducible] noncomputable def c7z22 : ICode := c7z5.r.l.r
@[irreducible] noncomputable def c7z21 : ICode := c7z5.r.r
theorem k7 : oc7 = some (119, c7, [.tmp 2]) := by kernel_rfl
def K7z0 (_P : Program) (K : VK) : Kont := bodyP [.tmp 2] K
def K7z5 : Kont := thenK (iwpP P c7z5 (K7z0 P K)) (K7z0 P K)
def K7z7 : Kont := thenK (iwpP P c7z7 (K7z5 P K)) (K7z5 P K)
def K7z21 : Kont := thenK (iwpP P c7z21 (K7z0 P K)) (K7z0 P K)
def K7z22 : Kont := thenK (iwpP P c7z22 (K7z21 P K)) (K7z21 P K)
def p7z9 (e6 f8 x42 : Value) (h : Heap) : Prop := CutP (iwpP P c7z9 (K7z7 P K)) [6, 8, 42] [e6, f8, x42] h
def p7z24 (j3 e6 r7 f8 x9 x60 : Value) (h : Heap) : Prop := CutP (iwpP P c7z24 (K7z22 P K)) [3, 6, 7, 8, 9, 60] [j3, e6, r7, f8, x9, x60] h
def T7 (s0 : Value) (h : Heap) : Prop :=
 OH (iBox 71 h s0) fun s1 h_1 =>
 OP (iLoad true 2 h_1 s1) fun x16 =>
 CallP P 30 [x16, (.int .i64 (10))] h_1 fun x17 h_2 =>
 OP (iExt 0 x17) fun x18 =>
 OP (iExt 1 x17) fun x19 =>
 CallP P 31 [x18, x19] h_2 fun x23 h_3 =>
 OP (iExt 0 x23) fun x24 =>
 OP (iExt 1 x23) fun x25 =>
 CallP P 32 [x18, x19] h_3 fun x29 h_4 =>
 OP (iExt 0 x29) fun x30 =>
 OP (iExt 1 x29) fun x31 =>
 CallP P 33 [x18, x19] h_4 fun x34 h_5 =>
 OP (iUn .not x34) fun x35 =>
 IfP x35
 (OP (iLenSl x24) fun x37 =>
 OP (iLenSl x30) fun x39 =>
 OP (iBin .add x37 x39) fun x40 =>
 OP (iBin .eql x40 (.int .i64 (0))) fun x41 =>
 p7z9 P K x25 x31 x41 h_5)
 (CallP P 34 [x18, x19] h_5 fun x55 h_6 =>
 CallP P 35 [x24, x55] h_6 fun x58 h_7 =>
 OP (iUn .not x58) fun x59 =>
 p7z24 P K x18 x25 x30 x31 x55 x59 h_7)
theorem e7 (s0 : Value) (h : Heap) : iwpP P c7 (bodyP [.tmp 2] K) (frame0 [s0]) h = T7 P K s0 h := by kernel_rfl
theorem f7 {K : VK} {s0 : Value} {h : Heap} (H : T7 Tryz.prog K s0 h) : CallP Tryz.prog 7 [s0] h K :=
 callP_intro k7 (Nat.le_of_ble_eq_true rfl) ((e7 Tryz.prog K s0 h).mpr H)
end Go.Proofs.YtelmdbpaoifmoaaGreat

namespace Go.Sim

def KP (p : Value → Bool) (h h' : Heap) : Prop := ∀ d c r, objCells h d = some (c :: r) → p c = true → objCells h' d = some (c :: r)

theorem KP.refl (p : Value → Bool) (h : Heap) : KP p h h := fun _ _ _ a _ => a
theorem KP.trans {p : Value → Bool} {a b c : Heap} (x : KP p a b) (y : KP p b c) : KP p a c := fun d v r h1 h2 => y d v r (x d v r h1 h2) h2
theorem KP.ex {p : Value → Bool} {a b : Heap} (x : EX a b) : KP p a b := fun _ _ _ h1 _ => x.cells h1
theorem KP.set {p : Value → Bool} {h : Heap} {i : Nat} {e : TypeId} {cs : List Value} (hg : h[i]? = some (.arr e cs)) (hp : ∀ c r, cs = c :: r → p c = false) (o : IObj) : KP p h (h.set i o) := by
 intro d c r h1 h2
 have hne : i ≠ d := by
  rintro rfl
  simp only [objCells, hg] at h1
  cases h1
  rw [hp _ _ rfl] at h2
  cases h2
 simp only [objCells] at h1 ⊢
 rw [List.getElem?_set_ne hne]
 exact h1

def RS (h : Heap) (e : TypeId) (esz : Nat) (v : Value) (rows : List (List Value)) : Prop :=
 (∀ r ∈ rows, r.length = esz) ∧ ((v = .slice none 0 0 ∧ rows = []) ∨ ∃ i o, v = sl e i o rows.length ∧ (rows = [] ∨ ∃ pre post, objCells h i = some (pre ++ rows.flatten ++ post) ∧ pre.length = o))

section
variable {h h' : Heap} {e : TypeId} {esz : Nat} {v : Value} {rows : List (List Value)}

theorem RS.mono (x : EX h h') (p : RS h e esz v rows) : RS h' e esz v rows :=
 ⟨p.1, p.2.imp id fun ⟨i, o, a, b⟩ => ⟨i, o, a, b.imp id fun ⟨pre, post, c, d⟩ => ⟨pre, post, x.cells c, d⟩⟩⟩

theorem RS.len (p : RS h e esz v rows) : iLenSl v = some (I rows.length) := by
 rcases p.2 with ⟨rfl, rfl⟩ | ⟨i, o, rfl, _⟩ <;> rfl

theorem RS.one (p : RS h e esz v rows) : noTuple v = true ∧ vcells v = [v] := by
 rcases p.2 with ⟨rfl, _⟩ | ⟨i, o, rfl, _⟩ <;> exact ⟨rfl, rfl⟩

theorem flatten_len : ∀ {rows : List (List Value)}, (∀ r ∈ rows, r.length = esz) → rows.flatten.length = rows.length * esz
 | [], _ => by simp
 | r :: rows, h => by
  have ih := flatten_len (rows := rows) fun x hx => h x (List.mem_cons_of_mem _ hx)
  simp only [List.flatten_cons, List.length_append, List.length_cons, h r (List.mem_cons_self ..), ih]
  rw [Nat.succ_mul]; omega

theorem flatten_at : ∀ {rows : List (List Value)}, (∀ r ∈ rows, r.length = esz) → ∀ k (hk : k < rows.length), (rows.flatten.drop (k * esz)).take esz = rows[k]
 | r :: rows, h, 0, _ => by
  have := h r (by simp)
  simp only [List.flatten_cons, Nat.zero_mul, List.drop_zero, List.getElem_cons_zero]
  rw [← this, List.take_left']
  rfl
 | r :: rows, h, k + 1, hk => by
  have hr := h r (by simp)
  have := flatten_at (rows := rows) (fun x hx => h x (by simp [hx])) k (by simpa using hk)
  simp only [List.flatten_cons, List.getElem_cons_succ]
  rw [← this, show (k + 1) * esz = r.length + k * esz by rw [Nat.succ_mul, hr]; omega, List.drop_append, List.drop_eq_nil_of_le (by omega), List.nil_append, show r.length + k * esz - r.length = k * esz by omega]

theorem RS.get (p : RS h e esz v rows) {k : Nat} (hk : k < rows.length) : ∃ i o cs, iAdrSl esz v (I k) = some (pt i o) ∧ objCells h i = some cs ∧ o + esz ≤ cs.length ∧ (cs.drop o).take esz = rows[k] := by
 rcases p.2 with ⟨_, rfl⟩ | ⟨i, o, rfl, rfl | ⟨pre, post, hc, ho⟩⟩
 ·simp at hk
 ·simp at hk
 have hf := flatten_len p.1
 have hle : (k + 1) * esz ≤ rows.length * esz := Nat.mul_le_mul_right _ hk
 rw [Nat.succ_mul] at hle
 refine ⟨i, o + k * esz, _, ?_, hc, ?_, ?_⟩
 ·have : (0 : Int) ≤ (k : Int) ∧ (k : Int) < (rows.length : Int) := by omega
  simp [sl, iAdrSl, this]
 ·simp only [List.length_append, hf]; omega
 ·rw [← flatten_at p.1 k hk, ← ho, List.append_assoc, List.drop_append, List.drop_eq_nil_of_le (by omega), List.nil_append, show pre.length + k * esz - pre.length = k * esz by omega]
  rw [List.drop_append_of_le_length (by rw [hf]; omega), List.take_append_of_le_length (by rw [List.length_drop, hf]; omega)]

theorem row_all {i o : Nat} {cs row : List Value} (hc : objCells h i = some cs) (hl : o + esz ≤ cs.length) (ht : (cs.drop o).take esz = row) : iLoad true esz h (pt i o) = some (.agg row.toArray) := by
 simp [iLoad, hc, iPart, hl, ht]

theorem RS.nil (h : Heap) (e : TypeId) (esz : Nat) : RS h e esz (.slice none 0 0) [] := ⟨fun r hr => by simp at hr, .inl ⟨rfl, rfl⟩⟩

theorem RS.arr {i : Nat} (hw : ∀ r ∈ rows, r.length = esz) (hg : h[i]? = some (.arr e rows.flatten)) : RS h e esz (sl e i 0 rows.length) rows :=
 ⟨hw, .inr ⟨i, 0, rfl, .inr ⟨[], [], by simp [objCells, hg], rfl⟩⟩⟩

theorem RS.from (p : RS h e esz v rows) {k : Nat} (hk : k ≤ rows.length) : ∃ v', iSlSl e esz v (some (I k)) none = some v' ∧ RS h e esz v' (rows.drop k) := by
 have hw : ∀ r ∈ rows.drop k, r.length = esz := fun r hr => p.1 r (List.mem_of_mem_drop hr)
 rcases p.2 with ⟨rfl, rfl⟩ | ⟨i, o, rfl, hc⟩
 ·have : k = 0 := by simpa using hk
  subst this
  exact ⟨_, rfl, ⟨hw, .inl ⟨rfl, rfl⟩⟩⟩
 ·refine ⟨sl e i (o + k * esz) (rows.length - k), by simp [iSlSl, sl, iBounds, natOf, hk], hw, .inr ⟨i, _, by rw [List.length_drop], ?_⟩⟩
  rcases hc with rfl | ⟨pre, post, hc, ho⟩
  ·left; simp
  ·right
   refine ⟨pre ++ (rows.take k).flatten, post, ?_, ?_⟩
   ·rw [hc]
    have : rows.flatten = (rows.take k).flatten ++ (rows.drop k).flatten := by rw [← List.flatten_append, List.take_append_drop]
    rw [this]; simp
   ·rw [List.length_append, ho, flatten_len fun r hr => p.1 r (List.mem_of_mem_take hr), List.length_take, Nat.min_eq_left hk]

def OwnR (b : Nat) (hx : Heap) (e : TypeId) (esz : Nat) (v : Value) (rows : List (List Value)) : Prop :=
 (∀ r ∈ rows, r.length = esz) ∧ ((v = .slice none 0 0 ∧ rows = []) ∨ ∃ i, b ≤ i ∧ v = sl e i 0 rows.length ∧ hx[i]? = some (.arr e rows.flatten))

theorem OwnR.start (b : Nat) (hx : Heap) (e : TypeId) (esz : Nat) : OwnR b hx e esz (.slice none 0 0) [] := ⟨fun r hr => by simp at hr, .inl ⟨rfl, rfl⟩⟩

theorem OwnR.rs {b : Nat} (o : OwnR b h e esz v rows) : RS h e esz v rows := by
 rcases o.2 with ⟨rfl, rfl⟩ | ⟨i, _, rfl, hg⟩
 ·exact .nil _ _ _
 ·exact .arr o.1 hg

theorem OwnR.keep {b : Nat} (o : OwnR b h e esz v rows) (x : ∀ d n, v = sl e d 0 n → b ≤ d → h'[d]? = h[d]?) : OwnR b h' e esz v rows :=
 ⟨o.1, o.2.imp id fun ⟨i, h1, h2, h3⟩ => ⟨i, h1, h2, by rw [x i _ h2 h1]; exact h3⟩⟩

theorem OwnR.lt {b d n : Nat} (o : OwnR b h e esz v rows) (hv : v = sl e d 0 n) : b ≤ d ∧ d < h.length ∧ h[d]? = some (.arr e rows.flatten) := by
 rcases o.2 with ⟨h1, _⟩ | ⟨i, h1, h2, h3⟩
 ·rw [h1] at hv; cases hv
 ·rw [h2] at hv
  obtain ⟨rfl, _⟩ := sl_inj hv
  exact ⟨h1, (List.getElem?_eq_some_iff.1 h3).1, h3⟩

theorem OwnR.ex {b : Nat} (o : OwnR b h e esz v rows) (x : EX h h') : OwnR b h' e esz v rows := o.keep fun d _ hv _ => x.2 d (o.lt hv).2.1

theorem OwnR.kp {b : Nat} {p : Value → Bool} (o : OwnR b h e esz v rows) (hp : ∀ c r, rows.flatten = c :: r → p c = false) (hold : ∀ d, d < h.length → (∀ n, v ≠ sl e d 0 n) → h'[d]? = h[d]?) : KP p h h' := by
 intro d c r h1 h2
 have hd : d < h.length := by
  apply Classical.byContradiction
  intro hge
  rw [objCells, List.getElem?_eq_none (by omega)] at h1
  cases h1
 have hne : ∀ n, v ≠ sl e d 0 n := by
  intro n hv
  have := (o.lt hv).2.2
  simp only [objCells, this] at h1
  cases h1' : rows.flatten with
  | nil => rw [h1'] at h1; cases h1
  | cons y ys =>
   rw [h1'] at h1
   cases h1
   rw [hp _ _ h1'] at h2
   cases h2
 simp only [objCells, hold d hd hne] at h1 ⊢
 exact h1

theorem OwnR.app {h0 : Heap} {bytes : Nat} {x : Value} {row zs : List Value} {K : Value → Heap → Prop} (o : OwnR h0.length h e esz v rows) (hex : EX h0 h) (hz : zs.length = esz) (h1 : noTuple x = true) (h2 : vcells x = row) (hr : row.length = esz)
  (hb : (rows.length + 1) * bytes ≤ 140737488355328) (hm : rows.length + 1 ≤ maxLen)
  (hk : ∀ v' h', EX h0 h' → (∀ d, d < h.length → (∀ n, v ≠ sl e d 0 n) → h'[d]? = h[d]?) → OwnR h0.length h' e esz v' (rows ++ [row]) → K v' h') :
  OH (iMkSl e 1 zs h [(0, esz, x)]) fun a h2 => OH (iApp e esz bytes h2 v a) K := by
 have hw : ∀ r ∈ rows ++ [row], r.length = esz := by
  intro r hr'
  rcases List.mem_append.1 hr' with hr' | hr'
  ·exact o.1 r hr'
  ·rw [List.mem_singleton.1 hr']; exact hr
 have e1 : iMkSl e 1 zs h [(0, esz, x)] = some (sl e h.length 0 1, h ++ [.arr e row]) := by
  have hzr : zrep zs 1 = zs := by simp [zrep]
  have hs : setAt zs 0 row = row := by
   unfold setAt
   rw [List.take_zero, List.nil_append, List.drop_eq_nil_of_le (by omega), List.append_nil]
  simp only [iMkSl, hzr, fillL, h1, h2, hs]
  rw [if_pos ⟨trivial, hr, by omega⟩]
  rfl
 rw [e1]
 simp only [OH_some]
 have e2 : sliceCells (h ++ [.arr e row]) esz (sl e h.length 0 1) = some row := by
  simp [sliceCells, sl, objCells, hr]
  rw [← hr, List.take_length]
 have e3 : lenOfSl (sl e h.length 0 1) = some 1 := rfl
 rcases o.2 with ⟨rfl, rfl⟩ | ⟨i, hi, rfl, hget⟩
 ·refine OH_of (v := sl e (h.length + 1) 0 1) (h := h ++ [.arr e row] ++ [.arr e row]) ?_ (hk _ _ ((hex.push _).push _) (fun d hd _ => by rw [List.getElem?_append_left (by simp; omega), List.getElem?_append_left hd]) ⟨hw, .inr ⟨h.length + 1, by have := hex.1; omega, rfl, by simp⟩⟩)
  have hb' : 1 * bytes ≤ 140737488355328 := by simpa using hb
  have hm' : 1 ≤ maxLen := by simpa using hm
  simp only [iApp, e2, e3]
  rw [if_neg (by omega), if_pos ⟨hb', hm'⟩]
  simp
 ·have hlt := (List.getElem?_eq_some_iff.1 hget).1
  have hg : (h ++ [.arr e row])[i]? = some (.arr e rows.flatten) := by rw [List.getElem?_append_left hlt]; exact hget
  refine OH_of (v := sl e (h.length + 1) 0 (rows.length + 1)) (h := (h ++ [IObj.arr e row]).set i IObj.dead ++ [IObj.arr e (rows.flatten ++ row)]) ?_
   (hk _ _ (((hex.push _).set hi _).push _) (fun d hd hne => ?_) ⟨hw, .inr ⟨h.length + 1, by have := hex.1; omega, by simp, ?_⟩⟩)
  ·simp only [iApp, e2, e3]
   simp only [sl, hg]
   rw [if_pos ⟨trivial, trivial, flatten_len o.1, hb, hm⟩, if_neg (by omega)]
   simp
  ·have hdi : i ≠ d := by rintro rfl; exact hne _ rfl
   rw [List.getElem?_append_left (by simp; omega), List.getElem?_set_ne hdi, List.getElem?_append_left hd]
  ·rw [List.getElem?_append_right (by simp)]
   simp

end

end Go.Sim


namespace Go.Proofs.YtelmdbpaoifmoaaGreat
open Go.Sim

/-- Fractions in memory. -/
def RatL (h : Heap) (v : Value) (qs : List (Int × Int)) : Prop :=
 ∃ rows, RS h 107 4 v rows ∧ rows.length = qs.length ∧ ∀ (k : Nat) (row : List Value) (q : Int × Int), rows[k]? = some row → qs[k]? = some q → RatV h (.agg row.toArray) q.1 q.2


theorem RatL.mono {h h' : Heap} {v : Value} {qs : List (Int × Int)} (x : EX h h') (p : RatL h v qs) : RatL h' v qs :=
 let ⟨rows, a, b, c⟩ := p; ⟨rows, a.mono x, b, fun k row q h1 h2 => (c k row q h1 h2).mono x⟩

theorem RatL.len {h : Heap} {v : Value} {qs : List (Int × Int)} (p : RatL h v qs) : iLenSl v = some (I qs.length) := by
 obtain ⟨rows, a, b, _⟩ := p; rw [← b]; exact a.len

theorem RatL.get {h : Heap} {v : Value} {qs : List (Int × Int)} (p : RatL h v qs) {k : Nat} (hk : k < qs.length) : ∃ i o r, iAdrSl 4 v (I k) = some (pt i o) ∧ iLoad true 4 h (pt i o) = some r ∧ RatV h r qs[k].1 qs[k].2 := by
 obtain ⟨rows, a, b, c⟩ := p
 have hk' : k < rows.length := by omega
 obtain ⟨i, o, cs, g1, g2, g3, g4⟩ := a.get hk'
 exact ⟨i, o, _, g1, row_all g2 g3 g4, c k _ _ (List.getElem?_eq_getElem hk') (List.getElem?_eq_getElem hk)⟩

def isW : Value → Bool
 | .int .u32 _ => true
 | _ => false

theorem DSw.keep {e : TypeId} {h h' : Heap} {v : Value} {xs : List Nat} (x : KP isW h h') (p : DS e .u32 h v xs) : DS e .u32 h' v xs := by
 refine p.imp id fun ⟨i, a, b⟩ => ⟨i, a, ?_⟩
 cases xs with
 | nil => exact .inl rfl
 | cons y ys =>
  obtain ⟨r, c⟩ := b.resolve_left (by simp)
  exact .inr ⟨r, x i _ _ c rfl⟩

theorem MagV.keep {h h' : Heap} {v : Value} {n : Nat} (x : KP isW h h') (p : MagV h v n) : MagV h' v n := let ⟨xs, a, b, c⟩ := p; ⟨xs, DSw.keep x a, b, c⟩
theorem RatV.keep {h h' : Heap} {v : Value} {a b : Int} (x : KP isW h h') (p : RatV h v a b) : RatV h' v a b := let ⟨u, w, e, m, n⟩ := p; ⟨u, w, e, m.keep x, n.keep x⟩

theorem RatV.cells {h : Heap} {v : Value} {a b : Int} (p : RatV h v a b) : noTuple v = true ∧ ∃ s u t w, v = .agg #[B s, u, B t, w] ∧ vcells v = [B s, u, B t, w] := by
 obtain ⟨u, w, rfl, _⟩ := p
 exact ⟨rfl, _, _, _, _, rfl, rfl⟩

/-- Fractions that are being gathered. -/
def OwnQ (b : Nat) (h : Heap) (v : Value) (qs : List (Int × Int)) : Prop :=
 ∃ rows, OwnR b h 107 4 v rows ∧ rows.length = qs.length ∧ (∀ r ∈ rows, ∃ s t, r = .bool s :: t) ∧ ∀ (k : Nat) (row : List Value) (q : Int × Int), rows[k]? = some row → qs[k]? = some q → RatV h (.agg row.toArray) q.1 q.2

theorem OwnQ.start (b : Nat) (h : Heap) : OwnQ b h (.slice none 0 0) [] := ⟨[], OwnR.start .., rfl, fun r hr => by simp at hr, fun k r q h => by simp at h⟩

theorem OwnQ.ratL {b : Nat} {h : Heap} {v : Value} {qs : List (Int × Int)} (o : OwnQ b h v qs) : RatL h v qs := let ⟨rows, a, c, _, d⟩ := o; ⟨rows, a.rs, c, d⟩

theorem OwnQ.ex {b : Nat} {h h' : Heap} {v : Value} {qs : List (Int × Int)} (x : EX h h') (o : OwnQ b h v qs) : OwnQ b h' v qs :=
 let ⟨rows, a, c, e, d⟩ := o; ⟨rows, a.ex x, c, e, fun k r q h1 h2 => (d k r q h1 h2).mono x⟩

theorem flat_bool {rows : List (List Value)} (h : ∀ r ∈ rows, ∃ s t, r = .bool s :: t) : ∀ c r, rows.flatten = c :: r → isW c = false := by
 intro c r hc
 cases rows with
 | nil => simp at hc
 | cons x xs =>
  obtain ⟨s, t, rfl⟩ := h x (by simp)
  simp at hc
  rw [← hc.1]; rfl

theorem OwnQ.app {h0 h : Heap} {v x : Value} {a b : Int} {qs : List (Int × Int)} {zs : List Value} {K : Value → Heap → Prop} (o : OwnQ h0.length h v qs) (hex : EX h0 h) (hx : RatV h x a b) (hz : zs.length = 4) (hl : qs.length ≤ 10000)
  (hk : ∀ v' h', EX h0 h' → KP isW h h' → OwnQ h0.length h' v' (qs ++ [(a, b)]) → K v' h') : OH (iMkSl 107 1 zs h [(0, 4, x)]) fun y h2 => OH (iApp 107 4 64 h2 v y) K := by
 obtain ⟨rows, o1, o2, o3, o4⟩ := o
 obtain ⟨t1, s, u, t, w, e1, e2⟩ := hx.cells
 refine o1.app hex hz t1 e2 rfl (by omega) (by simp [maxLen]; omega) ?_
 intro v' h' x' hold o'
 have kp : KP isW h h' := o1.kp (flat_bool o3) hold
 refine hk v' h' x' kp ⟨_, o', by simp [o2], fun r hr => ?_, fun k row q h1 h2 => ?_⟩
 ·rcases List.mem_append.1 hr with hr | hr
  ·exact o3 r hr
  ·rw [List.mem_singleton.1 hr]; exact ⟨s, _, rfl⟩
 ·by_cases hk : k < rows.length
  ·rw [List.getElem?_append_left hk] at h1
   rw [List.getElem?_append_left (by omega)] at h2
   exact (o4 k row q h1 h2).keep kp
  ·rw [List.getElem?_append_right (by omega)] at h1
   rw [List.getElem?_append_right (by omega), ← o2] at h2
   have h0 : k - rows.length = 0 := by
    have := (List.getElem?_eq_some_iff.1 h1).1
    simp at this; omega
   rw [h0] at h1 h2
   simp only [List.getElem?_cons_zero, Option.some.injEq] at h1 h2
   subst h1 h2
   rw [← e1]
   exact hx.keep kp

/-- Fractions as texts. -/
theorem C78 {v : Value} {qs : List (Int × Int)} {h : Heap} {K : Value → Heap → Prop} (hl : RatL h v qs) (hq : ∀ q ∈ qs, 0 < q.2 ∧ q.1.natAbs < bigW ∧ q.2.natAbs < bigW) (hn : qs.length ≤ 1000)
  (hk : ∀ v' h', EX h h' → SS h' v' (qs.map fun q => ratS q.1 q.2) → K (.tuple #[v', I 0]) h') : CallP Tryz.prog 78 [v] h K := by
 refine f78 ?_
 unfold T78
 simp only [hl.len, OP_some]
 refine loopL (σ := Nat × Value × Heap) (fun q => [q.2.1, I q.1]) (fun q => q.2.2) (fun q => q.1 ≤ qs.length ∧ EX h q.2.2 ∧ OwnS h.length q.2.2 27 q.2.1 ((qs.take q.1).map fun q => S (ratS q.1 q.2))) (fun q => qs.length - q.1)
  (0, .slice none 0 0, h) rfl rfl ⟨Nat.zero_le _, EX.refl _, by simpa using .inl ⟨rfl, rfl⟩⟩ ?_
 rintro ⟨i, vo, g⟩ ⟨hi, xg, own⟩ L hL
 simp only at hi xg own hL ⊢
 rw [q78z6]
 simp only [bin_lss, OP_some, IfP_dec]
 refine ⟨fun hlt => ?_, fun hge => ?_⟩
 ·have hil : i < qs.length := by omega
  obtain ⟨b, o, r, g1, g2, g3⟩ := (hl.mono xg).get hil
  obtain ⟨_, s, u, t, w, er, ec⟩ := g3.cells
  have al : iAlloc 107 [(.bool false), (.slice none 0 0), (.bool false), (.slice none 0 0)] g = some (pt g.length 0, g ++ [.arr 107 z4]) := rfl
  simp only [g1, OP_some, g2, al, OH_some]
  have x1 : EX g (g ++ [.arr 107 z4]) := EX.append _ _
  have k1 : (g ++ [IObj.arr 107 z4])[g.length]? = some (.arr 107 z4) := get_last
  have g3' := g3.mono x1
  generalize g ++ [IObj.arr 107 z4] = ga at x1 k1 g3' ⊢
  rw [er, store4 k1]
  simp only [OH_some]
  rw [load4 (set_get k1), ← er]
  simp only [OP_some]
  have x2 : EX g (ga.set g.length (.arr 107 [B s, u, B t, w])) := x1.set (Nat.le_refl _) _
  have kp : KP isW ga (ga.set g.length (.arr 107 [B s, u, B t, w])) := KP.set k1 (by rintro c r h9; cases h9; rfl) _
  have hqi := hq _ (List.getElem_mem hil)
  refine C45q (g3'.keep kp) hqi.1 hqi.2.1 hqi.2.2 ?_
  intro g4 x4
  simp only [ext_tuple, pair0, pair1, OP_some, bin_neq, decide_true, Bool.not_true, IfP_false]
  refine app1 (own.keep fun d n hv hd => (x2.trans x4).2 d (own.lt hv).2.1) (xg.trans (x2.trans x4)) (by simp; omega) (by simp [maxLen]; omega) rfl rfl ?_
  intro v' g5 x5 own'
  simp only [bin_add, OP_some, inc i (by omega), true_and]
  refine hL (i + 1, v', g5) ⟨by show i + 1 ≤ _; omega, x5, ?_⟩ (by show qs.length - (i + 1) < qs.length - i; omega)
  show OwnS h.length g5 27 v' ((qs.take (i + 1)).map _)
  rw [List.take_succ_eq_append_getElem hil, List.map_append]
  exact own'
 ·have hie : i = qs.length := by omega
  subst hie
  rw [List.take_length] at own
  rw [q78z16]
  refine hk vo g xg ?_
  rcases own with ⟨rfl, h2⟩ | ⟨j, _, rfl, h3⟩
  ·have : qs = [] := by simpa using h2
   subst this
   exact ⟨rfl, fun k hk => by simp at hk⟩
  ·have : SS g (sl 27 j 0 (qs.map fun q => ratS q.1 q.2).length) (qs.map fun q => ratS q.1 q.2) := SS.sl (by simp [objCells, h3, List.map_map, Function.comp_def])
   simpa using this

def ratio (js : List (Int × Int)) (s : Nat) : Int × Int := (wS js s / (Nat.gcd (wS js s).natAbs (lS js s).natAbs : Int), lS js s / (Nat.gcd (wS js s).natAbs (lS js s).natAbs : Int))

theorem bigW18 : (1000000000000000000 : Nat) < bigW := by unfold bigW; decide +kernel

theorem C32 {vj vp : Value} {js ps : List (Int × Int)} {h : Heap} {K : Value → Heap → Prop} (hj : PS h vj js) (hp : PS h vp ps) (hjl : js.length ≤ 1000) (hpl : ps.length ≤ 1000)
  (hk0 : validB js ps = false → ∀ h', EX h h' → K (.tuple #[.slice none 0 0, I 1]) h')
  (hk : validB js ps = true → ∀ os v h', EX h h' → SidP (bsOf ps js.length) js js.length 0 os → SS h' v (os.map fun s => ratS (ratio js s).1 (ratio js s).2) → K (.tuple #[v, I 0]) h') : CallP Tryz.prog 32 [vj, vp] h K := by
 refine f32 (C59v hj hp hjl hpl (fun hv p g xg => ?_) (fun v hv p g xg hplan => ?_))
 ·simp only [ext_tuple, pair0, pair1, OP_some, un_not, Bool.not_false, IfP_true]
  exact hk0 hv g xg
 have hk := hk hv
 have n10 := v.n10
 have P := v.small.pos rfl
 obtain ⟨os, hos⟩ := SidP.ex (bs := bsOf ps js.length) (js := js) P v.n10 v.is.lt (fullS js.length) 0 (Nat.pow_pos (by decide)) (by omega)
 have hlt := SidP.lt (Nat.pow_pos (by decide)) hos
 have hol := sid_len (Nat.pow_pos (by decide)) hos
 have hne : ∀ s ∈ os, s ≠ 0 := by
  have key : ∀ {l : List Nat} {d : Nat}, SidP (bsOf ps js.length) js js.length d l → ∀ s ∈ l, s ≠ 0 := by
   intro l
   induction l with
   | nil => intro d _ s hs; simp at hs
   | cons b l ih =>
    intro d h s hs
    rcases List.mem_cons.1 hs with rfl | hs
    ·exact h.1.1.1.ne
    ·exact ih h.2 s hs
  exact key hos
 simp only [ext_tuple, pair0, pair1, OP_some, un_not, Bool.not_true, IfP_false]
 refine C73 (os := os) hplan rfl v.n1 v.n10 v.small v.is.len v.is.lt hos ?_
 have ls : iLenSl (sl 131 g.length 0 os.length) = some (I os.length) := rfl
 simp only [ls, OP_some]
 have x1 : EX g (g ++ [.arr 131 (os.map fun b : Nat => U b)]) := EX.append _ _
 have k1 : (g ++ [IObj.arr 131 (os.map fun b : Nat => U b)])[g.length]? = some (.arr 131 (os.map fun b : Nat => U b)) := get_last
 generalize g ++ [IObj.arr 131 (os.map fun b : Nat => U b)] = g1 at x1 k1 ⊢
 have hp1 := hplan.mono x1
 have rfacts : ∀ s ∈ os, 0 < (ratio js s).2 ∧ (ratio js s).1.natAbs < bigW ∧ (ratio js s).2.natAbs < bigW := by
  intro s hs
  have h1 := lS_pos P n10 (hlt s hs) (hne s hs)
  have h2 := lS_le v.small s
  have h3 := wS_le v.small s
  have hW := bigW18
  have hg : 0 < Nat.gcd (wS js s).natAbs (lS js s).natAbs := Nat.gcd_pos_of_pos_right _ (by omega)
  have hd : (Nat.gcd (wS js s).natAbs (lS js s).natAbs : Int) ∣ lS js s := Int.gcd_dvd_right ..
  have hd' : (Nat.gcd (wS js s).natAbs (lS js s).natAbs : Int) ∣ wS js s := Int.gcd_dvd_left ..
  unfold ratio
  generalize Nat.gcd (wS js s).natAbs (lS js s).natAbs = G at *
  obtain ⟨c, hc⟩ := hd
  obtain ⟨c', hc'⟩ := hd'
  rw [hc] at h1 h2
  rw [hc'] at h3
  simp only [hc, hc', Int.mul_ediv_cancel_left _ (show (G : Int) ≠ 0 by omega)]
  have q1 : 0 < c := by
   apply Classical.byContradiction
   intro hn
   have := Int.mul_nonpos_of_nonneg_of_nonpos (show (0 : Int) ≤ (G : Int) by omega) (show c ≤ 0 by omega)
   omega
  have q0 : 0 ≤ c' := by
   apply Classical.byContradiction
   intro hn
   have := Int.mul_le_mul_of_nonpos_right (show (1 : Int) ≤ (G : Int) by omega) (show c' ≤ 0 by omega)
   omega
  have q2 : c ≤ G * c := by have := Int.mul_le_mul_of_nonneg_right (show (1 : Int) ≤ (G : Int) by omega) (show 0 ≤ c by omega); omega
  have q3 : c' ≤ G * c' := by have := Int.mul_le_mul_of_nonneg_right (show (1 : Int) ≤ (G : Int) by omega) q0; omega
  exact ⟨q1, by omega, by omega⟩
 refine loopL (σ := Nat × Value × Heap) (fun q => [q.2.1, I q.1]) (fun q => q.2.2) (fun q => q.1 ≤ os.length ∧ EX g1 q.2.2 ∧ OwnQ g1.length q.2.2 q.2.1 ((os.take q.1).map fun s => ratio js s)) (fun q => os.length - q.1)
  (0, .slice none 0 0, g1) rfl rfl ⟨Nat.zero_le _, EX.refl _, by simpa using OwnQ.start g1.length g1⟩ ?_
 rintro ⟨i, vo, g2⟩ ⟨hi, x2, own⟩ L hL
 simp only at hi x2 own hL ⊢
 rw [q32z10]
 simp only [bin_lss, OP_some, IfP_dec]
 refine ⟨fun hlt2 => ?_, fun hge => ?_⟩
 ·have hil : i < os.length := by omega
  have hm := List.getElem_mem hil
  have ld : iLoad false 1 g2 (pt g.length i) = some (U os[i]) := by simp [iLoad, objCells, x2.get k1, iPart, hil]
  simp only [adr_sl hil, OP_some, ld]
  have hs := hlt _ hm
  have h1 := lS_pos P n10 hs (hne _ hm)
  have h2 := lS_le v.small os[i]
  have h3 := wS_le v.small os[i]
  have hW := bigW18
  refine C76 (hp1.mono x2) v.small n10 hs ?_
  intro g3 x3
  rw [sumW_eq]
  refine C75 (by omega) (by omega) ?_
  intro r1 g4 x4 i1
  have x34 := x3.trans x4
  refine C62 (hp1.mono (x2.trans x34)) v.small n10 hs ?_
  intro g5 x5
  rw [sumJ_eq]
  refine C75 (by omega) (by omega) ?_
  intro r2 g6 x6 i2
  have hone : (1 : Int).natAbs < bigW := by show 1 < bigW; omega
  refine C77 ((i1.mono x5).mono x6) i2 (by omega) hone (by omega) hone (by rw [Int.mul_one]; omega) (by omega) (by rw [Int.one_mul]; omega) ?_
  intro r g7 x7 ir
  rw [Int.mul_one, Int.one_mul] at ir
  have x37 := x34.trans (x5.trans (x6.trans x7))
  refine (own.ex x37).app (x2.trans x37) ir rfl (by simp; omega) ?_
  intro v' g8 x8 _ own'
  simp only [bin_add, OP_some, inc i (by omega), true_and]
  refine hL (i + 1, v', g8) ⟨by show i + 1 ≤ _; omega, x8, ?_⟩ (by show os.length - (i + 1) < os.length - i; omega)
  show OwnQ g1.length g8 v' ((os.take (i + 1)).map _)
  rw [List.take_succ_eq_append_getElem hil, List.map_append]
  exact own'
 ·have hie : i = os.length := by omega
  rw [hie, List.take_length] at own
  rw [q32z16]
  refine C78 own.ratL (fun q hq => ?_) (by simp; omega) ?_
  ·obtain ⟨s, hs, rfl⟩ := List.mem_map.1 hq
   exact rfacts s hs
  intro w g3 x3 hss
  rw [List.map_map] at hss
  simp only [ext_tuple, pair0, pair1, OP_some]
  exact hk os w g3 (xg.trans (x1.trans (x2.trans x3))) hos hss

end Go.Proofs.YtelmdbpaoifmoaaGreat


namespace Go.Proofs.YtelmdbpaoifmoaaGreat
open Go.Sim

theorem C67g {s : List UInt8} {h : Heap} {K : Value → Heap → Prop} (hl : s.length ≤ 700)
  (hk : ∀ n d, parseQ s = some (n, d) → ∀ r h', EX h h' → QZ h' r n d → K (.tuple #[r, B true]) h')
  (hk0 : parseQ s = none → ∀ h', EX h h' → K (.tuple #[zAgg, B false]) h') : CallP Tryz.prog 67 [S s] h K := by
 refine f67 ?_
 have e1 : iAlloc 37 [(.bool false), (.slice none 0 0), (.bool false), (.slice none 0 0)] h = some (pt h.length 0, h ++ [.arr 37 z4]) := rfl
 have x1 : EX h (h ++ [.arr 37 z4]) := EX.append _ _
 simp only [T67, e1, OH_some, lenS_S, OP_some, bin_gtr, decide_eq_false (show ¬ (s.length : Int) > 8002 by omega), IfP_false, q67z9]
 by_cases h0 : s.length = 0
 ·have e : s = [] := List.length_eq_zero_iff.1 h0
  subst e
  rw [decide_eq_false (show ¬ ((([] : List UInt8).length : Int) > 0) by simp)]
  simp only [GdP_ft, q67z11, iPick_f, OP_some, IfP_false]
  exact C67_12 (m := false) hl x1 (Nat.le_refl _) get_last (fun n d hp => hk n d hp) (fun hp => hk0 hp)
 ·rw [decide_eq_true (show (s.length : Int) > 0 by omega)]
  have ix := idxS_S (a := s) (i := 0) (by omega) .i64
  simp only [Int.natCast_zero, Int.ofNat_zero] at ix
  have hh : s.head? = some (s[0]'(by omega)) := by rw [List.head?_eq_getElem?, List.getElem?_eq_getElem (by omega)]
  have e5 : iBin .eql (cv (s[0]'(by omega))) (.int .u8 45) = some (B (decide (((s[0]'(by omega)).toNat : Int) = 45))) := rfl
  simp only [GdP_tt, ix, OP_some, e5, q67z11, iPick_t, IfP_dec]
  refine ⟨fun hm => ?_, fun hm => ?_⟩
  ·have hm' : s[0]'(by omega) = 45 := by apply UInt8.toNat_inj.1; show (s[0]'(by omega)).toNat = 45; omega
   have hp : parseQ s = parseT true s.tail := by unfold parseQ; rw [if_pos (by rw [hh, hm'])]
   have sl := slS_lo (a := s) (n := 1) (by omega) .i64
   have sl' : iSlS (S s) (some (.int .i64 1)) none = some (S s.tail) := by rw [← List.drop_one]; exact sl
   simp only [sl', OP_some]
   refine C67_12 (m := true) (by rw [List.length_tail]; omega) x1 (Nat.le_refl _) get_last (fun n d hq => hk n d (by rw [hp]; exact hq)) (fun hq => hk0 (by rw [hp]; exact hq))
  ·have hm' : s[0]'(by omega) ≠ 45 := by intro h; rw [h] at hm; exact hm rfl
   have hp : parseQ s = parseT false s := by unfold parseQ; rw [if_neg (by rw [hh]; intro h; injection h with h; exact hm' h)]
   exact C67_12 (m := false) hl x1 (Nat.le_refl _) get_last (fun n d hq => hk n d (by rw [hp]; exact hq)) (fun hq => hk0 (by rw [hp]; exact hq))

theorem C28g {s : List UInt8} {n : Int} {d : Nat} {h : Heap} {K : Value → Heap → Prop} (hl : s.length ≤ 700) (hp : parseQ s = some (n, d)) (hk : ∀ r h', EX h h' → QZ h' r n d → K r h') : CallP Tryz.prog 28 [S s] h K := by
 refine f28 ?_
 have e1 : ∀ g : Heap, iAlloc 37 [(.bool false), (.slice none 0 0), (.bool false), (.slice none 0 0)] g = some (pt g.length 0, g ++ [.arr 37 z4]) := fun _ => rfl
 simp only [T28, e1, OH_some]
 refine C67g hl (fun n' d' hp' r h1 x1 q1 => ?_) (fun hp' => by rw [hp] at hp'; cases hp')
 rw [hp] at hp'
 obtain ⟨rfl, rfl⟩ : n = n' ∧ d = d' := by injection hp' with hp'; injection hp' with a b; exact ⟨a, b⟩
 obtain ⟨u, w, rfl, hu, hw⟩ := id q1
 have g1 := x1.get (get_last (h := h) (o := .arr 37 z4))
 simp only [ext_tuple, pair0, pair1, OP_some, OH_some]
 rw [store4 get_last]
 simp only [OH_some]
 rw [load4 (set_get get_last)]
 simp only [OP_some]
 have x2 : EX h1 ((h1 ++ [IObj.arr 37 z4]).set h1.length (.arr 37 [B (decide (n < 0)), u, B (decide ((d : Int) < 0)), w])) := EX.set (EX.append _ _) (Nat.le_refl _) _
 have g2 := x2.get g1
 have xA := ((EX.append h [.arr 37 z4]).trans x1).trans x2
 refine fin4 g2 (hk _ _ (xA.set (Nat.le_refl _) _) ?_)
 exact (q1.mono x2).setB g2 _

theorem C24 {s : List UInt8} {h : Heap} {K : Value → Heap → Prop} (hl : s.length ≤ 700) (hk : ∀ h', EX h h' → K (B (parseQ s).isSome) h') : CallP Tryz.prog 24 [S s] h K := by
 refine f24 ?_
 have e1 : ∀ g : Heap, iAlloc 37 [(.bool false), (.slice none 0 0), (.bool false), (.slice none 0 0)] g = some (pt g.length 0, g ++ [.arr 37 z4]) := fun _ => rfl
 unfold T24
 refine C67g hl (fun n d hp r h1 x1 q1 => ?_) (fun hp h1 x1 => ?_)
 ·obtain ⟨u, w, rfl, hu, hw⟩ := q1
  simp only [ext_tuple, pair0, pair1, OP_some, e1, OH_some]
  rw [store4 get_last]
  simp only [OH_some]
  rw [hp] at hk
  exact hk _ (x1.trans (EX.set (EX.append _ _) (Nat.le_refl _) _))
 ·simp only [ext_tuple, pair0, pair1, OP_some, e1, OH_some]
  have st := store4 (x := B false) (y := .slice none 0 0) (z := B false) (w := .slice none 0 0) (get_last (h := h1) (o := .arr 37 z4))
  have st' : oStore 4 (h1 ++ [.arr 37 z4]) (pt h1.length 0) zAgg = _ := st
  rw [st']
  simp only [OH_some]
  rw [hp] at hk
  exact hk _ (x1.trans (EX.set (EX.append _ _) (Nat.le_refl _) _))

theorem C38 {v : Value} {ls : List (List UInt8)} {h : Heap} {K : Value → Heap → Prop} (hv : SS h v ls) (hn : ls.length ≤ 1000) (hl : ∀ s ∈ ls, s.length ≤ 700 ∧ (parseQ s).isSome = true) (hk : ∀ h', EX h h' → K (I 0) h') : CallP Tryz.prog 38 [v] h K := by
 refine f38 ?_
 unfold T38
 have hlen := hv.len
 refine loopL (σ := Nat × Heap) (fun q => [I q.1]) (fun q => q.2) (fun q => q.1 ≤ ls.length ∧ EX h q.2) (fun q => ls.length - q.1) (0, h) rfl rfl ⟨Nat.zero_le _, EX.refl _⟩ ?_
 rintro ⟨i, g⟩ ⟨hi, xg⟩ L hL
 simp only at hi xg hL ⊢
 rw [q38z5]
 simp only [hlen, OP_some, bin_lss, IfP_dec]
 refine ⟨fun hlt => ?_, fun _ => hk _ xg⟩
 have hil : i < ls.length := by omega
 obtain ⟨b, o, r1, r2⟩ := (hv.mono xg).get i hil
 obtain ⟨a1, a2⟩ := hl _ (List.getElem_mem hil)
 simp only [r1, r2, OP_some]
 refine C24 a1 ?_
 intro g2 x2
 rw [a2]
 simp only [un_not, OP_some, Bool.not_true, IfP_false, bin_add, inc i (by omega), true_and]
 exact hL (i + 1, g2) ⟨by show i + 1 ≤ _; omega, xg.trans x2⟩ (by show ls.length - (i + 1) < ls.length - i; omega)

end Go.Proofs.YtelmdbpaoifmoaaGreat


namespace Go.Proofs.YtelmdbpaoifmoaaGreat
open Go.Sim
variable (P : Program) (K : VK)
/-! F19: pommel/mend.Best -/
noncomputable def oc19 := compFn Tryz.prog 19 [[], [], [], [], [], [], [], [], [0, 7, 9], [10, 11], [], [], [], [], [0, 7, 9, 12, 32, 33], [10, 11, 34], [], [], [], [], [], [], [9, 10], []]
@[irreducible] noncomputable def c19 : ICode := icOf oc19
@[irreducible] noncomputable def c19z11 : ICode := c19.r.r.r.r.r.l.r.l.l
@[irreducible] noncomputable def c19z8 : ICode := c19.r.r.r.r.r.r
@[irreducible] noncomputable def c19z18 : ICode := c19z11.r.l.r.r.l.l
@[irreducible] noncomputable def c19z26 : ICode := c19z8.l
theorem k19 : oc19 = some (75, c19, [.tmp 4, .tmp 5, .tmp 6]) := by kernel_rfl
def K19z0 (_P : Program) (K : VK) : Kont := bodyP [.tmp 4, .tmp 5, .tmp 6] K
def K19z8 : Kont := thenK (iwpP P c19z8 (K19z0 P K)) (K19z0 P K)
def K19z10 : Kont := inBlockK 0 (K19z8 P K)
def K19z11 (x0 p7 x9 : Value) (L1 : LK) : Kont := thenK (fun f' h'' => (([0, 7, 9] : List Nat).map f' : List Value) = [x0, p7, x9] ∧ L1 (([10, 11] : List Nat).map f') h'') (K19z10 P K)
def K19z14 (x0 p7 x9 : Value) (L1 : LK) : Kont := inBlockK 1 (K19z11 P K x0 p7 x9 L1)
def K19z17 (x0 p7 x9 : Value) (L1 : LK) : Kont := inBlockK 2 (K19z14 P K x0 p7 x9 L1)
def K19z18 (x0 p7 x9 x12 x32 x33 : Value) (L1 L2 : LK) : Kont := thenK (fun f' h'' => (([0, 7, 9, 12, 32, 33] : List Nat).map f' : List Value) = [x0, p7, x9, x12, x32, x33] ∧ L2 (([10, 11, 34] : List Nat).map f') h'') (K19z17 P K x0 p7 x9 L1)
def p19z11 (x0 p7 x9 : Value) (L1 : LK) (xs : List Value) (h : Heap) : Prop := CutP (iwpP P c19z11 (K19z11 P K x0 p7 x9 L1)) ([0, 7, 9] ++ [10, 11]) ([x0, p7, x9] ++ xs) h
def p19z18 (x0 p7 x9 x12 x32 x33 : Value) (L1 L2 : LK) (xs : List Value) (h : Heap) : Prop := CutP (iwpP P c19z18 (K19z18 P K x0 p7 x9 x12 x32 x33 L1 L2)) ([0, 7, 9, 12, 32, 33] ++ [10, 11, 34]) ([x0, p7, x9, x12, x32, x33] ++ xs) h
def p19z26 (x9 x10 : Value) (h : Heap) : Prop := CutP (iwpP P c19z26 (K19z0 P K)) [9, 10] [x9, x10] h
theorem q19z18 (x0 p7 x9 x12 x32 x33 : Value) (L1 L2 : LK) (x10 x11 x34 : Value) (h : Heap) : p19z18 P K x0 p7 x9 x12 x32 x33 L1 L2 [x10, x11, x34] h =
 (OP (iBin .lss x34 x33) fun x35 =>
 IfP x35
 (OP (iAdrSl 2 x32 x34) fun x37 =>
 OP (iLoad true 2 h x37) fun x38 =>
 OH (iAlloc 46 [(.int .i64 (0)), (.int .i64 (0))] h) fun j14 h_1 =>
 OH (oStore 2 h_1 j14 x38) fun _ h_2 =>
 CallP P 63 [p7, x11, x34] h_2 fun x42 h_3 =>
 (True) ∧
 GdP x42 true
 (OP (iFadr 1 j14) fun x44 =>
 OP (iLoad false 1 h_3 x44) fun x45 =>
 (True) ∧
 OP (iFadr 0 j14) fun x47 =>
 OP (iLoad false 1 h_3 x47) fun x48 =>
 (True) ∧
 OP (iBin .add x12 x48) fun x49 =>
 OP (iBin .mul x45 x49) fun x50 =>
 OP (iBin .shl (.int .u16 (1)) x34) fun x54 =>
 OP (iBin .or x11 x54) fun x55 =>
 OP (iLookupI .u16 false (.int .i64 (0)) h_3 x9 x55) fun x56 =>
 (True) ∧
 OP (iBin .add x50 x56) fun x57 =>
 OP (iLookupI .u16 false (.int .i64 (0)) h_3 x9 x11) fun x60 =>
 (True) ∧
 OP (iBin .eql x57 x60) fun x61 =>
 OP (iPick x42 x61 (.bool false)) fun x62 =>
 IfP x62
 (OH (iMkSl 3 1 [(.int .i64 (0))] h_3 [(0, 1, x34)]) fun x65 h_4 =>
 (True) ∧
 OH (iApp 3 1 8 h_4 x10 x65) fun x66 h_5 =>
 (True) ∧
 OP (iBin .shl (.int .u16 (1)) x34) fun x69 =>
 OP (iBin .or x11 x69) fun x70 =>
 ([x0, p7, x9] : List Value) = [x0, p7, x9] ∧ L1 [x66, x70] h_5)
 (OP (iBin .add x34 (.int .i64 (1))) fun x71 =>
 ([x0, p7, x9, x12, x32, x33] : List Value) = [x0, p7, x9, x12, x32, x33] ∧ L2 [x10, x11, x71] h_3))
 (OP (iPick x42 undef (.bool false)) fun x62 =>
 IfP x62
 (OH (iMkSl 3 1 [(.int .i64 (0))] h_3 [(0, 1, x34)]) fun x65 h_4 =>
 (True) ∧
 OH (iApp 3 1 8 h_4 x10 x65) fun x66 h_5 =>
 (True) ∧
 OP (iBin .shl (.int .u16 (1)) x34) fun x69 =>
 OP (iBin .or x11 x69) fun x70 =>
 ([x0, p7, x9] : List Value) = [x0, p7, x9] ∧ L1 [x66, x70] h_5)
 (OP (iBin .add x34 (.int .i64 (1))) fun x71 =>
 ([x0, p7, x9, x12, x32, x33] : List Value) = [x0, p7, x9, x12, x32, x33] ∧ L2 [x10, x11, x71] h_3)))
 (([x0, p7, x9] : List Value) = [x0, p7, x9] ∧ L1 [x10, x11] h)) := (CutP_def _ _ _ _).trans (by kernel_rfl)
theorem q19z11 (x0 p7 x9 : Value) (L1 : LK) (x10 x11 : Value) (h : Heap) : p19z11 P K x0 p7 x9 L1 [x10, x11] h =
 (CallP P 61 [p7] h fun x27 h_1 =>
 OP (iBin .neq x11 x27) fun x28 =>
 IfP x28
 (CallP P 62 [p7, x11] h_1 fun x31 h_2 =>
 OP (iLenSl x0) fun x33 =>
 LoopP [x10, x11, (.int .i64 (0))] h_2 fun L2 xs hx =>
 p19z18 P K x0 p7 x9 x31 x0 x33 L1 L2 xs hx)
 (p19z26 P K x9 x10 h_1)) := (CutP_def _ _ _ _).trans (by kernel_rfl)
theorem q19z26 (x9 x10 : Value) (h : Heap) : p19z26 P K x9 x10 h =
 (OP (iLookupI .u16 false (.int .i64 (0)) h x9 (.int .u16 (0))) fun x74 =>
 (True) ∧
 K (.tuple #[x10, x74, (.int .i64 (0))]) h) := (CutP_def _ _ _ _).trans (by kernel_rfl)
def T19 (x0 x1 : Value) (h : Heap) : Prop :=
 CallP P 59 [x0, x1] h fun x18 h_1 =>
 OP (iExt 0 x18) fun x19 =>
 OP (iExt 1 x18) fun x20 =>
 OP (iUn .not x20) fun x22 =>
 IfP x22
 (K (.tuple #[(.slice none 0 0), (.int .i64 (0)), (.int .i64 (1))]) h_1)
 (CallP P 60 [x19] h_1 fun x24 h_2 =>
 LoopP [(.slice none 0 0), (.int .u16 (0))] h_2 fun L1 xs hx =>
 p19z11 P K x0 x19 x24 L1 xs hx)
theorem e19 (x0 x1 : Value) (h : Heap) : iwpP P c19 (bodyP [.tmp 4, .tmp 5, .tmp 6] K) (frame0 [x0, x1]) h = T19 P K x0 x1 h := by kernel_rfl
theorem f19 {K : VK} {x0 x1 : Value} {h : Heap} (H : T19 Tryz.prog K x0 x1 h) : CallP Tryz.prog 19 [x0, x1] h K :=
 callP_intro k19 (Nat.le_of_ble_eq_true rfl) ((e19 Tryz.prog K x0 x1 h).mpr H)
/-! F60: (*pommel/mend.plan).costs -/
noncomputable def oc60 := compFn Tryz.prog 60 [[], [], [], [], [], []]
@[irreducible] noncomputable def c60 : ICode := icOf oc60
theorem k60 : oc60 = some (13, c60, [.tmp 2]) := by kernel_rfl
def T60 (p0 : Value) (h : Heap) : Prop :=
 OH (iBox 125 h p0) fun p1 h_1 =>
 OH (iMkMapI .u16 h_1) fun x5 h_2 =>
 OP (iLoad false 1 h_2 p1) fun x6 =>
 CallP P 61 [x6] h_2 fun x7 h_3 =>
 OH (oMupdI .u16 h_3 x5 x7 (.int .i64 (0))) fun _ h_4 =>
 OH (iAlloc 128 [(.map none)] h_4) fun x3 h_5 =>
 OH (oStore 1 h_5 x3 x5) fun _ h_6 =>
 OH (iAlloc 133 [.nilFunc] h_6) fun x4 h_7 =>
 OH (oStore 1 h_7 x4 (.func (.func 97) #[] #[x3, p1, x4])) fun _ h_8 =>
 OP (iLoad false 1 h_8 x4) fun x10 =>
 CallVP P x10 [(.int .u16 (0))] h_8 fun x11 h_9 =>
 OP (iLoad false 1 h_9 x3) fun x12 =>
 K x12 h_9
theorem e60 (p0 : Value) (h : Heap) : iwpP P c60 (bodyP [.tmp 2] K) (frame0 [p0]) h = T60 P K p0 h := by kernel_rfl
theorem f60 {K : VK} {p0 : Value} {h : Heap} (H : T60 Tryz.prog K p0 h) : CallP Tryz.prog 60 [p0] h K :=
 callP_intro k60 (Nat.le_of_ble_eq_true rfl) ((e60 Tryz.prog K p0 h).mpr H)
/-! F97: (*pommel/mend.plan).costs$1 -/
noncomputable def oc97 := compFn Tryz.prog 97 [[], [], [], [], [], [], [], [], [0, 1, 2, 3, 9, 27, 28], [8, 29], [], [], [], [], [], [], [0, 1, 2, 3, 8, 9, 12, 27, 28, 29, 55], [0, 1, 2, 3, 8, 9, 12, 27, 28, 29, 55, 58], [], [0, 1, 2, 3, 8, 9, 27, 28, 29], [0, 1, 8], [], []]
@[irreducible] noncomputable def c97 : ICode := icOf oc97
@[irreducible] noncomputable def c97z11 : ICode := c97.r.r.r.r.l.r.l.l
@[irreducible] noncomputable def c97z8 : ICode := c97.r.r.r.r.r
@[irreducible] noncomputable def c97z22 : ICode := c97z11.r.r.l.l.r.r.r.l.r.l
@[irreducible] noncomputable def c97z20 : ICode := c97z11.r.r.l.l.r.r.r.r
@[irreducible] noncomputable def c97z14 : ICode := c97z11.r.r.r
@[irreducible] noncomputable def c97z26 : ICode := c97z8.l
@[irreducible] noncomputable def c97z24 : ICode := c97z22.r.l
@[irreducible] noncomputable def c97z25 : ICode := c97z14.l
theorem k97 : oc97 = some (66, c97, [.tmp 5]) := by kernel_rfl
def K97z0 (_P : Program) (K : VK) : Kont := bodyP [.tmp 5] K
def K97z8 : Kont := thenK (iwpP P c97z8 (K97z0 P K)) (K97z0 P K)
def K97z10 : Kont := inBlockK 0 (K97z8 P K)
def K97z11 (x0 x1 x2 x3 x9 x27 x28 : Value) (L1 : LK) : Kont := thenK (fun f' h'' => (([0, 1, 2, 3, 9, 27, 28] : List Nat).map f' : List Value) = [x0, x1, x2, x3, x9, x27, x28] ∧ L1 (([8, 29] : List Nat).map f') h'') (K97z10 P K)
def K97z14 (x0 x1 x2 x3 x9 x27 x28 : Value) (L1 : LK) : Kont := thenK (iwpP P c97z14 (K97z11 P K x0 x1 x2 x3 x9 x27 x28 L1)) (K97z11 P K x0 x1 x2 x3 x9 x27 x28 L1)
def K97z15 (x0 x1 x2 x3 x9 x27 x28 : Value) (L1 : LK) : Kont := inBlockK 1 (K97z14 P K x0 x1 x2 x3 x9 x27 x28 L1)
def K97z20 (x0 x1 x2 x3 x9 x27 x28 : Value) (L1 : LK) : Kont := thenK (iwpP P c97z20 (K97z15 P K x0 x1 x2 x3 x9 x27 x28 L1)) (K97z15 P K x0 x1 x2 x3 x9 x27 x28 L1)
def p97z11 (x0 x1 x2 x3 x9 x27 x28 : Value) (L1 : LK) (xs : List Value) (h : Heap) : Prop := CutP (iwpP P c97z11 (K97z11 P K x0 x1 x2 x3 x9 x27 x28 L1)) ([0, 1, 2, 3, 9, 27, 28] ++ [8, 29]) ([x0, x1, x2, x3, x9, x27, x28] ++ xs) h
def p97z22 (x0 x1 x2 x3 x8 x9 c12 x27 x28 x29 x55 : Value) (L1 : LK) (h : Heap) : Prop := CutP (iwpP P c97z22 (K97z20 P K x0 x1 x2 x3 x9 x27 x28 L1)) [0, 1, 2, 3, 8, 9, 12, 27, 28, 29, 55] [x0, x1, x2, x3, x8, x9, c12, x27, x28, x29, x55] h
def p97z24 (x0 x1 x2 x3 x8 x9 c12 x27 x28 x29 x55 x58 : Value) (L1 : LK) (h : Heap) : Prop := CutP (iwpP P c97z24 (K97z20 P K x0 x1 x2 x3 x9 x27 x28 L1)) [0, 1, 2, 3, 8, 9, 12, 27, 28, 29, 55, 58] [x0, x1, x2, x3, x8, x9, c12, x27, x28, x29, x55, x58] h
def p97z25 (x0 x1 x2 x3 x8 x9 x27 x28 x29 : Value) (L1 : LK) (h : Heap) : Prop := CutP (iwpP P c97z25 (K97z11 P K x0 x1 x2 x3 x9 x27 x28 L1)) [0, 1, 2, 3, 8, 9, 27, 28, 29] [x0, x1, x2, x3, x8, x9, x27, x28, x29] h
def p97z26 (x0 x1 x8 : Value) (h : Heap) : Prop := CutP (iwpP P c97z26 (K97z0 P K)) [0, 1, 8] [x0, x1, x8] h
theorem q97z24 (x0 x1 x2 x3 x8 x9 c12 x27 x28 x29 x55 x58 : Value) (L1 : LK) (h : Heap) : p97z24 P K x0 x1 x2 x3 x8 x9 c12 x27 x28 x29 x55 x58 L1 h =
 (OP (iPick x55 (.bool true) x58) fun x59 =>
 IfP x59
 (p97z25 P K x0 x1 x2 x3 c12 x9 x27 x28 x29 L1 h)
 (p97z25 P K x0 x1 x2 x3 x8 x9 x27 x28 x29 L1 h)) := (CutP_def _ _ _ _).trans (by kernel_rfl)
theorem q97z22 (x0 x1 x2 x3 x8 x9 c12 x27 x28 x29 x55 : Value) (L1 : LK) (h : Heap) : p97z22 P K x0 x1 x2 x3 x8 x9 c12 x27 x28 x29 x55 L1 h =
 (GdP x55 false
 (OP (iBin .lss c12 x8) fun x58 =>
 p97z24 P K x0 x1 x2 x3 x8 x9 c12 x27 x28 x29 x55 x58 L1 h)
 (p97z24 P K x0 x1 x2 x3 x8 x9 c12 x27 x28 x29 x55 undef L1 h)) := (CutP_def _ _ _ _).trans (by kernel_rfl)
theorem q97z25 (x0 x1 x2 x3 x8 x9 x27 x28 x29 : Value) (L1 : LK) (h : Heap) : p97z25 P K x0 x1 x2 x3 x8 x9 x27 x28 x29 L1 h =
 (OP (iBin .add x29 (.int .i64 (1))) fun x61 =>
 ([x0, x1, x2, x3, x9, x27, x28] : List Value) = [x0, x1, x2, x3, x9, x27, x28] ∧ L1 [x8, x61] h) := (CutP_def _ _ _ _).trans (by kernel_rfl)
theorem q97z11 (x0 x1 x2 x3 x9 x27 x28 : Value) (L1 : LK) (x8 x29 : Value) (h : Heap) : p97z11 P K x0 x1 x2 x3 x9 x27 x28 L1 [x8, x29] h =
 (OP (iBin .lss x29 x28) fun x30 =>
 IfP x30
 (OP (iAdrSl 2 x27 x29) fun x32 =>
 OP (iLoad true 2 h x32) fun x33 =>
 OH (iAlloc 46 [(.int .i64 (0)), (.int .i64 (0))] h) fun j11 h_1 =>
 OH (oStore 2 h_1 j11 x33) fun _ h_2 =>
 OP (iLoad false 1 h_2 x2) fun x34 =>
 CallP P 63 [x34, x0, x29] h_2 fun x37 h_3 =>
 OP (iUn .not x37) fun x38 =>
 IfP x38
 (p97z25 P K x0 x1 x2 x3 x8 x9 x27 x28 x29 L1 h_3)
 (OP (iFadr 1 j11) fun x39 =>
 OP (iLoad false 1 h_3 x39) fun x40 =>
 (True) ∧
 OP (iFadr 0 j11) fun x42 =>
 OP (iLoad false 1 h_3 x42) fun x43 =>
 (True) ∧
 OP (iBin .add x9 x43) fun x44 =>
 OP (iBin .mul x40 x44) fun x45 =>
 OP (iLoad false 1 h_3 x3) fun x46 =>
 (True) ∧
 OP (iBin .shl (.int .u16 (1)) x29) fun x49 =>
 OP (iBin .or x0 x49) fun x50 =>
 CallVP P x46 [x50] h_3 fun x51 h_4 =>
 (iLoad false 1 h_4 x39 = some x40 ∧ iLoad false 1 h_4 x42 = some x43 ∧ True) ∧
 OP (iBin .add x45 x51) fun x52 =>
 OP (iBin .lss x8 (.int .i64 (0))) fun x54 =>
 p97z22 P K x0 x1 x2 x3 x8 x9 x52 x27 x28 x29 x54 L1 h_4))
 (p97z26 P K x0 x1 x8 h)) := (CutP_def _ _ _ _).trans (by kernel_rfl)
theorem q97z26 (x0 x1 x8 : Value) (h : Heap) : p97z26 P K x0 x1 x8 h =
 (OP (iLoad false 1 h x1) fun x62 =>
 OH (oMupdI .u16 h x62 x0 x8) fun _ h_1 =>
 K x8 h_1) := (CutP_def _ _ _ _).trans (by kernel_rfl)
def T97 (x0 x1 x2 x3 : Value) (h : Heap) : Prop :=
 OP (iLoad false 1 h x1) fun x14 =>
 OP (iLookupI .u16 true (.int .i64 (0)) h x14 x0) fun x16 =>
 OP (iExt 0 x16) fun x17 =>
 OP (iExt 1 x16) fun x18 =>
 IfP x18
 (K x17 h)
 (OP (iLoad false 1 h x2) fun x21 =>
 CallP P 62 [x21, x0] h fun x23 h_1 =>
 OP (iLoad false 1 h_1 x2) fun x24 =>
 OP (iNilck x24) fun x25 =>
 OP (iFadr 0 x25) fun x26 =>
 OP (iLoad false 1 h_1 x26) fun x27 =>
 OP (iLenSl x27) fun x28 =>
 LoopP [(.int .i64 (-1)), (.int .i64 (0))] h_1 fun L1 xs hx =>
 p97z11 P K x0 x1 x2 x3 x23 x27 x28 L1 xs hx)
theorem e97 (x0 x1 x2 x3 : Value) (h : Heap) : iwpP P c97 (bodyP [.tmp 5] K) (frame0 [x0, x1, x2, x3]) h = T97 P K x0 x1 x2 x3 h := by kernel_rfl
theorem f97 {K : VK} {x0 x1 x2 x3 : Value} {h : Heap} (H : T97 Tryz.prog K x0 x1 x2 x3 h) : CallP Tryz.prog 97 [x0, x1, x2, x3] h K :=
 callP_intro k97 (Nat.le_of_ble_eq_true rfl) ((e97 Tryz.prog K x0 x1 x2 x3 h).mpr H)
end Go.Proofs.YtelmdbpaoifmoaaGreat

namespace Go.Proofs.YtelmdbpaoifmoaaGreat
open Go.Sim

theorem PL.monoC {h h' : Heap} {p : Value} {js : List (Int × Int)} {bs : List Nat} (x : CX h h') (q : PL h p js bs) : PL h' p js bs :=
 let ⟨i, vj, vb, a, b, c, d⟩ := q; ⟨i, vj, vb, a, x _ _ b, c.monoC x, NS.monoC x d⟩

theorem findI_setI (k : Int) (v : Value) (k' : Int) : ∀ es : List (Int × Value), findI k' (setI k v es) = if k' = k then some v else findI k' es
 | [] => by simp [setI, findI]
 | (k1, v1) :: es => by
  simp only [setI]
  by_cases h : k = k1
  ·subst h
   simp only [if_true, findI]
   by_cases h2 : k' = k <;> simp [h2]
  ·rw [if_neg h]
   simp only [findI, findI_setI k v k' es]
   by_cases h2 : k' = k1
   ·subst h2
    rw [if_pos rfl, if_pos rfl, if_neg (fun h3 => h h3.symm)]
   ·rw [if_neg h2, if_neg h2]

section
variable (js : List (Int × Int)) (bs : List Nat) (n : Nat)

structure MapOK (es : List (Int × Value)) : Prop where
 val : ∀ s v, findI s es = some v → ∃ t : Nat, s = t ∧ t < 2 ^ n ∧ v = I (minS bs js n t)
 full : (findI (fullS n : Nat) es).isSome = true
 next : ∀ s : Nat, s < fullS n → (findI (s : Int) es).isSome = true → ∀ i, i < n → rdyS bs s i = true → (findI ((s ||| 2 ^ i : Nat) : Int) es).isSome = true

def KeyM (es es' : List (Int × Value)) : Prop := ∀ k, (findI k es).isSome = true → (findI k es').isSome = true
end

theorem KeyM.refl (es : List (Int × Value)) : KeyM es es := fun _ h => h
theorem KeyM.trans {a b c : List (Int × Value)} (h : KeyM a b) (k : KeyM b c) : KeyM a c := fun x hx => k x (h x hx)

theorem MapOK.look {js : List (Int × Int)} {bs : List Nat} {n : Nat} {es : List (Int × Value)} (m : MapOK js bs n es) {s : Nat} (h : (findI (s : Int) es).isSome = true) : findI (s : Int) es = some (I (minS bs js n s)) := by
 obtain ⟨v, hv⟩ := Option.isSome_iff_exists.1 h
 obtain ⟨t, h1, _, h2⟩ := m.val _ _ hv
 have : s = t := by omega
 subst this
 rw [hv, h2]

theorem lookI {g : Heap} {im : Nat} {es : List (Int × Value)} (hg : g[im]? = some (.imap .u16 es)) (s : Nat) : iLookupI .u16 true (.int .i64 0) g (.map (some im)) (U s) = some (.tuple #[(findI (s : Int) es).getD (I 0), B (findI (s : Int) es).isSome]) := by
 simp [iLookupI, hg]
theorem lookI' {g : Heap} {im : Nat} {es : List (Int × Value)} (hg : g[im]? = some (.imap .u16 es)) (s : Nat) : iLookupI .u16 false (.int .i64 0) g (.map (some im)) (U s) = some ((findI (s : Int) es).getD (I 0)) := by
 simp [iLookupI, hg]
theorem updI {g : Heap} {im : Nat} {es : List (Int × Value)} (hg : g[im]? = some (.imap .u16 es)) (s : Nat) (v : Value) : oMupdI .u16 g (.map (some im)) (U s) v = some (undef, g.set im (.imap .u16 (setI s v es))) := by
 simp [oMupdI, iMupdI, hg]

theorem ok35 : callOk Tryz.prog 97 = true := by kernel_rfl

structure EnvC (im ox px cx : Nat) (p : Value) (js : List (Int × Int)) (bs : List Nat) (h : Heap) : Prop where
 o : objCells h ox = some [.map (some im)]
 q : objCells h px = some [p]
 c : objCells h cx = some [.func (.func 97) #[] #[pt ox 0, pt px 0, pt cx 0]]
 pl : PL h p js bs

theorem EnvC.mono {im ox px cx : Nat} {p : Value} {js : List (Int × Int)} {bs : List Nat} {h h' : Heap} (k : CX h h') (e : EnvC im ox px cx p js bs h) : EnvC im ox px cx p js bs h' :=
 ⟨k _ _ e.o, k _ _ e.q, k _ _ e.c, e.pl.monoC k⟩

theorem C97 {im ox px cx : Nat} {p : Value} {js : List (Int × Int)} {bs : List Nat} {n : Nat} (hn : js.length = n) (hn10 : n ≤ 10) (hsm : smallJ js) (hbl : bs.length = n) (hb : ∀ b ∈ bs, b < 2 ^ n) (hu : acyc bs n) :
  ∀ (f s : Nat), fullS n - s ≤ f → s < 2 ^ n → ∀ {h : Heap} {es : List (Int × Value)} {K : Value → Heap → Prop}, EnvC im ox px cx p js bs h → h[im]? = some (.imap .u16 es) → MapOK js bs n es →
  (∀ h' es', XM im h h' → h'[im]? = some (.imap .u16 es') → MapOK js bs n es' → KeyM es es' → (findI (s : Int) es').isSome = true → K (I (minS bs js n s)) h') →
  CallP Tryz.prog 97 [U s, pt ox 0, pt px 0, pt cx 0] h K := by
 have h2n : (2 : Nat) ^ n ≤ 2 ^ 10 := Nat.pow_le_pow_right (by decide) hn10
 have hb1024 : ∀ b ∈ bs, b < 1024 := fun b h => Nat.lt_of_lt_of_le (hb b h) h2n
 have hsF : smallF js := hsm.all
 intro f
 induction f with
 | zero =>
  intro s hf hs h es K env hm ok hk
  have hse : s = fullS n := by unfold fullS at *; omega
  have hfs := ok.full
  rw [← hse] at hfs
  refine f97 ?_
  simp only [T97, load_cell env.o, OP_some, lookI hm, ok.look hfs, ext_tuple, pair0, pair1, Option.getD_some, Option.isSome_some, IfP_true]
  exact hk h es (XM.refl _ _) hm ok (KeyM.refl _) hfs
 | succ f ih =>
  intro s hf hs h es K env hm ok hk
  refine f97 ?_
  simp only [T97, load_cell env.o, OP_some, lookI hm, ext_tuple, pair0, pair1]
  refine IfP_of (fun hin => ?_) fun hout => ?_
  ·rw [ok.look hin, Option.getD_some]
   exact hk h es (XM.refl _ _) hm ok (KeyM.refl _) hin
  ·have hsf : s < fullS n := by
    rcases Nat.lt_or_ge s (fullS n) with h1 | h1
    ·exact h1
    ·have : s = fullS n := by unfold fullS at *; omega
     rw [this, ok.full] at hout
     cases hout
   simp only [load_cell env.q, OP_some]
   refine C62 env.pl hsm (by omega) (by rw [hn]; exact hs) ?_
   intro g xg
   have x0 : XM im h g := XM.ex xg
   have hmg := xg.get hm
   have envg := env.mono (x0.cx hm)
   obtain ⟨a, vj, vb, rfl, hc, hjs, hbs⟩ := envg.pl
   have ldj : iLoad false 1 g (pt a 0) = some vj := by simp [iLoad, hc, iPart]
   have hnow : sumJ js (listS s 10) = nowS js s := by
    have : ∀ m, listS s m = listS' s m := by
     intro m
     induction m with
     | zero => rfl
     | succ m ih => simp only [listS, listS', ih]
    unfold sumJ nowS
    rw [this]; rfl
   simp only [load_cell envg.q, OP_some, nilck_pt, fadr_pt, Nat.add_zero, ldj, hjs.len, hn, hnow]
   have hnb := now_bound hsF s
   refine loopL (σ := Nat × List (Int × Value) × Heap) (fun q => [I (bstep bs js s (fun i => minS bs js n (s ||| 2 ^ i)) q.1), I q.1]) (fun q => q.2.2)
    (fun q => q.1 ≤ n ∧ XM im g q.2.2 ∧ q.2.2[im]? = some (.imap .u16 q.2.1) ∧ MapOK js bs n q.2.1 ∧ KeyM es q.2.1 ∧ ∀ i, i < q.1 → rdyS bs s i = true → (findI ((s ||| 2 ^ i : Nat) : Int) q.2.1).isSome = true) (fun q => n - q.1)
    (0, es, g) rfl rfl ⟨Nat.zero_le _, XM.refl _ _, hmg, ok, KeyM.refl _, fun i hi => by omega⟩ ?_
   rintro ⟨i, es1, g1⟩ ⟨hi, x1, hm1, ok1, km1, hnx⟩ L hL
   simp only at hi x1 hm1 ok1 km1 hnx hL ⊢
   have env1 := envg.mono (x1.cx hmg)
   rw [q97z11]
   simp only [bin_lss, OP_some, IfP_dec]
   refine ⟨fun hlt => ?_, fun hge => ?_⟩
   ·have hin : i < n := by omega
    have hjL : i < js.length := by omega
    have hjs1 := hjs.monoC (x1.cx hmg)
    obtain ⟨b, o, r1, r2, r3, r4⟩ := PS.getD hjs1 hjL
    have e30 : ∀ g : Heap, iAlloc 46 [(.int .i64 (0)), (.int .i64 (0))] g = some (pt g.length 0, g ++ [.arr 46 [I 0, I 0]]) := fun _ => rfl
    have st2 : ∀ (g : Heap) (t : TypeId) (a b : Int), oStore 2 (g ++ [.arr t [I 0, I 0]]) (pt g.length 0) (.agg #[I a, I b]) = some (undef, g ++ [.arr t [I a, I b]]) := by
     intro g t a b
     simp [oStore, iStore, noTuple, vcells, Value.cells, setAt]
    simp only [r1, OP_some]
    rw [r4]
    simp only [OP_some, e30, OH_some, st2]
    have l0 : iLoad false 1 (g1 ++ [IObj.arr 46 [I (js.getD i (0, 0)).1, I (js.getD i (0, 0)).2]]) (pt g1.length 0) = some (I (js.getD i (0, 0)).1) := load_last rfl
    have l1 : iLoad false 1 (g1 ++ [IObj.arr 46 [I (js.getD i (0, 0)).1, I (js.getD i (0, 0)).2]]) (pt g1.length 1) = some (I (js.getD i (0, 0)).2) := load_last rfl
    have xp : EX g1 (g1 ++ [IObj.arr 46 [I (js.getD i (0, 0)).1, I (js.getD i (0, 0)).2]]) := EX.append _ _
    have hll : (js.getD i (0, 0)).1 = lenJ js i := rfl
    have hww : (js.getD i (0, 0)).2 = weiJ js i := rfl
    rw [hll, hww] at l0 l1 xp ⊢
    generalize hg2 : g1 ++ [IObj.arr 46 [I (lenJ js i), I (weiJ js i)]] = g2 at l0 l1 xp ⊢
    have x2 : XM im g g2 := x1.trans (XM.ex xp)
    have hm2 := xp.get hm1
    have env2 := envg.mono (x2.cx hmg)
    simp only [load_cell env2.q, OP_some]
    refine C63 env2.pl (by omega) (by omega) (by omega) hb1024 ?_
    rw [rdy_eq]
    simp only [un_not, OP_some]
    cases hr : rdyS bs s i with
    | false =>
     simp only [Bool.not_false, IfP_true]
     rw [q97z25]
     simp only [bin_add, OP_some, inc i (by omega), true_and]
     have hbs : bstep bs js s (fun i => minS bs js n (s ||| 2 ^ i)) (i + 1) = bstep bs js s (fun i => minS bs js n (s ||| 2 ^ i)) i := by
      simp [bstep, hr]
     have := hL (i + 1, es1, g2) ⟨by show i + 1 ≤ n; omega, x2, hm2, ok1, km1, fun j hj hrj => by
      by_cases hji : j = i
      ·subst hji; rw [hr] at hrj; cases hrj
      ·exact hnx j (by show j < i; simp only at hj; omega) hrj⟩ (by show n - (i + 1) < n - i; omega)
     simp only [hbs] at this
     exact this
    | true =>
     have hp2 : (2 : Nat) ^ i < 1024 := Nat.lt_of_lt_of_le (Nat.pow_lt_pow_right (by decide) (show i < 10 by omega)) (by decide)
     have hlw := hsF i
     have hcb := c_bound hsF s i
     have hw1 : IntKind.wrap .i64 (nowS js s + lenJ js i) = nowS js s + lenJ js i := wrap64 (by omega) (by omega)
     have hw2 : IntKind.wrap .i64 (weiJ js i * (nowS js s + lenJ js i)) = weiJ js i * (nowS js s + lenJ js i) := wrap64 (by omega) (by omega)
     have hlt2 := or_lt hs hin
     have hgt := lt_or_pow (rdyS_bit hr)
     simp only [Bool.not_true, IfP_false, fadr_pt, Nat.add_zero, Nat.zero_add, l0, l1, OP_some, bin_add, hw1, bin_mul, hw2, load_cell env2.c, shlK skU (show i < 11 by omega), orK skU (show s < 1024 by omega) hp2, true_and]
     refine callVP_fn ok35 ?_
     refine ih (s ||| 2 ^ i) (by unfold fullS at *; omega) hlt2 env2 hm2 ok1 ?_
     intro g3 es3 x3 hm3 ok3 km3 hin3
     have cx3 := x3.cx hm2
     have l0' := cx3.load l0
     have l1' := cx3.load l1
     have hmb := minS_bound hsF hn10 hu hlt2
     have hw3 : IntKind.wrap .i64 (weiJ js i * (nowS js s + lenJ js i) + minS bs js n (s ||| 2 ^ i)) = weiJ js i * (nowS js s + lenJ js i) + minS bs js n (s ||| 2 ^ i) := wrap64 (by omega) (by omega)
     simp only [l0', l1', true_and, bin_add, OP_some, hw3, bin_lss]
     have go : ∀ bst : Int, bstep bs js s (fun i => minS bs js n (s ||| 2 ^ i)) (i + 1) = bst → p97z25 Tryz.prog K (U s) (pt ox 0) (pt px 0) (pt cx 0) (I bst) (I (nowS js s)) vj (I n) (I i) L g3 := by
      intro bst hbst
      rw [q97z25]
      simp only [bin_add, OP_some, inc i (by omega), true_and]
      have := hL (i + 1, es3, g3) ⟨by show i + 1 ≤ n; omega, x2.trans x3, hm3, ok3, km1.trans km3, fun j hj hrj => by
       by_cases hji : j = i
       ·subst hji; exact hin3
       ·exact km3 _ (hnx j (by show j < i; simp only at hj; omega) hrj)⟩ (by show n - (i + 1) < n - i; omega)
      simp only [hbst] at this
      exact this
     rw [q97z22]
     by_cases hneg : bstep bs js s (fun i => minS bs js n (s ||| 2 ^ i)) i < 0
     ·rw [decide_eq_true hneg]
      simp only [GdP_tf, q97z24, iPick_t, OP_some, IfP_true]
      exact go _ (by simp only [bstep, hr, if_true]; rw [if_pos (.inl hneg)])
     ·rw [decide_eq_false hneg]
      simp only [GdP_ff, bin_lss, OP_some, q97z24, iPick_f, IfP_dec]
      refine ⟨fun hl => go _ ?_, fun hl => go _ ?_⟩
      ·simp only [bstep, hr, if_true]; rw [if_pos (.inr hl)]
      ·simp only [bstep, hr, if_true]; rw [if_neg (fun h9 => h9.elim hneg hl)]
   ·have hie : i = n := by omega
    subst hie
    rw [q97z26]
    simp only [load_cell env1.o, OP_some, updI hm1, OH_some, ← minS_rec bs js i hsf]
    refine hk _ (setI (s : Int) (I (minS bs js i s)) es1) (x0.trans (x1.set _)) (set_get hm1) ⟨?_, ?_, ?_⟩ ?_ ?_
    ·intro s' v' hv
     rw [findI_setI] at hv
     by_cases he : s' = s
     ·rw [if_pos he] at hv
      injection hv with hv
      exact ⟨s, he, hs, hv.symm⟩
     ·rw [if_neg he] at hv
      exact ok1.val _ _ hv
    ·rw [findI_setI]
     split
     ·rfl
     ·exact ok1.full
    ·intro s' hs' hin' j hj hrj
     rw [findI_setI] at hin' ⊢
     split
     ·rfl
     ·by_cases he : s' = s
      ·subst he; exact hnx j hj hrj
      ·rw [if_neg (by omega)] at hin'
       exact ok1.next s' hs' hin' j hj hrj
    ·intro k hk2
     rw [findI_setI]
     split
     ·rfl
     ·exact km1 k hk2
    ·rw [findI_setI, if_pos rfl]; rfl

end Go.Proofs.YtelmdbpaoifmoaaGreat


namespace Go.Sim

def gC (bs : List Nat) (js : List (Int × Int)) (n s i : Nat) : Int := weiJ js i * (nowS js s + lenJ js i) + minS bs js n (s ||| 2 ^ i)

def GrP (bs : List Nat) (js : List (Int × Int)) (n : Nat) : Nat → List Nat → Prop
 | s, [] => s = fullS n
 | s, i :: l => ((i < n ∧ rdyS bs s i = true) ∧ gC bs js n s i = minS bs js n s ∧ ∀ j, j < i → ¬ (rdyS bs s j = true ∧ gC bs js n s j = minS bs js n s)) ∧ GrP bs js n (s ||| 2 ^ i) l

theorem rdy_full {bs : List Nat} {n i : Nat} (hi : i < n) : rdyS bs (fullS n) i = false := by
 unfold rdyS
 rw [fullS_bit, decide_eq_true hi]; rfl

theorem GrP.uniq {bs : List Nat} {js : List (Int × Int)} {n : Nat} : ∀ {l l' : List Nat} {s : Nat}, GrP bs js n s l → GrP bs js n s l' → l = l'
 | [], [], _, _, _ => rfl
 | [], i :: l', s, h, k => by
  have h' : s = fullS n := h
  subst h'
  have := k.1.1.2
  rw [rdy_full k.1.1.1] at this
  cases this
 | i :: l, [], s, h, k => by
  have k' : s = fullS n := k
  subst k'
  have := h.1.1.2
  rw [rdy_full h.1.1.1] at this
  cases this
 | i :: l, i' :: l', s, h, k => by
  have e : i = i' := by
   rcases Nat.lt_trichotomy i i' with hlt | he | hgt
   ·exact absurd ⟨h.1.1.2, h.1.2.1⟩ (k.1.2.2 i hlt)
   ·exact he
   ·exact absurd ⟨k.1.1.2, k.1.2.1⟩ (h.1.2.2 i' hgt)
  subst e
  rw [GrP.uniq h.2 k.2]

theorem GrP.ok {bs : List Nat} {js : List (Int × Int)} {n : Nat} (hn : n ≤ 10) : ∀ {l : List Nat} {s : Nat}, GrP bs js n s l → okO bs n s l = true ∧ stO s l = fullS n ∧ costF js (nowS js s) l = minS bs js n s
 | [], s, h => by
  have h' : s = fullS n := h
  subst h'
  exact ⟨rfl, rfl, by rw [minS_full]; rfl⟩
 | i :: l, s, h => by
  obtain ⟨⟨⟨h1, h2⟩, h3, _⟩, h4⟩ := h
  obtain ⟨a, b, c⟩ := GrP.ok hn h4
  refine ⟨?_, b, ?_⟩
  ·simp only [okO, a, h2, h1, decide_true, Bool.and_self]
  ·have e := now_step js (show i < 10 by omega) (rdyS_bit h2)
   have h3' : weiJ js i * (nowS js s + lenJ js i) + minS bs js n (s ||| 2 ^ i) = minS bs js n s := h3
   simp only [costF]
   rw [← e] at h3' ⊢
   rw [c]
   exact h3'

theorem GrP.split {bs : List Nat} {js : List (Int × Int)} {n : Nat} : ∀ {a b : List Nat} {s : Nat}, GrP bs js n s (a ++ b) → GrP bs js n (stO s a) b
 | [], _, _, h => h
 | i :: a, b, s, h => GrP.split (a := a) (b := b) (s := s ||| 2 ^ i) h.2

end Go.Sim


namespace Go.Proofs.YtelmdbpaoifmoaaGreat
open Go.Sim

theorem C60 {p : Value} {js : List (Int × Int)} {bs : List Nat} {n : Nat} {h : Heap} {K : Value → Heap → Prop} (hp : PL h p js bs) (hn : js.length = n) (hn10 : n ≤ 10) (hsm : smallJ js) (hbl : bs.length = n) (hb : ∀ b ∈ bs, b < 2 ^ n) (hu : acyc bs n)
  (hk : ∀ im es h', EX h h' → h'[im]? = some (.imap .u16 es) → MapOK js bs n es → (findI ((0 : Nat) : Int) es).isSome = true → K (.map (some im)) h') : CallP Tryz.prog 60 [p] h K := by
 have hpt : ∃ i, p = pt i 0 := let ⟨i, _, _, e, _⟩ := hp; ⟨i, e⟩
 obtain ⟨i, rfl⟩ := hpt
 refine f60 ?_
 have bx : iBox 125 h (pt i 0) = some (pt h.length 0, h ++ [.arr 125 [pt i 0]]) := rfl
 have mk : ∀ g : Heap, iMkMapI .u16 g = some (.map (some g.length), g ++ [.imap .u16 []]) := fun _ => rfl
 simp only [T60, bx, OH_some, mk]
 have k0 : (h ++ [IObj.arr 125 [pt i 0]] ++ [.imap .u16 []])[h.length]? = some (.arr 125 [pt i 0]) := by simp
 have k1 : (h ++ [IObj.arr 125 [pt i 0]] ++ [.imap .u16 []])[h.length + 1]? = some (.imap .u16 []) := by simp
 have x1 : EX h (h ++ [IObj.arr 125 [pt i 0]] ++ [.imap .u16 []]) := (EX.append _ _).push _
 have e1 : (h ++ [IObj.arr 125 [pt i 0]]).length = h.length + 1 := by simp
 have e2 : (h ++ [IObj.arr 125 [pt i 0]] ++ [IObj.imap .u16 []]).length = h.length + 2 := by simp
 rw [e1]
 generalize h ++ [IObj.arr 125 [pt i 0]] ++ [.imap .u16 []] = g at k0 k1 x1 e2 ⊢
 have c0 : objCells g h.length = some [pt i 0] := by simp [objCells, k0]
 simp only [load_cell c0, OP_some]
 refine C61 (hp.mono x1) (by omega) ?_
 rw [hn, full_eq]
 have hup : oMupdI .u16 g (.map (some (h.length + 1))) (U (fullS n)) (.int .i64 0) = some (undef, g.set (h.length + 1) (.imap .u16 [((fullS n : Nat), I 0)])) := updI k1 _ _
 simp only [hup, OH_some]
 have y2 : EX h (g.set (h.length + 1) (.imap .u16 [(((fullS n : Nat) : Int), I 0)])) := x1.set (by omega) _
 have m0 : (g.set (h.length + 1) (.imap .u16 [(((fullS n : Nat) : Int), I 0)]))[h.length]? = some (.arr 125 [pt i 0]) := by rw [List.getElem?_set_ne (by omega)]; exact k0
 have m1 : (g.set (h.length + 1) (.imap .u16 [(((fullS n : Nat) : Int), I 0)]))[h.length + 1]? = some (.imap .u16 [(((fullS n : Nat) : Int), I 0)]) := set_get k1
 have ml : (g.set (h.length + 1) (.imap .u16 [(((fullS n : Nat) : Int), I 0)])).length = h.length + 2 := by rw [List.length_set]; exact e2
 generalize g.set (h.length + 1) (.imap .u16 [(((fullS n : Nat) : Int), I 0)]) = g2 at y2 m0 m1 ml ⊢
 have a72 : ∀ g : Heap, iAlloc 128 [(.map none)] g = some (pt g.length 0, g ++ [.arr 128 [.map none]]) := fun _ => rfl
 have a74 : ∀ g : Heap, iAlloc 133 [.nilFunc] g = some (pt g.length 0, g ++ [.arr 133 [.nilFunc]]) := fun _ => rfl
 have s72 : oStore 1 (g2 ++ [IObj.arr 128 [.map none]]) (pt (h.length + 2) 0) (.map (some (h.length + 1))) = some (undef, g2 ++ [.arr 128 [.map (some (h.length + 1))]]) := by
  rw [← ml]; simp [oStore, iStore, noTuple, vcells, Value.cells, setAt]
 simp only [a72, OH_some, ml, s72, a74, List.length_append, List.length_cons, List.length_nil, Nat.zero_add]
 have s74 : ∀ v : Value, noTuple v = true → vcells v = [v] → oStore 1 (g2 ++ [IObj.arr 128 [.map (some (h.length + 1))]] ++ [.arr 133 [.nilFunc]]) (pt (h.length + 2 + 1) 0) v = some (undef, g2 ++ [IObj.arr 128 [.map (some (h.length + 1))]] ++ [.arr 133 [v]]) := by
  intro v h1 h2
  have hl : (g2 ++ [IObj.arr 128 [.map (some (h.length + 1))]] ++ [.arr 133 [.nilFunc]])[h.length + 2 + 1]? = some (.arr 133 [.nilFunc]) := by
   have : h.length + 2 + 1 = (g2 ++ [IObj.arr 128 [.map (some (h.length + 1))]]).length := by simp [ml]
   rw [this]; simp
  rw [store_at hl (by simp) h1 h2]
  have : h.length + 2 + 1 = (g2 ++ [IObj.arr 128 [.map (some (h.length + 1))]]).length := by simp [ml]
  rw [this]
  simp
 rw [s74 _ rfl rfl]
 simp only [OH_some]
 have xx : EX g2 (g2 ++ [IObj.arr 128 [.map (some (h.length + 1))]] ++ [.arr 133 [.func (.func 97) #[] #[pt (h.length + 2) 0, pt h.length 0, pt (h.length + 2 + 1) 0]]]) := (EX.append _ _).push _
 have n2 : (g2 ++ [IObj.arr 128 [.map (some (h.length + 1))]] ++ [.arr 133 [.func (.func 97) #[] #[pt (h.length + 2) 0, pt h.length 0, pt (h.length + 2 + 1) 0]]])[h.length + 2]? = some (.arr 128 [.map (some (h.length + 1))]) := by
  rw [← ml]; simp
 have n3 : (g2 ++ [IObj.arr 128 [.map (some (h.length + 1))]] ++ [.arr 133 [.func (.func 97) #[] #[pt (h.length + 2) 0, pt h.length 0, pt (h.length + 2 + 1) 0]]])[h.length + 2 + 1]? = some (.arr 133 [.func (.func 97) #[] #[pt (h.length + 2) 0, pt h.length 0, pt (h.length + 2 + 1) 0]]) := by
  have : h.length + 2 + 1 = (g2 ++ [IObj.arr 128 [.map (some (h.length + 1))]]).length := by simp [ml]
  rw [List.getElem?_append_right (by omega), this]
  simp
 generalize g2 ++ [IObj.arr 128 [.map (some (h.length + 1))]] ++ [.arr 133 [.func (.func 97) #[] #[pt (h.length + 2) 0, pt h.length 0, pt (h.length + 2 + 1) 0]]] = g3 at xx n2 n3 ⊢
 have env : EnvC (h.length + 1) (h.length + 2) h.length (h.length + 2 + 1) (pt i 0) js bs g3 := by
  refine ⟨?_, ?_, ?_, hp.mono (y2.trans xx)⟩
  ·simp [objCells, n2]
  ·simp [objCells, xx.get m0]
  ·simp [objCells, n3]
 simp only [load_cell env.c, OP_some]
 refine callVP_fn ok35 ?_
 have hpos : 0 < 2 ^ n := Nat.pow_pos (by decide)
 refine C97 hn hn10 hsm hbl hb hu (fullS n) 0 (by omega) hpos env (xx.get m1) ⟨?_, ?_, ?_⟩ ?_
 ·intro s v hv
  simp only [findI] at hv
  split at hv
  ·rename_i he
   injection hv with hv
   exact ⟨fullS n, he, by unfold fullS; omega, by rw [minS_full]; exact hv.symm⟩
  ·cases hv
 ·simp [findI]
 ·intro s hs hin
  simp only [findI] at hin
  rw [if_neg (by omega)] at hin
  cases hin
 ·intro h' es' x3 hm3 ok3 _ hin3
  have env3 := env.mono (x3.cx (xx.get m1))
  simp only [load_cell env3.o, OP_some]
  refine hk _ es' h' ?_ hm3 ok3 hin3
  refine ⟨Nat.le_trans (y2.trans xx).1 x3.1, fun d hd => ?_⟩
  rw [x3.2 d (Nat.lt_of_lt_of_le hd (y2.trans xx).1) (by omega)]
  exact (y2.trans xx).2 d hd

theorem endF_now {bs : List Nat} {n : Nat} (js : List (Int × Int)) (hn : n ≤ 10) : ∀ {l : List Nat} {s : Nat}, okO bs n s l = true → endF js (nowS js s) l = nowS js (stO s l)
 | [], s, _ => rfl
 | i :: l, s, h => by
  simp only [okO, Bool.and_eq_true, decide_eq_true_eq] at h
  simp only [endF, stO]
  rw [← now_step js (show i < 10 by omega) (rdyS_bit h.1.2)]
  exact endF_now js hn h.2

theorem lenJ_ones {i : Nat} (hi : i < 10) : lenJ (List.replicate 10 (1, 0)) i = 1 := by
 unfold lenJ
 rw [List.getD_eq_getElem?_getD, List.getElem?_replicate, if_pos hi]; rfl

theorem endF_ones : ∀ (l : List Nat) (x : Int), (∀ i ∈ l, i < 10) → endF (List.replicate 10 (1, 0)) x l = x + l.length
 | [], x, _ => by simp [endF]
 | i :: l, x, hx => by
  have hi : i < 10 := hx i (by simp)
  have e := lenJ_ones hi
  simp only [endF, e, endF_ones l _ fun j hj => hx j (by simp [hj]), List.length_cons]
  omega

theorem ok_len10 {bs : List Nat} {n : Nat} (hn : n ≤ 10) {l : List Nat} (h : okO bs n 0 l = true) : l.length ≤ 10 := by
 have h1 := endF_now (List.replicate 10 (1, 0)) hn h
 rw [now_zero, endF_ones l 0 fun i hi => Nat.lt_of_lt_of_le (okO_lt h i hi) hn] at h1
 have h7 : ∀ (s m : Nat), sumL (listS' s m) (lenJ (List.replicate 10 (1, 0))) ≤ m := by
  intro s m
  induction m with
  | zero => simp [listS', sumL]
  | succ m ih =>
   have : lenJ (List.replicate 10 (1, 0)) m ≤ 1 := by
    by_cases hm : m < 10
    ·rw [lenJ_ones hm]; omega
    ·simp only [lenJ, List.getD_eq_getElem?_getD]
     rw [List.getElem?_eq_none (by simp; omega)]
     simp
   simp only [listS']
   split
   ·simp only [sumL_append, sumL]; omega
   ·omega
 have := h7 (stO 0 l) 10
 unfold nowS at h1
 omega

theorem ok_length {bs : List Nat} {n : Nat} (hn : n ≤ 10) {l : List Nat} (h : okO bs n 0 l = true) (hf : stO 0 l = fullS n) : l.length = n := by
 have h1 := endF_now (List.replicate 10 (1, 0)) hn h
 rw [hf, now_zero] at h1
 rw [endF_ones l 0 fun i hi => Nat.lt_of_lt_of_le (okO_lt h i hi) hn] at h1
 have h3 : ∀ n, n ≤ 10 → nowS (List.replicate 10 (1, 0)) (fullS n) = n := by
  intro n hn
  match n, hn with
  | 0, _ => decide
  | 1, _ => decide
  | 2, _ => decide
  | 3, _ => decide
  | 4, _ => decide
  | 5, _ => decide
  | 6, _ => decide
  | 7, _ => decide
  | 8, _ => decide
  | 9, _ => decide
  | 10, _ => decide
  | n + 11, h => omega
 rw [h3 n hn] at h1
 omega

theorem OwnS.ns {b : Nat} {g : Heap} {v : Value} {l : List Nat} (o : OwnS b g 3 v (l.map fun i : Nat => I i)) (hl : l.length ≤ 1000) : NS g v .i64 (l.map fun i : Nat => (i : Int)) := by
 rcases o with ⟨h1, h2⟩ | ⟨a, _, h2, h3⟩
 ·have : l = [] := by simpa using h2
  rw [this, h1]
  exact NS.nil g .i64
 ·rw [h2, List.length_map]
  have := NS.sl (h := g) (e := 3) (i := a) (k := .i64) (ns := l.map fun i : Nat => (i : Int)) (.inr (by simp [objCells, h3])) (by simp [maxLen]; omega)
  rw [List.length_map] at this
  exact this

theorem OwnS.base {b c : Nat} {hx : Heap} {e : TypeId} {v : Value} {xs : List Value} (o : OwnS c hx e v xs) (h : b ≤ c) : OwnS b hx e v xs := by
 rcases o with o | ⟨i, h1, h2, h3⟩
 ·exact .inl o
 ·exact .inr ⟨i, by omega, h2, h3⟩

theorem C19 {vj vp : Value} {js ps : List (Int × Int)} {h : Heap} {K : Value → Heap → Prop} (hj : PS h vj js) (hp : PS h vp ps) (hjl : js.length ≤ 1000) (hpl0 : ps.length ≤ 1000)
  (hk0 : validB js ps = false → ∀ h', EX h h' → K (.tuple #[.slice none 0 0, I 0, I 1]) h')
  (hk : Vd js ps js.length (bsOf ps js.length) → validB js ps = true → ∀ v h' l, EX h h' → OwnS h.length h' 3 v (l.map fun i : Nat => I i) → GrP (bsOf ps js.length) js js.length 0 l → l.length = js.length → K (.tuple #[v, I (costF js 0 l), I 0]) h') : CallP Tryz.prog 19 [vj, vp] h K := by
 refine f19 (C59v hj hp hjl hpl0 (fun hv p g xg => ?_) (fun vd hv p g xg hpl => ?_))
 ·simp only [ext_tuple, pair0, pair1, OP_some, un_not, Bool.not_false, IfP_true]
  exact hk0 hv g xg
 have hk := hk vd hv
 have hbs := vd.is
 have h10 := vd.n10
 have h1 := vd.n1
 have hu := vd.ac
 have hsm := vd.small
 clear vd
 generalize bsOf ps js.length = bs at *
 generalize hn : js.length = n at *
 have hbl := hbs.len
 have hsF : smallF js := hsm.all
 have h2n : (2 : Nat) ^ n ≤ 2 ^ 10 := Nat.pow_le_pow_right (by decide) h10
 have hb1024 : ∀ b ∈ bs, b < 1024 := fun b hb => Nat.lt_of_lt_of_le (hbs.lt b hb) h2n
 have hpos : 0 < 2 ^ n := Nat.pow_pos (by decide)
 simp only [ext_tuple, pair0, pair1, OP_some, un_not, Bool.not_true, IfP_false]
 refine C60 hpl hn h10 hsm hbl hbs.lt hu ?_
 intro im es g2 xg2 hm ok hin0
 have hjg := hj.mono (xg.trans xg2)
 refine loopL (σ := List Nat × Value × Heap) (fun q => [q.2.1, U (stO 0 q.1)]) (fun q => q.2.2)
  (fun q => EX g2 q.2.2 ∧ OwnS g2.length q.2.2 3 q.2.1 (q.1.map fun i : Nat => I i) ∧ okO bs n 0 q.1 = true ∧ (findI ((stO 0 q.1 : Nat) : Int) es).isSome = true ∧ costF js 0 q.1 + minS bs js n (stO 0 q.1) = minS bs js n 0 ∧ ∀ r, GrP bs js n (stO 0 q.1) r → GrP bs js n 0 (q.1 ++ r)) (fun q => 2 ^ n - stO 0 q.1)
  ([], .slice none 0 0, g2) rfl rfl ⟨EX.refl _, .inl ⟨rfl, rfl⟩, rfl, hin0, by simp [costF, stO], fun r hr => hr⟩ ?_
 rintro ⟨l, v, g3⟩ ⟨x3, own, hok, hin, hcost, hgr⟩ L hL
 simp only at x3 own hok hin hcost hgr hL ⊢
 have hs : stO 0 l < 2 ^ n := stO_lt hpos (okO_lt hok)
 have hpl3 := (hpl.mono xg2).mono x3
 have hm3 := x3.get hm
 have hend := endF_now js h10 hok
 rw [now_zero] at hend
 rw [q19z11]
 refine C61 hpl3 (by omega) ?_
 rw [hn, full_eq]
 have hbr := minS_bound hsF h10 hu hpos
 simp only [bin_neq, OP_some]
 refine IfP_of (fun hne => ?_) fun heq => ?_
 ·have hne : ¬ stO 0 l = fullS n := by
   intro he
   rw [he] at hne
   simp at hne
  have hsf : stO 0 l < fullS n := by unfold fullS at *; omega
  refine C62 hpl3 hsm (by omega) (by rw [hn]; exact hs) ?_
  intro g4 xg4
  have hnow : sumJ js (listS (stO 0 l) 10) = nowS js (stO 0 l) := by
   have : ∀ s m, listS s m = listS' s m := by
    intro s m
    induction m with
    | zero => rfl
    | succ m ih => simp only [listS, listS', ih]
   unfold sumJ nowS
   rw [this]; rfl
  rw [hnow]
  have hspec := minS_spec hsF h10 hu hsf
  generalize hsd : stO 0 l = s at *
  have hnb := now_bound hsF s
  simp only [hjg.len, OP_some, hn]
  refine loopL (σ := Nat × Heap) (fun q => [v, U s, I q.1]) (fun q => q.2) (fun q => q.1 ≤ n ∧ EX g4 q.2 ∧ ∀ i, i < q.1 → ¬ (rdyS bs s i = true ∧ weiJ js i * (nowS js s + lenJ js i) + minS bs js n (s ||| 2 ^ i) = minS bs js n s)) (fun q => n - q.1) (0, g4) rfl rfl ⟨Nat.zero_le _, EX.refl _, fun i hi => by omega⟩ ?_
  rintro ⟨i, g5⟩ ⟨hi, x5, hno⟩ L2 hL2
  simp only at hi x5 hno hL2 ⊢
  have x35 := xg4.trans x5
  have hpl5 := hpl3.mono x35
  rw [q19z18]
  simp only [bin_lss, OP_some, IfP_dec]
  refine ⟨fun hlt => ?_, fun hge => ?_⟩
  ·have hin2 : i < n := by omega
   obtain ⟨b, o, r1, r2, r3, r4⟩ := PS.getD (hjg.mono (x3.trans x35)) (show i < js.length by omega)
   have e30 : ∀ g : Heap, iAlloc 46 [(.int .i64 (0)), (.int .i64 (0))] g = some (pt g.length 0, g ++ [.arr 46 [I 0, I 0]]) := fun _ => rfl
   have st2 : ∀ (g : Heap) (t : TypeId) (a b : Int), oStore 2 (g ++ [.arr t [I 0, I 0]]) (pt g.length 0) (.agg #[I a, I b]) = some (undef, g ++ [.arr t [I a, I b]]) := by
    intro g t a b
    simp [oStore, iStore, noTuple, vcells, Value.cells, setAt]
   simp only [r1, r4, OP_some, e30, OH_some, st2]
   have l0 : iLoad false 1 (g5 ++ [IObj.arr 46 [I (js.getD i (0, 0)).1, I (js.getD i (0, 0)).2]]) (pt g5.length 0) = some (I (js.getD i (0, 0)).1) := load_last rfl
   have l1 : iLoad false 1 (g5 ++ [IObj.arr 46 [I (js.getD i (0, 0)).1, I (js.getD i (0, 0)).2]]) (pt g5.length 1) = some (I (js.getD i (0, 0)).2) := load_last rfl
   have xp : EX g5 (g5 ++ [IObj.arr 46 [I (js.getD i (0, 0)).1, I (js.getD i (0, 0)).2]]) := EX.append _ _
   have hll : (js.getD i (0, 0)).1 = lenJ js i := rfl
   have hww : (js.getD i (0, 0)).2 = weiJ js i := rfl
   rw [hll, hww] at l0 l1 xp ⊢
   generalize g5 ++ [IObj.arr 46 [I (lenJ js i), I (weiJ js i)]] = g6 at l0 l1 xp ⊢
   have hm6 := (x35.trans xp).get hm3
   refine C63 (hpl5.mono xp) (by omega) (by omega) (by omega) hb1024 ?_
   rw [rdy_eq]
   have skip : (¬ (rdyS bs s i = true ∧ weiJ js i * (nowS js s + lenJ js i) + minS bs js n (s ||| 2 ^ i) = minS bs js n s)) → (OP (iBin .add (I i) (.int .i64 (1))) fun x71 =>
     ([vj, p, .map (some im), I (nowS js s), vj, I n] : List Value) = [vj, p, .map (some im), I (nowS js s), vj, I n] ∧ L2 [v, U s, x71] g6) := by
    intro hneg
    simp only [bin_add, OP_some, inc i (by omega), true_and]
    exact hL2 (i + 1, g6) ⟨by show i + 1 ≤ n; omega, x5.trans xp, fun j hj => by
     by_cases hji : j = i
     ·subst hji; exact hneg
     ·exact hno j (by show j < i; simp only at hj; omega)⟩ (by show n - (i + 1) < n - i; omega)
   cases hr : rdyS bs s i with
   | false =>
    simp only [GdP_ft, iPick_f, OP_some, IfP_false, true_and]
    have := skip (by rw [hr]; rintro ⟨h9, _⟩; cases h9)
    simp only [bin_add, OP_some, true_and] at this ⊢
    exact this
   | true =>
    have hp2 : (2 : Nat) ^ i < 1024 := Nat.lt_of_lt_of_le (Nat.pow_lt_pow_right (by decide) (show i < 10 by omega)) (by decide)
    have hlw := hsF i
    have hcb := c_bound hsF s i
    have hlt2 := or_lt hs hin2
    have hmb := minS_bound hsF h10 hu hlt2
    have hw1 : IntKind.wrap .i64 (nowS js s + lenJ js i) = nowS js s + lenJ js i := wrap64 (by omega) (by omega)
    have hw2 : IntKind.wrap .i64 (weiJ js i * (nowS js s + lenJ js i)) = weiJ js i * (nowS js s + lenJ js i) := wrap64 (by omega) (by omega)
    have hw3 : IntKind.wrap .i64 (weiJ js i * (nowS js s + lenJ js i) + minS bs js n (s ||| 2 ^ i)) = weiJ js i * (nowS js s + lenJ js i) + minS bs js n (s ||| 2 ^ i) := wrap64 (by omega) (by omega)
    have hinx := ok.next s hsf hin i hin2 hr
    simp only [GdP_tt, fadr_pt, Nat.add_zero, Nat.zero_add, l0, l1, OP_some, bin_add, hw1, bin_mul, hw2, shlK skU (show i < 11 by omega), orK skU (show s < 1024 by omega) hp2, lookI' hm6, ok.look hin, ok.look hinx, Option.getD_some, hw3, bin_eql, iPick_t, true_and]
    refine IfP_of (fun he => ?_) fun hne2 => ?_
    ·have he : weiJ js i * (nowS js s + lenJ js i) + minS bs js n (s ||| 2 ^ i) = minS bs js n s := of_decide_eq_true he
     have hok2 : okO bs n 0 (l ++ [i]) = true := by
      rw [okO_append, hok, hsd]
      simp [okO, hin2, hr]
     have hs2 : stO 0 (l ++ [i]) = s ||| 2 ^ i := by
      rw [stO_append, hsd]; rfl
     have hll : l.length ≤ 10 := ok_len10 h10 hok
     refine app1 (h0 := g2) (xs := l.map fun i : Nat => I i) (OwnS.keep own fun d m hv hd => ?_) (x3.trans (x35.trans xp)) (by simp; omega) (by simp [maxLen]; omega) rfl rfl ?_
     ·obtain ⟨_, q2, _⟩ := own.lt hv
      exact (x35.trans xp).2 d q2
     ·intro v' g7 x7 own7
      have hce := costF_append js 0 l [i]
      have e1 : costF js (endF js 0 l) [i] = weiJ js i * (nowS js s + lenJ js i) := by
       rw [hend]; simp [costF]
      have := hL (l ++ [i], v', g7) ⟨x7, by simpa using own7, hok2, by show (findI ((stO 0 (l ++ [i]) : Nat) : Int) es).isSome = true; rw [hs2]; exact hinx, by
       show costF js 0 (l ++ [i]) + minS bs js n (stO 0 (l ++ [i])) = minS bs js n 0
       rw [hs2, hce, e1]; omega, by
       show ∀ r, GrP bs js n (stO 0 (l ++ [i])) r → GrP bs js n 0 (l ++ [i] ++ r)
       rw [hs2]
       intro r hr2
       have := hgr (i :: r) ⟨⟨⟨hin2, hr⟩, he, hno⟩, hr2⟩
       simpa using this⟩ (by
       show 2 ^ n - stO 0 (l ++ [i]) < 2 ^ n - s
       rw [hs2]
       have := lt_or_pow (rdyS_bit hr)
       omega)
      simp only [hs2] at this
      exact this
    ·have h9 := skip fun h9 => (of_decide_eq_false hne2) h9.2
     simp only [bin_add, OP_some, true_and] at h9 ⊢
     exact h9
  ·exfalso
   have hie : i = n := by omega
   subst hie
   obtain ⟨⟨j, j1, j2, j3⟩, _⟩ := hspec
   exact hno j j1 ⟨j2, j3.symm⟩
 ·have he : stO 0 l = fullS n := by
   have h9 : ¬ ¬ ((stO 0 l : Nat) : Int) = ((fullS n : Nat) : Int) := by
    intro h9
    simp [h9] at heq
   have := Classical.not_not.1 h9
   omega
  have hlen := ok_length h10 hok he
  rw [q19z26]
  have z : (.int .u16 0 : Value) = U 0 := rfl
  rw [z]
  simp only [lookI' hm3, ok.look hin0, Option.getD_some, OP_some, true_and]
  rw [he, minS_full] at hcost
  have hc : costF js 0 l = minS bs js n 0 := by omega
  rw [← hc]
  have hg := hgr [] he
  rw [List.append_nil] at hg
  exact hk v g3 l (xg.trans (xg2.trans x3)) (OwnS.base own (xg.trans xg2).1) hg hlen

end Go.Proofs.YtelmdbpaoifmoaaGreat


namespace Go.Proofs.YtelmdbpaoifmoaaGreat
open Go.Sim
variable (P : Program) (K : VK)
/-! F37: pommel/pommellaw06.made -/
noncomputable def oc37 := compFn Tryz.prog 37 [[], [], [], [0, 1, 2, 3, 11], [10, 12], [0, 1, 2, 3, 10, 11, 12, 22], [0, 1, 2, 3, 10, 11, 12, 22, 25], [], [], [], [1, 10, 11], [], [1, 10, 11], [], [1, 10], [11, 13], [1, 10, 11, 13, 63], [1, 10, 11, 13, 63, 65], [], [], [], [], [], [], [1, 10, 11, 13], [10, 11], []]
@[irreducible] noncomputable def c37 : ICode := icOf oc37
@[irreducible] noncomputable def c37z6 : ICode := c37.r.r.l.r.l.l
@[irreducible] noncomputable def c37z3 : ICode := c37.r.r.r
@[irreducible] noncomputable def c37z10 : ICode := c37z6.l.l.r.l
@[irreducible] noncomputable def c37z8 : ICode := c37z6.l.r
@[irreducible] noncomputable def c37z7 : ICode := c37z6.r
@[irreducible] noncomputable def c37z15 : ICode := c37z3.l
@[irreducible] noncomputable def c37z12 : ICode := c37z10.r.l
@[irreducible] noncomputable def c37z18 : ICode := c37z15.r.l
@[irreducible] noncomputable def c37z22 : ICode := c37z18.l.r.l.l
@[irreducible] noncomputable def c37z19 : ICode := c37z18.r
@[irreducible] noncomputable def c37z26 : ICode := c37z22.l.l.r.l
@[irreducible] noncomputable def c37z24 : ICode := c37z22.l.r
@[irreducible] noncomputable def c37z23 : ICode := c37z22.r
@[irreducible] noncomputable def c37z36 : ICode := c37z19.l
@[irreducible] noncomputable def c37z28 : ICode := c37z26.r.l
@[irreducible] noncomputable def c37z35 : ICode := c37z23.r.l
theorem k37 : oc37 = some (111, c37, [.tmp 8, .tmp 9]) := by kernel_rfl
def K37z0 (_P : Program) (K : VK) : Kont := bodyP [.tmp 8, .tmp 9] K
def K37z3 : Kont := thenK (iwpP P c37z3 (K37z0 P K)) (K37z0 P K)
def K37z5 : Kont := inBlockK 0 (K37z3 P K)
def K37z6 (x0 y1 x2 x3 p11 : Value) (L1 : LK) : Kont := thenK (fun f' h'' => (([0, 1, 2, 3, 11] : List Nat).map f' : List Value) = [x0, y1, x2, x3, p11] ∧ L1 (([10, 12] : List Nat).map f') h'') (K37z5 P K)
def K37z7 (x0 y1 x2 x3 p11 : Value) (L1 : LK) : Kont := thenK (iwpP P c37z7 (K37z6 P K x0 y1 x2 x3 p11 L1)) (K37z6 P K x0 y1 x2 x3 p11 L1)
def K37z8 (x0 y1 x2 x3 p11 : Value) (L1 : LK) : Kont := thenK (iwpP P c37z8 (K37z7 P K x0 y1 x2 x3 p11 L1)) (K37z7 P K x0 y1 x2 x3 p11 L1)
def K37z19 : Kont := thenK (iwpP P c37z19 (K37z0 P K)) (K37z0 P K)
def K37z21 : Kont := inBlockK 2 (K37z19 P K)
def K37z22 (y1 j10 : Value) (L1 : LK) : Kont := thenK (fun f' h'' => (([1, 10] : List Nat).map f' : List Value) = [y1, j10] ∧ L1 (([11, 13] : List Nat).map f') h'') (K37z21 P K)
def K37z23 (y1 j10 : Value) (L1 : LK) : Kont := thenK (iwpP P c37z23 (K37z22 P K y1 j10 L1)) (K37z22 P K y1 j10 L1)
def K37z24 (y1 j10 : Value) (L1 : LK) : Kont := thenK (iwpP P c37z24 (K37z23 P K y1 j10 L1)) (K37z23 P K y1 j10 L1)
def p37z6 (x0 y1 x2 x3 p11 : Value) (L1 : LK) (xs : List Value) (h : Heap) : Prop := CutP (iwpP P c37z6 (K37z6 P K x0 y1 x2 x3 p11 L1)) ([0, 1, 2, 3, 11] ++ [10, 12]) ([x0, y1, x2, x3, p11] ++ xs) h
def p37z10 (x0 y1 x2 x3 j10 p11 i12 x22 : Value) (L1 : LK) (h : Heap) : Prop := CutP (iwpP P c37z10 (K37z8 P K x0 y1 x2 x3 p11 L1)) [0, 1, 2, 3, 10, 11, 12, 22] [x0, y1, x2, x3, j10, p11, i12, x22] h
def p37z12 (x0 y1 x2 x3 j10 p11 i12 x22 x25 : Value) (L1 : LK) (h : Heap) : Prop := CutP (iwpP P c37z12 (K37z8 P K x0 y1 x2 x3 p11 L1)) [0, 1, 2, 3, 10, 11, 12, 22, 25] [x0, y1, x2, x3, j10, p11, i12, x22, x25] h
def p37z15 (y1 j10 p11 : Value) (h : Heap) : Prop := CutP (iwpP P c37z15 (K37z0 P K)) [1, 10, 11] [y1, j10, p11] h
def p37z18 (y1 j10 p11 : Value) (h : Heap) : Prop := CutP (iwpP P c37z18 (K37z0 P K)) [1, 10, 11] [y1, j10, p11] h
def p37z22 (y1 j10 : Value) (L1 : LK) (xs : List Value) (h : Heap) : Prop := CutP (iwpP P c37z22 (K37z22 P K y1 j10 L1)) ([1, 10] ++ [11, 13]) ([y1, j10] ++ xs) h
def p37z26 (y1 j10 p11 i13 x63 : Value) (L1 : LK) (h : Heap) : Prop := CutP (iwpP P c37z26 (K37z24 P K y1 j10 L1)) [1, 10, 11, 13, 63] [y1, j10, p11, i13, x63] h
def p37z28 (y1 j10 p11 i13 x63 x65 : Value) (L1 : LK) (h : Heap) : Prop := CutP (iwpP P c37z28 (K37z24 P K y1 j10 L1)) [1, 10, 11, 13, 63, 65] [y1, j10, p11, i13, x63, x65] h
def p37z35 (y1 j10 p11 i13 : Value) (L1 : LK) (h : Heap) : Prop := CutP (iwpP P c37z35 (K37z22 P K y1 j10 L1)) [1, 10, 11, 13] [y1, j10, p11, i13] h
def p37z36 (j10 p11 : Value) (h : Heap) : Prop := CutP (iwpP P c37z36 (K37z0 P K)) [10, 11] [j10, p11] h
theorem q37z12 (x0 y1 x2 x3 j10 p11 i12 x22 x25 : Value) (L1 : LK) (h : Heap) : p37z12 P K x0 y1 x2 x3 j10 p11 i12 x22 x25 L1 h =
 (OP (iPick x22 x25 (.bool false)) fun x26 =>
 IfP x26
 (OP (iAdrSl 2 x0 i12) fun x32 =>
 OP (iAdrArr 2 1 x32 (.int .i64 (0))) fun x33 =>
 OP (iLoad false 1 h x33) fun x34 =>
 (True) ∧
 OP (iConv .i64 x34) fun x35 =>
 OP (iBin .rem x35 (.int .i64 (50))) fun x36 =>
 OP (iBin .add x36 (.int .i64 (1))) fun x37 =>
 OP (iAdrSl 2 x0 i12) fun x40 =>
 OP (iAdrArr 2 1 x40 (.int .i64 (1))) fun x41 =>
 OP (iLoad false 1 h x41) fun x42 =>
 (True) ∧
 OP (iConv .i64 x42) fun x43 =>
 OP (iBin .sub (.int .i64 (51)) x3) fun x45 =>
 OP (iBin .rem x43 x45) fun x46 =>
 OP (iBin .add x46 x3) fun x48 =>
 OP (iBuild [(.int .i64 (0)), (.int .i64 (0))] [(0, 1, x37), (1, 1, x48)]) fun x49 =>
 OH (iMkSl 46 1 [(.int .i64 (0)), (.int .i64 (0))] h [(0, 2, x49)]) fun x50 h_1 =>
 (True) ∧
 OH (iApp 46 2 16 h_1 j10 x50) fun x51 h_2 =>
 (True) ∧
 OP (iBin .add i12 (.int .i64 (1))) fun x28 =>
 ([x0, y1, x2, x3, p11] : List Value) = [x0, y1, x2, x3, p11] ∧ L1 [x51, x28] h_2)
 (p37z15 P K y1 j10 p11 h)) := (CutP_def _ _ _ _).trans (by kernel_rfl)
theorem q37z10 (x0 y1 x2 x3 j10 p11 i12 x22 : Value) (L1 : LK) (h : Heap) : p37z10 P K x0 y1 x2 x3 j10 p11 i12 x22 L1 h =
 (GdP x22 true
 (OP (iBin .lss i12 x2) fun x25 =>
 p37z12 P K x0 y1 x2 x3 j10 p11 i12 x22 x25 L1 h)
 (p37z12 P K x0 y1 x2 x3 j10 p11 i12 x22 undef L1 h)) := (CutP_def _ _ _ _).trans (by kernel_rfl)
theorem q37z6 (x0 y1 x2 x3 p11 : Value) (L1 : LK) (j10 i12 : Value) (h : Heap) : p37z6 P K x0 y1 x2 x3 p11 L1 [j10, i12] h =
 (OP (iLenSl x0) fun x20 =>
 OP (iBin .lss i12 x20) fun x21 =>
 p37z10 P K x0 y1 x2 x3 j10 p11 i12 x21 L1 h) := (CutP_def _ _ _ _).trans (by kernel_rfl)
theorem q37z28 (y1 j10 p11 i13 x63 x65 : Value) (L1 : LK) (h : Heap) : p37z28 P K y1 j10 p11 i13 x63 x65 L1 h =
 (OP (iPick x63 x65 (.bool false)) fun x66 =>
 IfP x66
 (OP (iAdrSl 2 y1 i13) fun x71 =>
 OP (iAdrArr 2 1 x71 (.int .i64 (0))) fun x72 =>
 OP (iLoad false 1 h x72) fun x73 =>
 (True) ∧
 OP (iConv .i64 x73) fun x74 =>
 OP (iLenSl j10) fun x76 =>
 OP (iBin .rem x74 x76) fun x77 =>
 OP (iAdrSl 2 y1 i13) fun x80 =>
 OP (iAdrArr 2 1 x80 (.int .i64 (1))) fun x81 =>
 OP (iLoad false 1 h x81) fun x82 =>
 (True) ∧
 OP (iConv .i64 x82) fun x83 =>
 OP (iLenSl j10) fun x85 =>
 OP (iBin .rem x83 x85) fun x86 =>
 OP (iBin .eql x77 x86) fun x89 =>
 IfP x89
 (p37z35 P K y1 j10 p11 i13 L1 h)
 (OP (iBin .mul (.int .i64 (7)) x77) fun x91 =>
 OP (iBin .rem x91 (.int .i64 (11))) fun x92 =>
 OP (iBin .mul (.int .i64 (7)) x86) fun x94 =>
 OP (iBin .rem x94 (.int .i64 (11))) fun x95 =>
 OP (iBin .lss x92 x95) fun x96 =>
 IfP x96
 (OP (iBuild [(.int .i64 (0)), (.int .i64 (0))] [(0, 1, x77), (1, 1, x86)]) fun x100 =>
 OH (iMkSl 88 1 [(.int .i64 (0)), (.int .i64 (0))] h [(0, 2, x100)]) fun x101 h_1 =>
 OH (iApp 88 2 16 h_1 p11 x101) fun x102 h_2 =>
 p37z35 P K y1 j10 x102 i13 L1 h_2)
 (OP (iBuild [(.int .i64 (0)), (.int .i64 (0))] [(0, 1, x86), (1, 1, x77)]) fun x106 =>
 OH (iMkSl 88 1 [(.int .i64 (0)), (.int .i64 (0))] h [(0, 2, x106)]) fun x107 h_1 =>
 OH (iApp 88 2 16 h_1 p11 x107) fun x108 h_2 =>
 p37z35 P K y1 j10 x108 i13 L1 h_2)))
 (p37z36 P K j10 p11 h)) := (CutP_def _ _ _ _).trans (by kernel_rfl)
theorem q37z26 (y1 j10 p11 i13 x63 : Value) (L1 : LK) (h : Heap) : p37z26 P K y1 j10 p11 i13 x63 L1 h =
 (GdP x63 true
 (OP (iBin .lss i13 (.int .i64 (20))) fun x65 =>
 p37z28 P K y1 j10 p11 i13 x63 x65 L1 h)
 (p37z28 P K y1 j10 p11 i13 x63 undef L1 h)) := (CutP_def _ _ _ _).trans (by kernel_rfl)
theorem q37z35 (y1 j10 p11 i13 : Value) (L1 : LK) (h : Heap) : p37z35 P K y1 j10 p11 i13 L1 h =
 (OP (iBin .add i13 (.int .i64 (1))) fun x68 =>
 ([y1, j10] : List Value) = [y1, j10] ∧ L1 [p11, x68] h) := (CutP_def _ _ _ _).trans (by kernel_rfl)
theorem q37z22 (y1 j10 : Value) (L1 : LK) (p11 i13 : Value) (h : Heap) : p37z22 P K y1 j10 L1 [p11, i13] h =
 (OP (iLenSl y1) fun x61 =>
 OP (iBin .lss i13 x61) fun x62 =>
 p37z26 P K y1 j10 p11 i13 x62 L1 h) := (CutP_def _ _ _ _).trans (by kernel_rfl)
theorem q37z36 (j10 p11 : Value) (h : Heap) : p37z36 P K j10 p11 h =
 (K (.tuple #[j10, p11]) h) := (CutP_def _ _ _ _).trans (by kernel_rfl)
theorem q37z18 (y1 j10 p11 : Value) (h : Heap) : p37z18 P K y1 j10 p11 h =
 (LoopP [p11, (.int .i64 (0))] h fun L1 xs hx =>
 p37z22 P K y1 j10 L1 xs hx) := (CutP_def _ _ _ _).trans (by kernel_rfl)
theorem q37z15 (y1 j10 p11 : Value) (h : Heap) : p37z15 P K y1 j10 p11 h =
 (OP (iLenSl j10) fun x53 =>
 OP (iBin .eql x53 (.int .i64 (0))) fun x54 =>
 IfP x54
 (OP (iBuild [(.int .i64 (0)), (.int .i64 (0))] [(0, 1, (.int .i64 (1))), (1, 1, (.int .i64 (1)))]) fun x56 =>
 OH (iMkSl 46 1 [(.int .i64 (0)), (.int .i64 (0))] h [(0, 2, x56)]) fun x57 h_1 =>
 OH (iApp 46 2 16 h_1 j10 x57) fun x58 h_2 =>
 p37z18 P K y1 x58 p11 h_2)
 (p37z18 P K y1 j10 p11 h)) := (CutP_def _ _ _ _).trans (by kernel_rfl)
def T37 (x0 y1 x2 x3 : Value) (h : Heap) : Prop :=
 OH (iMkSl 46 0 [(.int .i64 (0)), (.int .i64 (0))] h []) fun x16 h_1 =>
 OH (iMkSl 88 0 [(.int .i64 (0)), (.int .i64 (0))] h_1 []) fun x17 h_2 =>
 LoopP [x16, (.int .i64 (0))] h_2 fun L1 xs hx =>
 p37z6 P K x0 y1 x2 x3 x17 L1 xs hx
theorem e37 (x0 y1 x2 x3 : Value) (h : Heap) : iwpP P c37 (bodyP [.tmp 8, .tmp 9] K) (frame0 [x0, y1, x2, x3]) h = T37 P K x0 y1 x2 x3 h := by kernel_rfl
theorem f37 {K : VK} {x0 y1 x2 x3 : Value} {h : Heap} (H : T37 Tryz.prog K x0 y1 x2 x3 h) : CallP Tryz.prog 37 [x0, y1, x2, x3] h K :=
 callP_intro k37 (Nat.le_of_ble_eq_true rfl) ((e37 Tryz.prog K x0 y1 x2 x3 h).mpr H)
end Go.Proofs.YtelmdbpaoifmoaaGreat

namespace Go.Proofs.YtelmdbpaoifmoaaGreat
open Go.Sim

theorem app_p2 {hx : Heap} {e : TypeId} {id : Nat} {ps : List (Int × Int)} {a b : Int} {K : Value → Heap → Prop} (hg : hx[id]? = some (.arr e (pcells ps))) (hl : ps.length ≤ 1000)
  (hk : ∀ id' hx', hx.length ≤ id' → XM id hx hx' → hx'[id']? = some (.arr e (pcells (ps ++ [(a, b)]))) → K (sl e id' 0 (ps ++ [(a, b)]).length) hx') :
  OH (iMkSl e 1 [.int .i64 0, .int .i64 0] hx [(0, 2, .agg #[I a, I b])]) fun x37 h_1 => OH (iApp e 2 16 h_1 (sl e id 0 ps.length) x37) K := by
 have e1 : iMkSl e 1 [.int .i64 0, .int .i64 0] hx [(0, 2, .agg #[I a, I b])] = some (sl e hx.length 0 1, hx ++ [.arr e [I a, I b]]) := rfl
 simp only [e1, OH_some]
 have e2 : sliceCells (hx ++ [.arr e [I a, I b]]) 2 (sl e hx.length 0 1) = some [I a, I b] := by simp [sliceCells, sl, objCells]
 have e3 : lenOfSl (sl e hx.length 0 1) = some 1 := rfl
 have hlt := (List.getElem?_eq_some_iff.1 hg).1
 have hg' : (hx ++ [.arr e [I a, I b]])[id]? = some (.arr e (pcells ps)) := by rw [List.getElem?_append_left hlt]; exact hg
 have hpl := pcells_length ps
 have hpp : pcells (ps ++ [(a, b)]) = pcells ps ++ [I a, I b] := by simp [pcells]
 refine OH_of (v := sl e (hx.length + 1) 0 (ps ++ [(a, b)]).length) (h := (hx ++ [IObj.arr e [I a, I b]]).set id IObj.dead ++ [IObj.arr e (pcells (ps ++ [(a, b)]))]) ?_
  (hk _ _ (by omega) (((XM.ex (EX.append _ _)).set _).trans (XM.ex (EX.append _ _))) (by rw [List.getElem?_append_right (by simp)]; simp))
 simp only [iApp, e2, e3]
 simp only [sl, hg']
 rw [if_pos ⟨trivial, trivial, by omega, by omega, by unfold maxLen; omega⟩, if_neg (by omega), hpp]
 simp

theorem bld (a b : Int) : iBuild [(.int .i64 (0)), (.int .i64 (0))] [(0, 1, I a), (1, 1, I b)] = some (.agg #[I a, I b]) := rfl

theorem rem_pos (k : IntKind) {a b : Int} (ha : 0 ≤ a) (hb : 0 < b) : iBin .rem (.int k a) (.int k b) = some (.int k (a % b)) := by
 simp only [iBin, iInt, if_true]
 rw [if_neg (by omega), Int.tmod_eq_emod_of_nonneg ha]

theorem bcells_get : ∀ {ps : List (Int × Int)} {k : Nat} {p : Int × Int}, ps[k]? = some p → (bcells ps)[2 * k]? = some (.int .u8 p.1) ∧ (bcells ps)[2 * k + 1]? = some (.int .u8 p.2)
 | [], k, p, h => by simp at h
 | q :: ps, 0, p, h => by simp at h; subst h; simp [bcells]
 | q :: ps, k + 1, p, h => by
  have := bcells_get (ps := ps) (k := k) (p := p) (by simpa using h)
  rw [show 2 * (k + 1) = 2 * k + 1 + 1 by omega]
  simpa [bcells] using this

theorem IS.byte {h : Heap} {v : Value} {ps : List (Int × Int)} (p : IS h 44 2 v (bcells ps) ps.length) {i : Nat} (hi : i < ps.length) :
  ∃ b o, iAdrSl 2 v (I i) = some (pt b o) ∧ iLoad false 1 h (pt b o) = some (.int .u8 ps[i].1) ∧ iLoad false 1 h (pt b (o + 1)) = some (.int .u8 ps[i].2) := by
 rcases p.2 with ⟨rfl, h0⟩ | ⟨b, rfl, hc⟩
 ·omega
 ·have hc := hc.resolve_left (by omega)
  obtain ⟨g1, g2⟩ := bcells_get (List.getElem?_eq_getElem hi)
  refine ⟨b, i * 2, ?_, ?_, ?_⟩
  ·have : (0 : Int) ≤ (i : Int) ∧ (i : Int) < (ps.length : Int) := by omega
   simp [iAdrSl, sl, this]
  ·rw [Nat.mul_comm]; simp [iLoad, hc, iPart, g1]
  ·rw [Nat.mul_comm]; simp [iLoad, hc, iPart, g2]

def jobM (least : Int) (p : Int × Int) : Int × Int := (p.1 % 50 + 1, p.2 % (51 - least) + least)
def madeJ (xs : List (Int × Int)) (most : Nat) (least : Int) : List (Int × Int) := if xs.take most = [] then [(1, 1)] else (xs.take most).map (jobM least)
def pairM (n : Nat) (p : Int × Int) : Option (Int × Int) :=
 if p.1 % n = p.2 % n then none else if 7 * (p.1 % n) % 11 < 7 * (p.2 % n) % 11 then some (p.1 % n, p.2 % n) else some (p.2 % n, p.1 % n)
def madeP (ys : List (Int × Int)) (n : Nat) : List (Int × Int) := (ys.take 20).filterMap (pairM n)

theorem madeJ_len (xs : List (Int × Int)) {most : Nat} (least : Int) (h1 : 1 ≤ most) (h : most ≤ 10) : 1 ≤ (madeJ xs most least).length ∧ (madeJ xs most least).length ≤ 10 := by
 unfold madeJ
 split
 ·simp
 ·rename_i hne
  have : 0 < (xs.take most).length := by
   cases e : xs.take most with
   | nil => exact absurd e hne
   | cons => simp
  rw [List.length_map]
  rw [List.length_take] at *
  omega

theorem IPS.arr {h : Heap} {e : TypeId} {i : Nat} {ps : List (Int × Int)} (hg : h[i]? = some (.arr e (pcells ps))) : IPS h e (sl e i 0 ps.length) ps :=
 ⟨by rw [pcells_length]; omega, .inr ⟨i, rfl, .inr (by simp [objCells, hg])⟩⟩

theorem C37 {vx vy : Value} {xs ys : List (Int × Int)} {most least : Nat} {h : Heap} {K : Value → Heap → Prop} (hx : IS h 44 2 vx (bcells xs) xs.length) (bx : byte2 xs) (hy : IS h 44 2 vy (bcells ys) ys.length) (by2 : byte2 ys) (h1 : 1 ≤ most) (hm : most ≤ 10) (hl : least ≤ 1)
  (hk : ∀ v w h', EX h h' → IPS h' 46 v (madeJ xs most least) → IPS h' 88 w (madeP ys (madeJ xs most least).length) → K (.tuple #[v, w]) h') : CallP Tryz.prog 37 [vx, vy, I most, I least] h K := by
 refine f37 ?_
 have m0 : ∀ (t : TypeId) (g : Heap), iMkSl t 0 [(.int .i64 (0)), (.int .i64 (0))] g [] = some (sl t g.length 0 0, g ++ [.arr t []]) := fun _ _ => rfl
 simp only [T37, m0, OH_some]
 have xa : EX h (h ++ [.arr 46 []]) := EX.append _ _
 have ka : (h ++ [IObj.arr 46 []])[h.length]? = some (.arr 46 []) := get_last
 have la : (h ++ [IObj.arr 46 []]).length = h.length + 1 := by simp
 rw [la]
 generalize h ++ [IObj.arr 46 []] = ga at xa ka la ⊢
 have xb : EX ga (ga ++ [.arr 88 []]) := EX.append _ _
 have kb : (ga ++ [IObj.arr 88 []])[h.length + 1]? = some (.arr 88 []) := by rw [← la]; exact get_last
 generalize ga ++ [IObj.arr 88 []] = gb at xb kb ⊢
 have kba := xb.get ka
 -- the jobs
 refine loopL (σ := Nat × Nat × Heap) (fun q => [sl 46 q.2.1 0 ((xs.take q.1).map (jobM least)).length, I q.1]) (fun q => q.2.2)
  (fun q => (q.1 ≤ xs.length ∧ q.1 ≤ most) ∧ EX h q.2.2 ∧ h.length ≤ q.2.1 ∧ q.2.1 ≠ h.length + 1 ∧ q.2.2[q.2.1]? = some (.arr 46 (pcells ((xs.take q.1).map (jobM least)))) ∧ q.2.2[h.length + 1]? = some (.arr 88 [])) (fun q => xs.length - q.1)
  (0, h.length, gb) rfl rfl ⟨⟨Nat.zero_le _, Nat.zero_le _⟩, xa.trans xb, Nat.le_refl _, by show h.length ≠ h.length + 1; omega, kba, kb⟩ ?_
 rintro ⟨i, id, g⟩ ⟨⟨hi, him⟩, xg, hid, hne, kj, kp⟩ L hL
 simp only at hi him xg hid hne kj kp hL ⊢
 rw [q37z6]
 simp only [hx.len, OP_some, bin_lss]
 rw [q37z10]
 have go : i < xs.length → i < most → p37z12 Tryz.prog K vx vy (I most) (I least) (sl 46 id 0 ((xs.take i).map (jobM least)).length) (sl 88 (h.length + 1) 0 0) (I i) (B true) (B true) L g := by
  intro hlt hlt2
  rw [q37z12]
  obtain ⟨b, o, g1, g2, g3⟩ := IS.byte (hx.mono xg) hlt
  obtain ⟨⟨z1, z2⟩, z3, z4⟩ := bx _ (List.getElem_mem hlt)
  have a0 : iAdrArr 2 1 (pt b o) (.int .i64 (0)) = some (pt b o) := by simp [iAdrArr]
  have a1 : iAdrArr 2 1 (pt b o) (.int .i64 (1)) = some (pt b (o + 1)) := by simp [iAdrArr]
  have wl : IntKind.wrap .i64 (51 - (least : Int)) = 51 - (least : Int) := wrap64 (by omega) (by omega)
  have wc : ∀ z : Int, 0 ≤ z → z < 256 → IntKind.wrap .i64 z = z := fun z h1 h2 => wrap64 (by omega) (by omega)
  have e1 : iBin .rem (I xs[i].1) (.int .i64 50) = some (I (xs[i].1 % 50)) := rem_pos .i64 z1 (by decide)
  have e2 : iBin .rem (I xs[i].2) (I (51 - (least : Int))) = some (I (xs[i].2 % (51 - (least : Int)))) := rem_pos .i64 z3 (by omega)
  have w1 : IntKind.wrap .i64 (xs[i].1 % 50 + 1) = xs[i].1 % 50 + 1 := wrap64 (by omega) (by omega)
  have hb0 := Int.emod_nonneg xs[i].2 (show 51 - (least : Int) ≠ 0 by omega)
  have hb1 := Int.emod_lt_of_pos xs[i].2 (show 0 < 51 - (least : Int) by omega)
  have w2 : IntKind.wrap .i64 (xs[i].2 % (51 - (least : Int)) + least) = xs[i].2 % (51 - (least : Int)) + least := wrap64 (by omega) (by omega)
  simp only [iPick_t, OP_some, IfP_true, g1, a0, g2, true_and, conv_int, wc _ z1 z2, e1, bin_add, w1, a1, g3, wc _ z3 z4, bin_sub, wl, e2, w2, bld]
  have hle : ((xs.take i).map (jobM least)).length ≤ 1000 := by rw [List.length_map, List.length_take]; omega
  refine app_p2 kj hle ?_
  intro id' g' hid' x' k'
  have hti : (xs.take (i + 1)).map (jobM least) = (xs.take i).map (jobM least) ++ [(xs[i].1 % 50 + 1, xs[i].2 % (51 - (least : Int)) + least)] := by
   rw [List.take_succ_eq_append_getElem hlt, List.map_append]; rfl
  rw [← hti] at k' ⊢
  have hlg := (List.getElem?_eq_some_iff.1 kp).1
  simp only [OP_some, inc i (by omega), true_and]
  exact hL (i + 1, id', g') ⟨⟨by show i + 1 ≤ _; omega, by show i + 1 ≤ most; omega⟩, x'.toE xg hid, by show h.length ≤ id'; omega, by show id' ≠ h.length + 1; omega, k', x'.get (fun e => hne e.symm) kp⟩ (by show xs.length - (i + 1) < xs.length - i; omega)
 -- behind the jobs
 have after : (xs.take i).map (jobM least) = (xs.take most).map (jobM least) → p37z15 Tryz.prog K vy (sl 46 id 0 ((xs.take i).map (jobM least)).length) (sl 88 (h.length + 1) 0 0) g := by
  intro hall
  rw [q37z15]
  have rest : ∀ (id : Nat) (g : Heap), EX h g → h.length ≤ id → id ≠ h.length + 1 → g[id]? = some (.arr 46 (pcells (madeJ xs most least))) → g[h.length + 1]? = some (.arr 88 []) → p37z18 Tryz.prog K vy (sl 46 id 0 (madeJ xs most least).length) (sl 88 (h.length + 1) 0 0) g := by
   intro id g xg hid hne kj kp
   have hjl := madeJ_len xs (least : Int) h1 hm
   rw [q37z18]
   generalize madeJ xs most least = J at *
   refine loopL (σ := Nat × Nat × Heap) (fun q => [sl 88 q.2.1 0 ((ys.take q.1).filterMap (pairM J.length)).length, I q.1]) (fun q => q.2.2)
    (fun q => (q.1 ≤ ys.length ∧ q.1 ≤ 20) ∧ EX h q.2.2 ∧ h.length ≤ q.2.1 ∧ id ≠ q.2.1 ∧ q.2.2[q.2.1]? = some (.arr 88 (pcells ((ys.take q.1).filterMap (pairM J.length)))) ∧ q.2.2[id]? = some (.arr 46 (pcells J))) (fun q => ys.length - q.1)
    (0, h.length + 1, g) rfl rfl ⟨⟨Nat.zero_le _, Nat.zero_le _⟩, xg, by show h.length ≤ h.length + 1; omega, hne, kp, kj⟩ ?_
   rintro ⟨i, ip, g⟩ ⟨⟨hi, hi20⟩, xg, hip, hne2, kp, kj⟩ L hL
   simp only at hi hi20 xg hip hne2 kp kj hL ⊢
   have hnl : (ys.take i).length ≤ 20 := by rw [List.length_take]; omega
   have hfl : ((ys.take i).filterMap (pairM J.length)).length ≤ 20 := Nat.le_trans (List.length_filterMap_le ..) hnl
   have done : i = ys.length ∨ i = 20 → p37z36 Tryz.prog K (sl 46 id 0 J.length) (sl 88 ip 0 ((ys.take i).filterMap (pairM J.length)).length) g := by
    intro h2
    rw [q37z36]
    have e : ys.take i = ys.take 20 := by
     rcases h2 with h2 | h2
     ·rw [h2, List.take_length, List.take_of_length_le (by omega)]
     ·rw [h2]
    have e2 : (ys.take i).filterMap (pairM J.length) = madeP ys J.length := by unfold madeP; rw [e]
    rw [e2] at kp ⊢
    exact hk _ _ g xg (IPS.arr kj) (IPS.arr kp)
   rw [q37z22]
   simp only [hy.len, OP_some, bin_lss]
   rw [q37z26]
   by_cases hlt : i < ys.length
   rotate_left
   ·rw [decide_eq_false (show ¬ (i : Int) < (ys.length : Int) by omega)]
    simp only [GdP_ft]
    rw [q37z28]
    simp only [iPick_f, OP_some, IfP_false]
    exact done (.inl (by omega))
   rw [decide_eq_true (show (i : Int) < (ys.length : Int) by omega)]
   simp only [GdP_tt, bin_lss, OP_some]
   rw [q37z28]
   by_cases hlt2 : i < 20
   rotate_left
   ·rw [decide_eq_false (show ¬ (i : Int) < 20 by omega)]
    simp only [iPick_t, OP_some, IfP_false]
    exact done (.inr (by omega))
   rw [decide_eq_true (show (i : Int) < 20 by omega)]
   obtain ⟨b, o, g1, g2, g3⟩ := IS.byte (hy.mono xg) hlt
   obtain ⟨⟨z1, z2⟩, z3, z4⟩ := by2 _ (List.getElem_mem hlt)
   have a0 : iAdrArr 2 1 (pt b o) (.int .i64 (0)) = some (pt b o) := by simp [iAdrArr]
   have a1 : iAdrArr 2 1 (pt b o) (.int .i64 (1)) = some (pt b (o + 1)) := by simp [iAdrArr]
   have wc : ∀ z : Int, 0 ≤ z → z < 256 → IntKind.wrap .i64 z = z := fun z h1 h2 => wrap64 (by omega) (by omega)
   have lenJ : iLenSl (sl 46 id 0 J.length) = some (I J.length) := rfl
   have e1 : iBin .rem (I ys[i].1) (I (J.length : Int)) = some (I (ys[i].1 % (J.length : Int))) := rem_pos .i64 z1 (by omega)
   have e2 : iBin .rem (I ys[i].2) (I (J.length : Int)) = some (I (ys[i].2 % (J.length : Int))) := rem_pos .i64 z3 (by omega)
   have hti : (ys.take (i + 1)).filterMap (pairM J.length) = (ys.take i).filterMap (pairM J.length) ++ (pairM J.length ys[i]).toList := by
    rw [List.take_succ_eq_append_getElem hlt, List.filterMap_append]
    congr 1
   have hpm : pairM J.length ys[i] = if ys[i].1 % (J.length : Int) = ys[i].2 % (J.length : Int) then none else if 7 * (ys[i].1 % (J.length : Int)) % 11 < 7 * (ys[i].2 % (J.length : Int)) % 11 then some (ys[i].1 % (J.length : Int), ys[i].2 % (J.length : Int)) else some (ys[i].2 % (J.length : Int), ys[i].1 % (J.length : Int)) := rfl
   have ba0 := Int.emod_nonneg ys[i].1 (show (J.length : Int) ≠ 0 by omega)
   have ba1 := Int.emod_lt_of_pos ys[i].1 (show 0 < (J.length : Int) by omega)
   have bc0 := Int.emod_nonneg ys[i].2 (show (J.length : Int) ≠ 0 by omega)
   have bc1 := Int.emod_lt_of_pos ys[i].2 (show 0 < (J.length : Int) by omega)
   simp only [iPick_t, OP_some, IfP_true, g1, a0, g2, true_and, conv_int, wc _ z1 z2, lenJ, e1, a1, g3, wc _ z3 z4, e2]
   generalize ys[i].1 % (J.length : Int) = a at *
   generalize ys[i].2 % (J.length : Int) = c at *
   simp only [bin_eql, OP_some]
   by_cases hac : a = c
   ·rw [decide_eq_true hac]
    simp only [IfP_true]
    rw [q37z35]
    simp only [bin_add, OP_some, inc i (by omega), true_and]
    rw [hpm, if_pos hac] at hti
    simp only [Option.toList_none, List.append_nil] at hti
    have := hL (i + 1, ip, g) ⟨⟨by show i + 1 ≤ _; omega, by show i + 1 ≤ 20; omega⟩, xg, hip, hne2, by
     show g[ip]? = some (.arr 88 (pcells ((ys.take (i + 1)).filterMap (pairM J.length))))
     rw [hti]; exact kp, kj⟩ (by show ys.length - (i + 1) < ys.length - i; omega)
    simp only [hti] at this
    exact this
   rw [decide_eq_false hac]
   have w7a : IntKind.wrap .i64 (7 * a) = 7 * a := wrap64 (by omega) (by omega)
   have w7c : IntKind.wrap .i64 (7 * c) = 7 * c := wrap64 (by omega) (by omega)
   have ra : iBin .rem (I (7 * a)) (.int .i64 11) = some (I (7 * a % 11)) := rem_pos .i64 (by omega) (by decide)
   have rc : iBin .rem (I (7 * c)) (.int .i64 11) = some (I (7 * c % 11)) := rem_pos .i64 (by omega) (by decide)
   simp only [IfP_false, bin_mul, OP_some, w7a, ra, w7c, rc, bin_lss]
   have nx : ∀ u w : Int, pairM J.length ys[i] = some (u, w) → OH (iMkSl 88 1 [.int .i64 0, .int .i64 0] g [(0, 2, .agg #[I u, I w])]) fun x101 h_1 => OH (iApp 88 2 16 h_1 (sl 88 ip 0 ((ys.take i).filterMap (pairM J.length)).length) x101) fun x102 h_2 =>
     p37z35 Tryz.prog K vy (sl 46 id 0 J.length) x102 (I i) L h_2 := by
    intro u w hp
    rw [hp] at hti
    simp only [Option.toList_some] at hti
    refine app_p2 kp (by omega) ?_
    intro id' g' hid' x' k'
    rw [← hti] at k' ⊢
    have hlg := (List.getElem?_eq_some_iff.1 kj).1
    rw [q37z35]
    simp only [bin_add, OP_some, inc i (by omega), true_and]
    exact hL (i + 1, id', g') ⟨⟨by show i + 1 ≤ _; omega, by show i + 1 ≤ 20; omega⟩, x'.toE xg hip, by show h.length ≤ id'; have := xg.1; omega, by show id ≠ id'; omega, k', x'.get hne2 kj⟩ (by show ys.length - (i + 1) < ys.length - i; omega)
   rw [if_neg hac] at hpm
   by_cases hlt7 : 7 * a % 11 < 7 * c % 11
   ·rw [decide_eq_true hlt7]
    simp only [IfP_true, bld, OP_some]
    exact nx a c (by rw [hpm, if_pos hlt7])
   ·rw [decide_eq_false hlt7]
    simp only [IfP_false, bld, OP_some]
    exact nx c a (by rw [hpm, if_neg hlt7])
  have lj : iLenSl (sl 46 id 0 ((xs.take i).map (jobM least)).length) = some (I ((xs.take i).map (jobM least)).length) := rfl
  simp only [lj, OP_some, bin_eql]
  by_cases h0 : xs.take most = []
  ·have e0 : (xs.take i).map (jobM least) = [] := by rw [hall, h0]; rfl
   rw [e0] at kj ⊢
   rw [decide_eq_true (show (([] : List (Int × Int)).length : Int) = 0 from rfl)]
   simp only [IfP_true, bld, OP_some]
   refine app_p2 (ps := []) kj (by simp) ?_
   intro id' g' hid' x' k'
   have hlg := (List.getElem?_eq_some_iff.1 kp).1
   have eJ : madeJ xs most least = [] ++ [(1, 1)] := by unfold madeJ; rw [if_pos h0]; rfl
   rw [← eJ] at k' ⊢
   exact rest id' g' (x'.toE xg hid) (by omega) (by omega) k' (x'.get (fun e => hne e.symm) kp)
  ·have eJ : madeJ xs most least = (xs.take i).map (jobM least) := by unfold madeJ; rw [if_neg h0, hall]
   have hne0 : ¬ ((((xs.take i).map (jobM least)).length : Int) = 0) := by
    intro h9
    have : ((xs.take i).map (jobM least)).length = 0 := by omega
    rw [hall, List.length_map] at this
    exact h0 (List.length_eq_zero_iff.1 this)
   rw [decide_eq_false hne0]
   simp only [IfP_false]
   rw [← eJ] at kj ⊢
   exact rest id g xg hid hne kj kp
 by_cases hlt : i < xs.length
 ·rw [decide_eq_true (show (i : Int) < (xs.length : Int) by omega)]
  simp only [GdP_tt, bin_lss, OP_some]
  by_cases hlt2 : i < most
  ·rw [decide_eq_true (show (i : Int) < (most : Int) by omega)]
   exact go hlt hlt2
  ·rw [decide_eq_false (show ¬ (i : Int) < (most : Int) by omega)]
   rw [q37z12]
   simp only [iPick_t, OP_some, IfP_false]
   exact after (by rw [show i = most by omega])
 ·rw [decide_eq_false (show ¬ (i : Int) < (xs.length : Int) by omega)]
  simp only [GdP_ft]
  rw [q37z12]
  simp only [iPick_f, OP_some, IfP_false]
  exact after (by rw [show i = xs.length by omega, List.take_length, List.take_of_length_le (by omega)])


theorem perm_inj {a c : Int} (ha : 0 ≤ a) (ha2 : a < 10) (hc : 0 ≤ c) (hc2 : c < 10) (h : 7 * a % 11 = 7 * c % 11) : a = c := by omega

theorem madeP_rank {ys : List (Int × Int)} {n : Nat} (h1 : 1 ≤ n) (h10 : n ≤ 10) : ∀ p ∈ madeP ys n, ((0 ≤ p.1 ∧ p.1 < n) ∧ 0 ≤ p.2 ∧ p.2 < n) ∧ 7 * p.1 % 11 < 7 * p.2 % 11 := by
 intro p hp
 obtain ⟨q, _, hq⟩ := List.mem_filterMap.1 hp
 have a0 := Int.emod_nonneg q.1 (show (n : Int) ≠ 0 by omega)
 have a1 := Int.emod_lt_of_pos q.1 (show 0 < (n : Int) by omega)
 have c0 := Int.emod_nonneg q.2 (show (n : Int) ≠ 0 by omega)
 have c1 := Int.emod_lt_of_pos q.2 (show 0 < (n : Int) by omega)
 unfold pairM at hq
 generalize q.1 % (n : Int) = a at *
 generalize q.2 % (n : Int) = c at *
 split at hq
 ·cases hq
 ·rename_i hne
  split at hq
  ·rename_i hlt
   injection hq with hq
   subst hq
   exact ⟨⟨⟨a0, a1⟩, c0, c1⟩, hlt⟩
  ·rename_i hge
   injection hq with hq
   subst hq
   have : 7 * a % 11 ≠ 7 * c % 11 := fun e => hne (perm_inj (by omega) (by omega) (by omega) (by omega) e)
   exact ⟨⟨⟨c0, c1⟩, a0, a1⟩, by show 7 * c % 11 < 7 * a % 11; omega⟩

theorem madeP_len (ys : List (Int × Int)) (n : Nat) : (madeP ys n).length ≤ 20 := by
 refine Nat.le_trans (List.length_filterMap_le ..) ?_
 rw [List.length_take]; omega

theorem valid_of {js ps : List (Int × Int)} (hl : 1 ≤ js.length ∧ js.length ≤ 10) (hp : ps.length ≤ 40) (hj : ∀ j ∈ js, (1 ≤ j.1 ∧ j.1 ≤ 50) ∧ 0 ≤ j.2 ∧ j.2 ≤ 50) {rk : Int → Int} (rk0 : ∀ a, 0 ≤ rk a)
  (hr : ∀ p ∈ ps, ((0 ≤ p.1 ∧ p.1 < js.length) ∧ 0 ≤ p.2 ∧ p.2 < js.length) ∧ rk p.1 < rk p.2) : validB js ps = true := by
 have hpa : ps.all (pairB js.length) = true := by
  rw [List.all_eq_true]
  intro p hp
  obtain ⟨⟨⟨a1, a2⟩, a3, a4⟩, a5⟩ := hr p hp
  unfold pairB
  rw [decide_eq_true (show 0 ≤ min p.1 p.2 by omega), decide_eq_true (show max p.1 p.2 < js.length by omega), decide_eq_false (show ¬ p.1 = p.2 by rintro e; rw [e] at a5; omega)]
  rfl
 have hja : js.all jobB = true := by
  rw [List.all_eq_true]
  intro j hm
  obtain ⟨⟨a1, a2⟩, a3, a4⟩ := hj j hm
  unfold jobB
  rw [decide_eq_true a1, decide_eq_true a2, decide_eq_true a3, decide_eq_true a4]; rfl
 unfold validB formB
 rw [decide_eq_true hl.1, decide_eq_true hl.2, decide_eq_true hp, hpa, hja]
 have ac : acyc (bsOf ps js.length) js.length := by
  refine acyc_rank (fun i : Nat => (rk i).toNat) ?_
  intro i hi j hj
  have hb := (BS.of hpa).bit i hi j
  rw [hj] at hb
  have hm := of_decide_eq_true hb.symm
  obtain ⟨⟨⟨a1, a2⟩, _⟩, a5⟩ := hr _ hm
  have := rk0 (j : Int)
  exact ⟨by simp only at a2; omega, by simp only at a5; show (rk (j : Int)).toNat < (rk (i : Int)).toNat; omega⟩
 rw [rnd_of ac]
 simp

theorem jobM_small {least : Nat} (hl : least ≤ 1) (p : Int × Int) : (1 ≤ (jobM least p).1 ∧ (jobM least p).1 ≤ 50) ∧ (least ≤ (jobM least p).2) ∧ (jobM least p).2 ≤ 50 := by
 have hb0 := Int.emod_nonneg p.2 (show 51 - (least : Int) ≠ 0 by omega)
 have hb1 := Int.emod_lt_of_pos p.2 (show 0 < 51 - (least : Int) by omega)
 unfold jobM
 simp only
 omega

theorem madeJ_small (xs : List (Int × Int)) (most : Nat) {least : Nat} (hl : least ≤ 1) : ∀ j ∈ madeJ xs most least, (1 ≤ j.1 ∧ j.1 ≤ 50) ∧ (least : Int) ≤ j.2 ∧ j.2 ≤ 50 := by
 intro j hj
 unfold madeJ at hj
 split at hj
 ·rw [List.mem_singleton.1 hj]; simp only; omega
 ·obtain ⟨p, _, rfl⟩ := List.mem_map.1 hj
  exact jobM_small hl p

theorem made_valid (xs ys : List (Int × Int)) {most least : Nat} (h1 : 1 ≤ most) (hm : most ≤ 10) (hl : least ≤ 1) : validB (madeJ xs most least) (madeP ys (madeJ xs most least).length) = true := by
 have hlen := madeJ_len xs (least : Int) h1 hm
 refine valid_of hlen (by have := madeP_len ys (madeJ xs most least).length; omega) (fun j hj => ?_) (rk := fun a => 7 * a % 11) (fun a => by omega) (madeP_rank hlen.1 hlen.2)
 have := madeJ_small xs most hl j hj
 omega

end Go.Proofs.YtelmdbpaoifmoaaGreat


namespace Go.Sim

theorem nodup_sub_len {α : Type} [DecidableEq α] : ∀ {A B : List α}, A.Nodup → (∀ x ∈ A, x ∈ B) → A.length ≤ B.length
 | [], B, _, _ => by simp
 | a :: A, B, h, hs => by
  have hn := List.nodup_cons.1 h
  have ih := nodup_sub_len (A := A) (B := B.erase a) hn.2 fun x hx => by
   have hne : x ≠ a := fun e => hn.1 (e ▸ hx)
   exact (List.mem_erase_of_ne hne).2 (hs x (List.mem_cons_of_mem _ hx))
  have ha : a ∈ B := hs a (List.mem_cons_self ..)
  have := List.length_erase_of_mem ha
  have hp : 0 < B.length := List.length_pos_of_mem ha
  simp only [List.length_cons]
  omega

theorem minS_ex {bs : List Nat} {js : List (Int × Int)} (h : smallF js) {n : Nat} (hn : n ≤ 10) (hu : acyc bs n) : ∀ (f s : Nat), s < 2 ^ n → fullS n - s ≤ f → ∃ l, okO bs n s l = true ∧ stO s l = fullS n ∧ costF js (nowS js s) l = minS bs js n s
 | 0, s, hs, hf => by
  have e : s = fullS n := by unfold fullS at *; omega
  exact ⟨[], rfl, e, by rw [e, minS_full]; rfl⟩
 | f + 1, s, hs, hf => by
  by_cases e : s = fullS n
  ·exact ⟨[], rfl, e, by rw [e, minS_full]; rfl⟩
  ·obtain ⟨⟨i, q1, q2, q3⟩, _⟩ := minS_spec h hn hu (show s < fullS n by unfold fullS at *; omega)
   have hgt := lt_or_pow (rdyS_bit q2)
   obtain ⟨l, a, b, c⟩ := minS_ex h hn hu f _ (or_lt hs q1) (by omega)
   refine ⟨i :: l, by simp only [okO, q1, q2, a, decide_true, Bool.and_self], b, ?_⟩
   have e1 := now_step js (show i < 10 by omega) (rdyS_bit q2)
   simp only [costF]
   rw [← e1] at q3 ⊢
   rw [c]
   exact q3.symm


end Go.Sim


namespace Go.Sim


theorem stO_mem : ∀ (l : List Nat) (s j : Nat), (stO s l).testBit j = (s.testBit j || decide (j ∈ l))
 | [], s, j => by simp [stO]
 | i :: l, s, j => by
  simp only [stO, stO_mem l, testBit_or_pow]
  by_cases e : i = j
  ·subst e; simp
  ·have e' : ¬ j = i := fun h => e h.symm
   simp [e, e']

structure IsOrd (bs : List Nat) (n : Nat) (l : List Nat) : Prop where
 lt : ∀ i ∈ l, i < n
 nodup : l.Nodup
 all : ∀ i, i < n → i ∈ l
 before : l.Pairwise fun a b => (bs.getD a 0).testBit b = false
 self : ∀ i, i < n → ∀ j, (bs.getD i 0).testBit j = true → j < n ∧ j ≠ i

theorem okO_of {bs : List Nat} {n : Nat} : ∀ {l : List Nat} {S : Nat}, (∀ i ∈ l, i < n ∧ S.testBit i = false) → l.Nodup → l.Pairwise (fun a b => (bs.getD a 0).testBit b = false) → (∀ i ∈ l, ∀ j, (bs.getD i 0).testBit j = true → j ≠ i ∧ (S.testBit j = true ∨ j ∈ l)) → okO bs n S l = true
 | [], _, _, _, _, _ => rfl
 | i :: l, S, h1, h2, h3, h4 => by
  have hn := List.nodup_cons.1 h2
  have hp := List.pairwise_cons.1 h3
  have hi := h1 i (by simp)
  simp only [okO, Bool.and_eq_true, decide_eq_true_eq]
  refine ⟨⟨hi.1, ?_⟩, ?_⟩
  ·unfold rdyS
   rw [hi.2, Bool.not_false, Bool.true_and, subB_iff]
   intro j hj
   obtain ⟨b1, b2⟩ := h4 i (by simp) j hj
   rcases b2 with b2 | b2
   ·exact b2
   ·rcases List.mem_cons.1 b2 with b2 | b2
    ·exact absurd b2 b1
    ·rw [hp.1 j b2] at hj; cases hj
  ·refine okO_of (fun j hj => ?_) hn.2 hp.2 fun k hk j hj => ?_
   ·have := h1 j (by simp [hj])
    refine ⟨this.1, ?_⟩
    rw [testBit_or_pow, this.2, Bool.false_or]
    exact decide_eq_false fun e => hn.1 (e ▸ hj)
   ·obtain ⟨b1, b2⟩ := h4 k (by simp [hk]) j hj
    refine ⟨b1, ?_⟩
    rcases b2 with b2 | b2
    ·exact .inl (by rw [testBit_or_pow, b2]; rfl)
    ·rcases List.mem_cons.1 b2 with b2 | b2
     ·exact .inl (by rw [testBit_or_pow, b2]; simp)
     ·exact .inr b2

theorem IsOrd.ok {bs : List Nat} {n : Nat} {l : List Nat} (h : IsOrd bs n l) : okO bs n 0 l = true ∧ stO 0 l = fullS n := by
 refine ⟨okO_of (fun i hi => ⟨h.lt i hi, by simp⟩) h.nodup h.before fun i hi j hj => ?_, ?_⟩
 ·obtain ⟨a, b⟩ := h.self i (h.lt i hi) j hj
  exact ⟨b, .inr (h.all j a)⟩
 ·apply Nat.eq_of_testBit_eq
  intro j
  rw [stO_mem, fullS_bit]
  simp only [Nat.zero_testBit, Bool.false_or]
  rw [decide_eq_decide]
  exact ⟨fun hm => h.lt j hm, fun hl => h.all j hl⟩

def Turned (bs cs : List Nat) (n : Nat) : Prop := ∀ i j, i < n → j < n → (bs.getD i 0).testBit j = (cs.getD j 0).testBit i

theorem Turned.symm {bs cs : List Nat} {n : Nat} (t : Turned bs cs n) : Turned cs bs n := fun i j hi hj => (t j i hj hi).symm

theorem cost_now (js : List (Int × Int)) : ∀ (l : List Nat) (now : Int), costF js now l = now * sumL l (weiJ js) + costF js 0 l
 | [], now => by simp [costF, sumL]
 | i :: l, now => by
  simp only [costF, sumL]
  rw [cost_now js l (now + lenJ js i), cost_now js l (0 + lenJ js i)]
  simp only [Int.mul_add, Int.add_mul, Int.zero_add, Int.mul_comm (weiJ js i)]
  omega

theorem end_now (js : List (Int × Int)) : ∀ (l : List Nat) (now : Int), endF js now l = now + sumL l (lenJ js)
 | [], now => by simp [endF, sumL]
 | i :: l, now => by
  simp only [endF, sumL, end_now js l]; omega

end Go.Sim


namespace Go.Sim

theorem sumB_pow (f : Nat → Int) (s i : Nat) (hb : s.testBit i = false) : ∀ m, sumB f (s ||| 2 ^ i) m = sumB f s m + if i < m then f i else 0
 | 0 => by simp [sumB]
 | m + 1 => by
  simp only [sumB, testBit_or_pow, sumB_pow f s i hb m]
  by_cases h : i = m
  ·subst h; simp [hb]
  ·have e : decide (i = m) = false := decide_eq_false h
   rw [e, Bool.or_false]
   by_cases h2 : i < m
   ·rw [if_pos h2, if_pos (show i < m + 1 by omega)]; omega
   ·rw [if_neg h2, if_neg (show ¬ i < m + 1 by omega)]; omega

theorem sumB_stO (f : Nat → Int) : ∀ {l : List Nat} {s : Nat}, (∀ i ∈ l, i < 10 ∧ s.testBit i = false) → l.Nodup → sumB f (stO s l) 10 = sumB f s 10 + sumL l f
 | [], s, _, _ => by simp [stO, sumL]
 | i :: l, s, h, hn => by
  have hn := List.nodup_cons.1 hn
  have hi := h i (by simp)
  rw [stO, sumB_stO f (l := l) (fun j hj => ?_) hn.2, sumB_pow f s i hi.2, if_pos hi.1]
  ·simp only [sumL]; omega
  ·have := h j (by simp [hj])
   refine ⟨this.1, ?_⟩
   rw [testBit_or_pow, this.2]
   simp only [Bool.false_or, decide_eq_false_iff_not]
   rintro rfl
   exact hn.1 hj

theorem sumL_part (f : Nat → Int) (q : Nat → Bool) : ∀ l : List Nat, sumL (l.filter q) f + sumL (l.filter fun i => !q i) f = sumL l f
 | [] => by simp [sumL]
 | i :: l => by
  have ih := sumL_part f q l
  cases h : q i <;> simp [h, sumL] <;> omega

theorem stO_zero_or (d : Nat) (l : List Nat) : d ||| stO 0 l = stO d l := by
 apply Nat.eq_of_testBit_eq
 intro j
 rw [Nat.testBit_or, stO_mem l d j, stO_mem l 0 j]
 simp

theorem okO_cl {bs : List Nat} {n : Nat} : ∀ {l : List Nat} {d : Nat}, clB bs n d = true → okO bs n d l = true → clB bs n (stO d l) = true
 | [], _, h, _ => h
 | i :: l, d, h, ho => by
  simp only [okO, Bool.and_eq_true, decide_eq_true_eq] at ho
  refine okO_cl (l := l) ?_ ho.2
  rw [clB_iff] at h ⊢
  intro k hk hb j hj
  rw [testBit_or_pow, Bool.or_eq_true] at hb ⊢
  rcases hb with hb | hb
  ·exact .inl (h k hk hb j hj)
  ·have : i = k := of_decide_eq_true hb
   subst this
   have hr := ho.1.2
   unfold rdyS at hr
   rw [Bool.and_eq_true, subB_iff] at hr
   exact .inl (hr.2 j hj)

theorem okO_facts {bs : List Nat} {n : Nat} : ∀ {l : List Nat} {s : Nat}, okO bs n s l = true → (l.Nodup ∧ ∀ i ∈ l, s.testBit i = false) ∧ (l.Pairwise fun a b => (bs.getD a 0).testBit b = false) ∧ ∀ i ∈ l, ∀ j, (bs.getD i 0).testBit j = true → j ≠ i ∧ (s.testBit j = true ∨ j ∈ l) := by
 intro l
 induction l with
 | nil => intro s _; simp
 | cons i l ih =>
  intro s h
  simp only [okO, Bool.and_eq_true, decide_eq_true_eq] at h
  obtain ⟨⟨a1, a2⟩, a3, a4⟩ := ih h.2
  have hbit := rdyS_bit h.1.2
  have hsub : subB (bs.getD i 0) s = true := by
   have := h.1.2
   unfold rdyS at this
   rw [Bool.and_eq_true] at this
   exact this.2
  rw [subB_iff] at hsub
  have old : ∀ j ∈ l, s.testBit j = false ∧ j ≠ i := by
   intro j hj
   have := a2 j hj
   rw [testBit_or_pow, Bool.or_eq_false_iff] at this
   exact ⟨this.1, fun e => by subst e; simp at this⟩
  refine ⟨⟨?_, ?_⟩, ?_, ?_⟩
  ·exact List.nodup_cons.2 ⟨fun hm => (old i hm).2 rfl, a1⟩
  ·intro j hj
   rcases List.mem_cons.1 hj with rfl | hj
   ·exact hbit
   ·exact (old j hj).1
  ·refine List.pairwise_cons.2 ⟨fun j hj => ?_, a3⟩
   cases hc : (bs.getD i 0).testBit j with
   | false => rfl
   | true => have := hsub j hc; rw [(old j hj).1] at this; cases this
  ·intro k hk j hj
   rcases List.mem_cons.1 hk with rfl | hk
   ·have := hsub j hj
    exact ⟨fun e => (by subst e; rw [hbit] at this; cases this), .inl this⟩
   ·obtain ⟨b1, b2⟩ := a4 k hk j hj
    refine ⟨b1, ?_⟩
    rcases b2 with b2 | b2
    ·rw [testBit_or_pow, Bool.or_eq_true] at b2
     rcases b2 with b2 | b2
     ·exact .inl b2
     ·have : i = j := of_decide_eq_true b2
      subst this; exact .inr (by simp)
    ·exact .inr (by simp [b2])

def moreE (js : List (Int × Int)) (q : Nat → Bool) : List Nat → Int
 | [] => 0
 | i :: t => moreE js q t + if q i = true then 0 else weiJ js i * sumL (t.filter q) (lenJ js) - lenJ js i * sumL (t.filter q) (weiJ js)

theorem cost_part (js : List (Int × Int)) (q : Nat → Bool) : ∀ l : List Nat, costF js 0 (l.filter q ++ l.filter fun i => !q i) = costF js 0 l + moreE js q l
 | [] => by simp [costF, moreE]
 | i :: t => by
  have ih := cost_part js q t
  have hw := sumL_part (weiJ js) q t
  rw [costF_append, end_now, cost_now js _ (0 + sumL _ _)] at ih
  cases h : q i with
  | true =>
   simp only [List.filter_cons, h, if_true, Bool.not_true, Bool.false_eq_true, if_false, List.cons_append, costF, moreE, Int.add_zero]
   rw [cost_now js _ (0 + lenJ js i), cost_now js t (0 + lenJ js i), cost_part js q t, sumL_append, hw]
   omega
  | false =>
   simp only [List.filter_cons, h, if_true, Bool.not_false, Bool.false_eq_true, if_false, moreE]
   rw [costF_append, end_now]
   simp only [costF]
   rw [cost_now js t (0 + lenJ js i), cost_now js (t.filter fun i => !q i) (0 + sumL (t.filter q) (lenJ js) + lenJ js i), ← hw]
   generalize sumL (t.filter q) (lenJ js) = a at *
   generalize sumL (t.filter q) (weiJ js) = b at *
   generalize sumL (t.filter fun i => !q i) (weiJ js) = c at *
   generalize costF js 0 (t.filter q) = x at *
   generalize costF js 0 (t.filter fun i => !q i) = y at *
   generalize costF js 0 t = z at *
   generalize moreE js q t = e at *
   generalize lenJ js i = u at *
   generalize weiJ js i = v at *
   have e1 : z + e = x + ((0 + a) * c + y) := by omega
   grind

theorem filter_stO {b : Nat} {p : List Nat} : stO 0 (p.filter b.testBit) = stO 0 p &&& b := by
 apply Nat.eq_of_testBit_eq
 intro j
 rw [stO_mem, Nat.testBit_and, stO_mem]
 simp only [Nat.zero_testBit, Bool.false_or, List.mem_filter]
 cases h : b.testBit j <;> simp

theorem or_testBit_zero {d s j : Nat} (h : d &&& s = 0) (hs : s.testBit j = true) : d.testBit j = false := by
 have := congrArg (Nat.testBit · j) h
 simp only [Nat.testBit_and, Nat.zero_testBit, hs, Bool.and_true] at this
 exact this

theorem sidney_step {bs : List Nat} {js : List (Int × Int)} {n d b : Nat} {l : List Nat} (P : PosJ js n) (hn : n ≤ 10) (hm : MaxR bs js n d b) (hcl : clB bs n d = true)
  (ho : okO bs n d l = true) (hf : stO d l = fullS n) : costF js 0 (l.filter b.testBit ++ l.filter fun i => !b.testBit i) ≤ costF js 0 l := by
 rw [cost_part]
 have hb := hm.1
 have hL := lS_pos P hn hb.lt hb.ne
 obtain ⟨⟨nd, fr⟩, _, _⟩ := okO_facts ho
 have hlt := okO_lt ho
 have sums : ∀ (f : Nat → Int) (p : List Nat), p.Sublist l → sumB f (stO 0 p) 10 = sumL p f := by
  intro f p hp
  rw [sumB_stO f (fun i hi => ⟨by have := hlt i (hp.subset hi); omega, by simp⟩) (hp.nodup nd), sumB_zero]; simp
 -- whatever may come first has no greater ratio
 have ini : ∀ m, (m ≠ 0 → Rel1 bs n d m) → wS js m * lS js b - wS js b * lS js m ≤ 0 := by
  intro m h
  by_cases h0 : m = 0
  ·subst h0; simp [wS, lS, sumB_zero]
  ·have := hm.2 m (h h0); omega
 have rel : ∀ p t, l = p ++ t → stO 0 p ≠ 0 → Rel1 bs n d (stO 0 p) := by
  intro p t e h0
  subst e
  rw [okO_append, Bool.and_eq_true] at ho
  refine ⟨stO_lt (Nat.pow_pos (by decide)) (okO_lt ho.1), h0, ?_, ?_⟩
  ·apply Nat.eq_of_testBit_eq
   intro j
   rw [Nat.testBit_and, stO_mem]
   simp only [Nat.zero_testBit, Bool.false_or]
   by_cases hj : j ∈ p
   ·rw [fr j (by simp [hj])]; simp
   ·simp [hj]
  ·rw [stO_zero_or]; exact okO_cl hcl ho.1
 -- the part of a beginning that is in the set, and the other part
 have inS : ∀ p t, l = p ++ t → sumL (p.filter b.testBit) (weiJ js) * lS js b - wS js b * sumL (p.filter b.testBit) (lenJ js) ≤ 0 := by
  intro p t e
  have sub : (p.filter b.testBit).Sublist l := by rw [e]; exact List.filter_sublist.trans (List.sublist_append_left p t)
  rw [← sums _ _ sub, ← sums _ _ sub, filter_stO]
  refine ini _ fun h0 => ?_
  refine (rel p t e fun h => h0 (by rw [h]; simp)).and hb h0
 have outS : ∀ p t, l = p ++ t → sumL (p.filter fun i => !b.testBit i) (weiJ js) * lS js b - wS js b * sumL (p.filter fun i => !b.testBit i) (lenJ js) ≤ 0 := by
  intro p t e
  have sub : p.Sublist l := by rw [e]; exact List.sublist_append_left p t
  have sub1 : (p.filter b.testBit).Sublist l := List.filter_sublist.trans sub
  have q1 := sumL_part (weiJ js) b.testBit p
  have q2 := sumL_part (lenJ js) b.testBit p
  rw [← sums _ _ sub, ← sums _ _ sub1, filter_stO] at q1 q2
  have o1 := sumB_or (weiJ js) (stO 0 p) b 10
  have o2 := sumB_or (lenJ js) (stO 0 p) b 10
  have := ini (stO 0 p ||| b) fun h0 => by
   by_cases h : stO 0 p = 0
   ·rw [h, Nat.zero_or]; exact hb
   ·exact (rel p t e h).or hb
  unfold wS lS at this ⊢
  have e1 : sumL (p.filter fun i => !b.testBit i) (weiJ js) = sumB (weiJ js) (stO 0 p ||| b) 10 - sumB (weiJ js) b 10 := by omega
  have e2 : sumL (p.filter fun i => !b.testBit i) (lenJ js) = sumB (lenJ js) (stO 0 p ||| b) 10 - sumB (lenJ js) b 10 := by omega
  rw [e1, e2, Int.sub_mul, Int.mul_sub]
  omega
 have allS : ∀ f : Nat → Int, sumL (l.filter b.testBit) f = sumB f b 10 := by
  intro f
  rw [← sums f _ List.filter_sublist, filter_stO]
  congr 1
  apply Nat.eq_of_testBit_eq
  intro j
  rw [Nat.testBit_and]
  cases hj : b.testBit j with
  | false => simp
  | true =>
   have hd := or_testBit_zero hb.apart hj
   have := stO_mem l d j
   rw [hf, fullS_bit, decide_eq_true (bit_lt hb.lt hj), hd, Bool.false_or] at this
   rw [stO_mem, Nat.zero_testBit, Bool.false_or, ← this]; rfl
 have key : ∀ t p, l = p ++ t → lS js b * moreE js b.testBit t + (sumL (p.filter fun i => !b.testBit i) (weiJ js) * lS js b - wS js b * sumL (p.filter fun i => !b.testBit i) (lenJ js)) * sumL (t.filter b.testBit) (lenJ js) ≤ 0 := by
  intro t
  induction t with
  | nil => intro p _; simp [moreE, sumL]
  | cons i t ih =>
   intro p e
   have e' : l = (p ++ [i]) ++ t := by rw [e]; simp
   have ih := ih (p ++ [i]) e'
   have u1 := outS p _ e
   have u2 := inS (p ++ [i]) _ e'
   have a1 := allS (weiJ js)
   have a2 := allS (lenJ js)
   rw [e'] at a1 a2
   simp only [List.filter_append, sumL_append] at ih u2 a1 a2
   cases h : b.testBit i with
   | true =>
    simp only [List.filter_cons, List.filter_nil, h, if_true, Bool.not_true, Bool.false_eq_true, if_false, moreE, sumL, Int.add_zero] at ih ⊢
    have := P.l0 i
    have := Int.mul_nonpos_of_nonpos_of_nonneg u1 this
    rw [Int.mul_add]
    omega
   | false =>
    simp only [List.filter_cons, List.filter_nil, h, if_true, Bool.not_false, Bool.false_eq_true, if_false, moreE, sumL, Int.add_zero] at ih u2 a1 a2 ⊢
    have l0 := P.l0 i
    generalize sumL (p.filter b.testBit) (weiJ js) = pw at *
    generalize sumL (p.filter b.testBit) (lenJ js) = pl at *
    generalize sumL (t.filter b.testBit) (weiJ js) = tw at *
    generalize sumL (t.filter b.testBit) (lenJ js) = tl at *
    generalize sumL (p.filter fun i => !b.testBit i) (weiJ js) = nw at *
    generalize sumL (p.filter fun i => !b.testBit i) (lenJ js) = nl at *
    generalize lenJ js i = u at *
    generalize weiJ js i = v at *
    generalize moreE js b.testBit t = m at *
    have b1 : wS js b = pw + tw := by unfold wS; omega
    have b2 : lS js b = pl + tl := by unfold lS; omega
    generalize wS js b = W at *
    generalize lS js b = L at *
    have c : 0 ≤ tw * L - W * tl := by
     have : tw * L - W * tl = -(pw * L - W * pl) := by subst b1; subst b2; grind
     omega
    have c2 : 0 ≤ u * (tw * L - W * tl) := Int.mul_nonneg l0 c
    have : L * (m + (v * tl - u * tw)) + (nw * L - W * nl) * tl = (L * m + ((nw + v) * L - W * (nl + u)) * tl) - u * (tw * L - W * tl) := by grind
    omega
 have := key l [] rfl
 simp only [List.filter_nil, sumL, Int.zero_mul, Int.mul_zero, Int.sub_zero, Int.add_zero] at this
 have : moreE js b.testBit l ≤ 0 := by
  apply Classical.byContradiction
  intro h
  have := Int.mul_pos (show 0 < lS js b by omega) (show 0 < moreE js b.testBit l by omega)
  omega
 omega

structure IsPart (bs : List Nat) (s : Nat) (l : List Nat) : Prop where
 nd : l.Nodup
 mem : ∀ i, i ∈ l ↔ s.testBit i = true
 fit : l.Pairwise fun a b => (bs.getD a 0).testBit b = false

theorem SidP.apart {bs : List Nat} {js : List (Int × Int)} {n : Nat} : ∀ {os : List Nat} {d : Nat}, SidP bs js n d os → ∀ s ∈ os, ∀ i, s.testBit i = true → d.testBit i = false
 | [], _, _, s, hs, _, _ => by simp at hs
 | b :: os, d, h, s, hs, i, hi => by
  rcases List.mem_cons.1 hs with rfl | hs
  ·exact or_testBit_zero h.1.1.1.apart hi
  ·have := SidP.apart h.2 s hs i hi
   rw [Nat.testBit_or, Bool.or_eq_false_iff] at this
   exact this.1

theorem part_sum {bs : List Nat} {s : Nat} {l l' : List Nat} (h : IsPart bs s l) (h' : IsPart bs s l') (hs : ∀ i, s.testBit i = true → i < 10) (f : Nat → Int) : sumL l f = sumL l' f := by
 have key : ∀ {l : List Nat}, IsPart bs s l → sumL l f = sumB f s 10 := by
  intro l h
  have := sumB_stO f (l := l) (s := 0) (fun i hi => ⟨hs i ((h.mem i).1 hi), by simp⟩) h.nd
  rw [sumB_zero, Int.zero_add] at this
  rw [← this]
  congr 1
  apply Nat.eq_of_testBit_eq
  intro j
  rw [stO_mem, Nat.zero_testBit, Bool.false_or]
  cases hj : s.testBit j with
  | true => exact decide_eq_true ((h.mem j).2 hj)
  | false => exact decide_eq_false fun hm => by rw [(h.mem j).1 hm] at hj; cases hj
 rw [key h, key h']

theorem sidney_all {bs : List Nat} {js : List (Int × Int)} {n : Nat} (P : PosJ js n) (hn : n ≤ 10) : ∀ {os : List Nat} {d : Nat} {l : List Nat}, clB bs n d = true → SidP bs js n d os → okO bs n d l = true → stO d l = fullS n →
  costF js 0 (os.flatMap fun s => l.filter s.testBit) ≤ costF js 0 l ∧ (∀ f, sumL (os.flatMap fun s => l.filter s.testBit) f = sumL l f) ∧ ∀ s ∈ os, IsPart bs s (l.filter s.testBit)
 | [], d, l, _, hs, ho, _ => by
  cases l with
  | nil => simp [costF]
  | cons i l =>
   have hd : d = fullS n := hs
   subst hd
   simp only [okO, Bool.and_eq_true, decide_eq_true_eq] at ho
   rw [rdy_full ho.1.1] at ho
   simp at ho
 | b :: os, d, l, hcl, hs, ho, hf => by
  have step := sidney_step P hn hs.1.1 hcl ho hf
  obtain ⟨⟨nd, fr⟩, pw, bf⟩ := okO_facts ho
  have hlt := okO_lt ho
  have ho' : okO bs n (d ||| b) (l.filter fun i => !b.testBit i) = true := by
   refine okO_of (fun i hi => ?_) (nd.filter _) (pw.filter _) (fun i hi j hj => ?_)
   ·have := List.mem_filter.1 hi
    refine ⟨hlt i this.1, ?_⟩
    rw [Nat.testBit_or, fr i this.1]
    simpa using this.2
   ·have := List.mem_filter.1 hi
    obtain ⟨x1, x2⟩ := bf i this.1 j hj
    refine ⟨x1, ?_⟩
    rw [Nat.testBit_or, Bool.or_eq_true]
    rcases x2 with x2 | x2
    ·exact .inl (.inl x2)
    ·cases hbj : b.testBit j with
     | true => exact .inl (.inr rfl)
     | false => exact .inr (List.mem_filter.2 ⟨x2, by rw [hbj]; rfl⟩)
  have hf' : stO (d ||| b) (l.filter fun i => !b.testBit i) = fullS n := by
   rw [← hf]
   apply Nat.eq_of_testBit_eq
   intro j
   rw [stO_mem, stO_mem, Nat.testBit_or]
   simp only [List.mem_filter]
   cases hbj : b.testBit j with
   | false => simp
   | true =>
    have h1 := or_testBit_zero hs.1.1.1.apart hbj
    have := stO_mem l d j
    rw [hf, fullS_bit, decide_eq_true (bit_lt hs.1.1.1.lt hbj), h1, Bool.false_or] at this
    rw [← this]; simp
  obtain ⟨i1, i2, i3⟩ := sidney_all P hn hs.1.1.1.cl hs.2 ho' hf'
  have ap := hs.2.apart
  have same : ∀ s ∈ os, (l.filter fun i => !b.testBit i).filter s.testBit = l.filter s.testBit := by
   intro s hs
   rw [List.filter_filter]
   refine List.filter_congr fun i _ => ?_
   cases hi : s.testBit i with
   | false => simp
   | true =>
    have := ap s hs i hi
    rw [Nat.testBit_or, Bool.or_eq_false_iff] at this
    rw [this.2]; rfl
  have sameF : (os.flatMap fun s => (l.filter fun i => !b.testBit i).filter s.testBit) = os.flatMap fun s => l.filter s.testBit := by
   rw [List.flatMap_def, List.flatMap_def]
   congr 1
   exact List.map_congr_left same
  rw [sameF] at i1 i2
  refine ⟨?_, fun f => ?_, fun s hsm => ?_⟩
  ·rw [List.flatMap_cons, costF_append, end_now, cost_now js (os.flatMap fun s => l.filter s.testBit), i2]
   rw [costF_append, end_now, cost_now js (l.filter fun i => !b.testBit i)] at step
   omega
  ·rw [List.flatMap_cons, sumL_append, i2, sumL_part]
  ·rcases List.mem_cons.1 hsm with rfl | hsm
   ·refine ⟨nd.filter _, fun i => ?_, pw.filter _⟩
    rw [List.mem_filter]
    refine ⟨fun h => h.2, fun h => ⟨?_, h⟩⟩
    have h1 := or_testBit_zero hs.1.1.1.apart h
    have := stO_mem l d i
    rw [hf, fullS_bit, decide_eq_true (bit_lt hs.1.1.1.lt h), h1, Bool.false_or] at this
    exact of_decide_eq_true this.symm
   ·rw [← same s hsm]; exact i3 s hsm

theorem parts_ok {bs : List Nat} {js : List (Int × Int)} {n : Nat} {g : Nat → List Nat} : ∀ {os : List Nat} {d : Nat}, SidP bs js n d os → (∀ s ∈ os, IsPart bs s (g s)) → (∀ i, i < n → ∀ j, (bs.getD i 0).testBit j = true → j ≠ i) →
  okO bs n d (os.flatMap g) = true ∧ stO d (os.flatMap g) = fullS n
 | [], d, hs, _, _ => ⟨rfl, hs⟩
 | b :: os, d, hs, hg, hi => by
  obtain ⟨h1, h2⟩ := parts_ok hs.2 (fun s h => hg s (by simp [h])) hi
  have p := hg b (by simp)
  have hb := hs.1.1.1
  have e : stO d (g b) = d ||| b := by
   apply Nat.eq_of_testBit_eq
   intro j
   rw [stO_mem, Nat.testBit_or]
   congr 1
   cases hj : b.testBit j with
   | true => exact decide_eq_true ((p.mem j).2 hj)
   | false => exact decide_eq_false fun hm => by rw [(p.mem j).1 hm] at hj; cases hj
  have hcl := clB_iff.1 hb.cl
  rw [List.flatMap_cons, okO_append, stO_append, e, h1, Bool.and_true]
  refine ⟨okO_of (fun i hm => ?_) p.nd p.fit fun i hm j hj => ?_, h2⟩
  ·have := (p.mem i).1 hm
   exact ⟨bit_lt hb.lt this, or_testBit_zero hb.apart this⟩
  ·have hbi := (p.mem i).1 hm
   have hin := bit_lt hb.lt hbi
   refine ⟨hi i hin j hj, ?_⟩
   have := hcl i hin (by rw [Nat.testBit_or, hbi, Bool.or_true]) j hj
   rw [Nat.testBit_or, Bool.or_eq_true] at this
   rcases this with h | h
   ·exact .inl h
   ·exact .inr ((p.mem j).2 h)

theorem parts_cost {bs : List Nat} {js : List (Int × Int)} {n : Nat} (hn : n ≤ 10) {g g' : Nat → List Nat} : ∀ {os : List Nat}, (∀ s ∈ os, s < 2 ^ n ∧ IsPart bs s (g s) ∧ IsPart bs s (g' s) ∧ costF js 0 (g s) ≤ costF js 0 (g' s)) →
  costF js 0 (os.flatMap g) ≤ costF js 0 (os.flatMap g') ∧ ∀ f, sumL (os.flatMap g) f = sumL (os.flatMap g') f
 | [], _ => ⟨Int.le_refl _, fun _ => rfl⟩
 | b :: os, h => by
  obtain ⟨h1, h2⟩ := parts_cost (js := js) hn (g := g) (g' := g') (os := os) (fun s hs => h s (by simp [hs]))
  obtain ⟨hlt, a1, a2, a3⟩ := h b (by simp)
  have hs := part_sum a1 a2 fun i hi => by have := bit_lt hlt hi; omega
  refine ⟨?_, fun f => by rw [List.flatMap_cons, List.flatMap_cons, sumL_append, sumL_append, hs, h2]⟩
  rw [List.flatMap_cons, List.flatMap_cons, costF_append, costF_append, end_now, end_now, cost_now js (os.flatMap g), cost_now js (os.flatMap g'), hs, h2]
  omega

theorem sidney_best {bs : List Nat} {js : List (Int × Int)} {n : Nat} (hj : smallF js) (P : PosJ js n) (hn : n ≤ 10) (hu : acyc bs n) (hi : ∀ i, i < n → ∀ j, (bs.getD i 0).testBit j = true → j ≠ i) {os : List Nat} (hs : SidP bs js n 0 os) {g : Nat → List Nat}
  (hg : ∀ s ∈ os, IsPart bs s (g s) ∧ ∀ l, IsPart bs s l → costF js 0 (g s) ≤ costF js 0 l) :
  okO bs n 0 (os.flatMap g) = true ∧ stO 0 (os.flatMap g) = fullS n ∧ costF js 0 (os.flatMap g) = minS bs js n 0 := by
 obtain ⟨h1, h2⟩ := parts_ok hs (fun s h => (hg s h).1) hi
 refine ⟨h1, h2, ?_⟩
 have h0 : (0 : Nat) < 2 ^ n := Nat.pow_pos (by decide)
 obtain ⟨l, l1, l2, l3⟩ := minS_ex hj hn hu (fullS n) 0 h0 (by omega)
 obtain ⟨a1, _, a3⟩ := sidney_all P hn (clB_zero bs n) hs l1 l2
 have hlt := SidP.lt h0 hs
 obtain ⟨b1, _⟩ := parts_cost (js := js) hn (g := g) (g' := fun s => l.filter s.testBit) (os := os) fun s hsm => ⟨hlt s hsm, (hg s hsm).1, a3 s hsm, (hg s hsm).2 _ (a3 s hsm)⟩
 have c1 := minS_le hj hn hu h0 h1 h2
 rw [now_zero] at c1 l3
 omega

end Go.Sim


namespace Go.Sim

structure Own (bs : List Nat) (js : List (Int × Int)) (s : Nat) (E : List Nat) (bs' : List Nat) (js' : List (Int × Int)) : Prop where
 nd : E.Nodup
 mem : ∀ i, i ∈ E ↔ s.testBit i = true
 len : ∀ k, k < E.length → lenJ js' k = lenJ js (E.getD k 0) ∧ weiJ js' k = weiJ js (E.getD k 0)
 bit : ∀ k, k < E.length → ∀ j, (bs'.getD k 0).testBit j = true ↔ j < E.length ∧ (bs.getD (E.getD k 0) 0).testBit (E.getD j 0) = true

section
variable {bs bs' : List Nat} {js js' : List (Int × Int)} {s : Nat} {E : List Nat}

theorem getD_get {E : List Nat} {k : Nat} (h : k < E.length) : E.getD k 0 = E[k] := by simp [List.getD_eq_getElem?_getD, h]

theorem Own.inj (w : Own bs js s E bs' js') {a b : Nat} (ha : a < E.length) (hb : b < E.length) (h : E.getD a 0 = E.getD b 0) : a = b := by
 rw [getD_get ha, getD_get hb] at h
 exact (List.getElem_inj w.nd).1 h

theorem Own.cost (w : Own bs js s E bs' js') : ∀ (o : List Nat) (now : Int), (∀ k ∈ o, k < E.length) → costF js' now o = costF js now (o.map fun k => E.getD k 0)
 | [], _, _ => rfl
 | k :: o, now, h => by
  have := w.len k (h k (by simp))
  simp only [List.map_cons, costF, this.1, this.2]
  rw [w.cost o _ fun k hk => h k (by simp [hk])]

theorem Own.part (w : Own bs js s E bs' js') {o : List Nat} (ho : okO bs' E.length 0 o = true) (hf : stO 0 o = fullS E.length) : IsPart bs s (o.map fun k => E.getD k 0) := by
 obtain ⟨⟨nd, _⟩, pw, _⟩ := okO_facts ho
 have hlt := okO_lt ho
 have hall : ∀ k, k < E.length → k ∈ o := by
  intro k hk
  have := stO_mem o 0 k
  rw [hf, fullS_bit, decide_eq_true hk, Nat.zero_testBit, Bool.false_or] at this
  exact of_decide_eq_true this.symm
 refine ⟨?_, fun i => ?_, ?_⟩
 ·unfold List.Nodup
  rw [List.pairwise_map]
  refine List.Pairwise.imp_of_mem (fun ha hb h => ?_) nd
  exact fun e => h (w.inj (hlt _ ha) (hlt _ hb) e)
 ·rw [← w.mem, List.mem_map]
  constructor
  ·rintro ⟨k, hk, rfl⟩
   rw [getD_get (hlt k hk)]
   exact List.getElem_mem _
  ·intro hi
   obtain ⟨k, hk, rfl⟩ := List.mem_iff_getElem.1 hi
   exact ⟨k, hall k hk, getD_get hk⟩
 ·rw [List.pairwise_map]
  refine List.Pairwise.imp_of_mem (fun ha hb h => ?_) pw
  cases hc : (bs.getD (E.getD _ 0) 0).testBit (E.getD _ 0) with
  | false => rfl
  | true => rw [(w.bit _ (hlt _ ha) _).2 ⟨hlt _ hb, hc⟩] at h; cases h

theorem Own.back (w : Own bs js s E bs' js') (hi : ∀ i, i ∈ E → (bs.getD i 0).testBit i = false) {l : List Nat} (p : IsPart bs s l) :
  ∃ o, okO bs' E.length 0 o = true ∧ stO 0 o = fullS E.length ∧ l = o.map fun k => E.getD k 0 := by
 have inE : ∀ i ∈ l, i ∈ E := fun i h => (w.mem i).2 ((p.mem i).1 h)
 have ix : ∀ i ∈ l, E.idxOf i < E.length ∧ E.getD (E.idxOf i) 0 = i := by
  intro i h
  have hl := List.idxOf_lt_length_of_mem (inE i h)
  exact ⟨hl, by rw [getD_get hl]; exact List.getElem_idxOf hl⟩
 have hm : l = (l.map fun i => E.idxOf i).map fun k => E.getD k 0 := by
  rw [List.map_map]
  conv => lhs; rw [← List.map_id l]
  exact List.map_congr_left fun i h => (ix i h).2.symm
 have hall : ∀ k, k < E.length → k ∈ l.map fun i => E.idxOf i := by
  intro k hk
  have hx : E[k] ∈ l := (p.mem _).2 ((w.mem _).1 (List.getElem_mem hk))
  refine List.mem_map.2 ⟨E[k], hx, ?_⟩
  have h2 := ix _ hx
  exact w.inj h2.1 hk (by rw [h2.2, getD_get hk])
 refine ⟨l.map fun i => E.idxOf i, ?_, ?_, hm⟩
 ·refine okO_of (fun k hk => ?_) ?_ ?_ (fun k hk j hj => ?_)
  ·obtain ⟨i, h, rfl⟩ := List.mem_map.1 hk
   exact ⟨(ix i h).1, by simp⟩
  ·unfold List.Nodup
   rw [List.pairwise_map]
   refine List.Pairwise.imp_of_mem (fun ha hb h => ?_) p.nd
   exact fun e => h (by rw [← (ix _ ha).2, ← (ix _ hb).2, e])
  ·rw [List.pairwise_map]
   refine List.Pairwise.imp_of_mem (fun {a b} ha hb h => ?_) p.fit
   cases hc : (bs'.getD (E.idxOf a) 0).testBit (E.idxOf b) with
   | false => rfl
   | true =>
    have := ((w.bit _ (ix a ha).1 _).1 hc).2
    rw [(ix a ha).2, (ix b hb).2, h] at this
    cases this
  ·obtain ⟨i, h, rfl⟩ := List.mem_map.1 hk
   obtain ⟨h1, h2⟩ := (w.bit _ (ix i h).1 _).1 hj
   rw [(ix i h).2] at h2
   refine ⟨?_, .inr (hall j h1)⟩
   rintro rfl
   rw [(ix i h).2, hi i (inE i h)] at h2
   cases h2
 ·apply Nat.eq_of_testBit_eq
  intro j
  rw [stO_mem, fullS_bit, Nat.zero_testBit, Bool.false_or]
  rw [decide_eq_decide]
  refine ⟨fun h => ?_, hall j⟩
  obtain ⟨i, h2, rfl⟩ := List.mem_map.1 h
  exact (ix i h2).1

theorem Own.best (w : Own bs js s E bs' js') (hi : ∀ i, i ∈ E → (bs.getD i 0).testBit i = false) (hj : smallF js') (hn : E.length ≤ 10) (hu : acyc bs' E.length) {o : List Nat} (hg : GrP bs' js' E.length 0 o) :
  IsPart bs s (o.map fun k => E.getD k 0) ∧ ∀ l, IsPart bs s l → costF js 0 (o.map fun k => E.getD k 0) ≤ costF js 0 l := by
 obtain ⟨h1, h2, h3⟩ := GrP.ok hn hg
 refine ⟨w.part h1 h2, fun l hl => ?_⟩
 obtain ⟨o', p1, p2, rfl⟩ := w.back hi hl
 have := minS_le hj hn hu (s := 0) (Nat.pow_pos (by decide)) p1 p2
 rw [now_zero] at this h3
 rw [← w.cost o 0 (okO_lt h1), ← w.cost o' 0 (okO_lt p1)]
 omega

end
end Go.Sim

