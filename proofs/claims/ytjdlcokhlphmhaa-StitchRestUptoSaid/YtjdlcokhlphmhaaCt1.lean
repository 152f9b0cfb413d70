/-
  What the functions of stitch and of its reference come to in the ideal machine: one letter after another.
-/
import Derived.Test.YtjdlcokhlphmhaaSp1
import Derived.Test.YtjdlcokhlphmhaaSh1
namespace Go.Proofs.Ytjdlcokhlphmhaa
open Go.Sim

theorem EX.load {h h' : Heap} (k : EX h h') {agg : Bool} {n : Nat} {a v : Value} (hl : iLoad agg n h a = some v) : iLoad agg n h' a = some v := by
  unfold iLoad at hl ⊢
  split at hl
  · rename_i i o
    cases hc : objCells h i with
    | none => rw [hc] at hl; cases hl
    | some xs => rw [hc] at hl; rw [k.cells hc]; exact hl
  · cases hl

theorem inc (i : Nat) (h : i < 4611686018427387904) : IntKind.wrap .i64 ((i : Int) + 1) = ((i + 1 : Nat) : Int) := by
  rw [wrap64 (by omega) (by omega)]; omega

@[simp] theorem fadr_pt (o i k : Nat) : iFadr o (pt i k) = some (pt i (k + o)) := rfl
@[simp] theorem nilck_pt (i k : Nat) : iNilck (pt i k) = some (pt i k) := rfl

/-- Pairs in memory. -/
def pcells (ps : List (Int × Int)) : List Value := ps.flatMap fun p => [I p.1, I p.2]

theorem pcells_get : ∀ {ps : List (Int × Int)} {k : Nat} {p : Int × Int}, ps[k]? = some p → (pcells ps)[2 * k]? = some (I p.1) ∧ (pcells ps)[2 * k + 1]? = some (I p.2)
  | [], k, p, h => by simp at h
  | q :: ps, 0, p, h => by simp at h; subst h; simp [pcells]
  | q :: ps, k + 1, p, h => by
    have := pcells_get (ps := ps) (k := k) (p := p) (by simpa using h)
    rw [show 2 * (k + 1) = 2 * k + 1 + 1 by omega]
    simpa [pcells] using this

theorem pcells_length (ps : List (Int × Int)) : (pcells ps).length = 2 * ps.length := by
  induction ps with
  | nil => rfl
  | cons p ps ih => simp only [pcells, List.flatMap_cons, List.length_append, List.length_cons, List.length_nil] at ih ⊢; omega

structure PS (h : Heap) (v : Value) (ps : List (Int × Int)) : Prop where
  len : iLenSl v = some (I ps.length)
  get : ∀ k (hk : k < ps.length), ∃ i o, iAdrSl 2 v (I k) = some (pt i o) ∧ iLoad false 1 h (pt i o) = some (I ps[k].1) ∧ iLoad false 1 h (pt i (o + 1)) = some (I ps[k].2) ∧
    iLoad true 2 h (pt i o) = some (.agg #[I ps[k].1, I ps[k].2])

theorem PS.mono {h h' : Heap} {v : Value} {ps : List (Int × Int)} (k : EX h h') (p : PS h v ps) : PS h' v ps :=
  ⟨p.len, fun j hj => let ⟨i, o, a, b, c, d⟩ := p.get j hj; ⟨i, o, a, EX.load k b, EX.load k c, EX.load k d⟩⟩

theorem PS.nil (h : Heap) : PS h (.slice none 0 0) [] := ⟨rfl, fun k hk => by simp at hk⟩

theorem PS.sl {h : Heap} {e : TypeId} {i : Nat} {ps : List (Int × Int)} (hc : objCells h i = some (pcells ps)) : PS h (sl e i 0 ps.length) ps := by
  refine ⟨rfl, fun k hk => ⟨i, 2 * k, ?_, ?_, ?_, ?_⟩⟩
  · have : (0 : Int) ≤ (k : Int) ∧ (k : Int) < (ps.length : Int) := by omega
    simp [Go.Sim.sl, iAdrSl, this, Nat.mul_comm]
  · obtain ⟨g1, g2⟩ := pcells_get (List.getElem?_eq_getElem hk)
    simp [iLoad, hc, iPart, g1]
  · obtain ⟨g1, g2⟩ := pcells_get (List.getElem?_eq_getElem hk)
    simp [iLoad, hc, iPart, g2]
  · obtain ⟨g1, g2⟩ := pcells_get (List.getElem?_eq_getElem hk)
    have hl := pcells_length ps
    have : ((pcells ps).drop (2 * k)).take 2 = [I ps[k].1, I ps[k].2] := by
      apply List.ext_getElem?
      intro j
      rw [List.getElem?_take]
      match j with
      | 0 => simpa using g1
      | 1 => simpa using g2
      | j + 2 => simp; omega
    have h2 : 2 * k + 2 ≤ (pcells ps).length := by omega
    simp [iLoad, hc, iPart, this, h2]

/-- Pairs of valid threads. -/
def good (ps : List (Int × Int)) : Prop := ∀ p ∈ ps, 0 ≤ p.1 ∧ p.1 < 6 ∧ 0 ≤ p.2 ∧ p.2 < 6

def hit (x y : UInt8) (p : Int × Int) : Bool := (decide (97 + p.1 = (x.toNat : Int)) && decide (97 + p.2 = (y.toNat : Int))) || (decide (97 + p.1 = (y.toNat : Int)) && decide (97 + p.2 = (x.toNat : Int)))
def freeP (ps : List (Int × Int)) (x y : UInt8) : Bool := ps.any (hit x y)

theorem C69 (v lo hi : Int) {K : Value → Heap → Prop} {h : Heap} (hk : K (B (decide (lo ≤ v) && decide (v ≤ hi))) h) : CallP Try.prog 69 [I v, I lo, I hi] h K := by
  refine f69 ?_
  simp only [T69]
  by_cases h1 : lo ≤ v <;> by_cases h2 : v ≤ hi <;> simp [q69z4, q69z6, h1, h2] at hk ⊢ <;> exact hk

theorem C33 {ps : List (Int × Int)} {pv : Value} {x y : UInt8} {h : Heap} {K : Value → Heap → Prop} (hp : PS h pv ps) (hg : good ps) (hl : ps.length ≤ 100) (hk : K (B (freeP ps x y)) h) : CallP Try.prog 33 [pv, cv x, cv y] h K := by
  refine f33 ?_
  refine loopL (σ := Nat) (fun i => [I i]) (fun _ => h) (fun i => i ≤ ps.length ∧ freeP ps x y = (ps.drop i).any (hit x y)) (fun i => ps.length - i) 0 rfl rfl ⟨by omega, rfl⟩ ?_
  rintro i ⟨hi, hf⟩ L hL
  rw [q33z5]
  simp only [hp.len, OP_some, bin_lss, IfP_dec]
  refine ⟨fun hlt => ?_, fun hge => ?_⟩
  · have hlt' : i < ps.length := by omega
    obtain ⟨b, o, g1, g2, g3, _⟩ := hp.get i hlt'
    have hgi := hg ps[i] (List.getElem_mem hlt')
    simp only [g1, g2, OP_some, fadr_pt, Nat.add_zero, g3, bin_add, conv_int, bin_eql, true_and]
    rw [wrap64 (by omega) (by omega), wrapU8 (by omega) (by omega), wrap64 (by omega) (by omega), wrapU8 (by omega) (by omega)]
    have hd : ps.drop i = ps[i] :: ps.drop (i + 1) := List.drop_eq_getElem_cons hlt'
    have hhit : freeP ps x y = (hit x y ps[i] || (ps.drop (i + 1)).any (hit x y)) := by rw [hf, hd]; rfl
    simp only [hit] at hhit
    simp only [q33z13, q33z15, q33z17, q33z19, q33z21, q33z23, bin_eql, bin_add, OP_some, inc i (by omega), true_and]
    have next := fun hn : freeP ps x y = (ps.drop (i + 1)).any (hit x y) => hL (i + 1) ⟨by omega, hn⟩ (by omega)
    generalize (ps.drop (i + 1)).any (hit x y) = rest at hhit next
    simp only [I] at next
    generalize decide ((97 : Int) + ps[i].1 = x.toNat) = b1 at hhit ⊢
    generalize decide ((97 : Int) + ps[i].2 = y.toNat) = b2 at hhit ⊢
    generalize decide ((97 : Int) + ps[i].1 = y.toNat) = b3 at hhit ⊢
    generalize decide ((97 : Int) + ps[i].2 = x.toNat) = b4 at hhit ⊢
    cases b1 <;> cases b2 <;> cases b3 <;> cases b4 <;> simp at hhit ⊢ <;> first | (rw [hhit] at hk; exact hk) | exact next hhit
  · have : i = ps.length := by omega
    subst this
    simp at hf
    rw [hf] at hk
    exact hk

end Go.Proofs.Ytjdlcokhlphmhaa
