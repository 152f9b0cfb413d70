/-
  Sums over sets of letters that commute: the theorem of Cartier and Foata for rows of steps.
-/
import Derived.Test.YtipeennffbbglaaMg8
namespace Go.Sim

/-! ### Sums -/

def sumL {α : Type} : List α → (α → Int) → Int
  | [], _ => 0
  | x :: l, f => f x + sumL l f

section
variable {α β : Type}

theorem sumL_append (f : α → Int) : ∀ l m : List α, sumL (l ++ m) f = sumL l f + sumL m f
  | [], m => by simp [sumL]
  | x :: l, m => by simp only [List.cons_append, sumL, sumL_append f l m]; omega

theorem sumL_map (g : β → α) (f : α → Int) : ∀ l : List β, sumL (l.map g) f = sumL l fun x => f (g x)
  | [] => rfl
  | x :: l => by simp only [List.map_cons, sumL, sumL_map g f l]

theorem sumL_filter (p : α → Bool) (f : α → Int) : ∀ l : List α, sumL (l.filter p) f = sumL l fun x => if p x = true then f x else 0
  | [] => rfl
  | x :: l => by
    rw [List.filter_cons]
    by_cases h : p x = true
    · rw [if_pos h]; simp only [sumL, sumL_filter p f l]; rw [if_pos h]
    · rw [if_neg h]; simp only [sumL, sumL_filter p f l]; rw [if_neg h]; omega

theorem sumL_congr {f g : α → Int} : ∀ {l : List α}, (∀ x ∈ l, f x = g x) → sumL l f = sumL l g
  | [], _ => rfl
  | x :: l, h => by simp only [sumL]; rw [h x (by simp), sumL_congr fun y hy => h y (by simp [hy])]

theorem sumL_add (f g : α → Int) : ∀ l : List α, sumL l (fun x => f x + g x) = sumL l f + sumL l g
  | [] => rfl
  | x :: l => by simp only [sumL, sumL_add f g l]; omega

theorem sumL_zero : ∀ l : List α, sumL l (fun _ => 0) = 0
  | [] => rfl
  | x :: l => by simp only [sumL, sumL_zero l]; omega

theorem sumL_mul (k : Int) (f : α → Int) : ∀ l : List α, sumL l (fun x => k * f x) = k * sumL l f
  | [] => by simp [sumL]
  | x :: l => by simp only [sumL, sumL_mul k f l, Int.mul_add]

theorem sumL_comm (f : α → β → Int) : ∀ (l : List α) (m : List β), sumL l (fun x => sumL m fun y => f x y) = sumL m fun y => sumL l fun x => f x y
  | [], m => by simp only [sumL, sumL_zero]
  | x :: l, m => by simp only [sumL, sumL_comm f l m, sumL_add]

theorem sumL_le {f g : α → Int} : ∀ {l : List α}, (∀ x ∈ l, f x ≤ g x) → sumL l f ≤ sumL l g
  | [], _ => Int.le_refl _
  | x :: l, h => by
    have h1 := h x (by simp)
    have h2 := sumL_le (l := l) fun y hy => h y (by simp [hy])
    simp only [sumL]; omega

theorem sumL_const (k : Int) : ∀ l : List α, sumL l (fun _ => k) = l.length * k
  | [] => by simp [sumL]
  | x :: l => by
    simp only [sumL, sumL_const k l, List.length_cons, Int.natCast_add, Int.add_mul]
    simp
    omega
end

def sg (j : Nat) : Int := if j % 2 = 0 then 1 else -1
theorem sg_succ (j : Nat) : sg (j + 1) = -sg j := by
  unfold sg
  rcases Nat.mod_two_eq_zero_or_one j with h | h
  · rw [if_neg (by omega), if_pos h]
  · rw [if_pos (by omega), if_neg (by omega)]; rfl
theorem sg_sq (j : Nat) : sg j * sg j = 1 := by
  unfold sg; split <;> rfl
theorem sg_add (i : Nat) : ∀ j, sg (i + j) = sg i * sg j
  | 0 => by simp [sg]
  | j + 1 => by rw [← Nat.add_assoc, sg_succ, sg_add i j, sg_succ, Int.mul_neg]

/-! ### Sets that commute -/

section
variable (com : Nat → Nat → Bool)

/-- The letter commutes with all of the set. -/
def perp (x : Nat) (s : List Nat) : Bool := s.all (com x)
/-- All of the one commute with all of the other. -/
def perps (v c : List Nat) : Bool := v.all fun x => perp com x c

def setsL : Nat → List (List Nat)
  | 0 => [[]]
  | n + 1 => setsL n ++ ((setsL n).filter (perp com n)).map (n :: ·)

abbrev CS (n : Nat) (f : List Nat → Int) : Int := sumL (setsL com n) f

theorem CS_succ (n : Nat) (f : List Nat → Int) : CS com (n + 1) f = CS com n f + CS com n fun s => if perp com n s = true then f (n :: s) else 0 := by
  show sumL (setsL com n ++ ((setsL com n).filter (perp com n)).map (n :: ·)) f = _
  rw [sumL_append, sumL_map, sumL_filter]

theorem CS_add (n : Nat) (f g : List Nat → Int) : CS com n (fun x => f x + g x) = CS com n f + CS com n g := sumL_add f g _
theorem CS_congr {n : Nat} {f g : List Nat → Int} (h : ∀ s, f s = g s) : CS com n f = CS com n g := sumL_congr fun s _ => h s

def PSum : Nat → (List Nat → List Nat → Int) → Int
  | 0, F => F [] []
  | n + 1, F => PSum n F + PSum n fun c v => if (perp com n c && perp com n v) = true then F (n :: c) v + F c (n :: v) else 0

theorem PSum_congr : ∀ {n : Nat} {F G : List Nat → List Nat → Int}, (∀ c v, F c v = G c v) → PSum com n F = PSum com n G
  | n, F, G, h => by
    have : F = G := by funext c v; exact h c v
    rw [this]

theorem PSum_zero : ∀ n, PSum com n (fun _ _ => 0) = 0
  | 0 => rfl
  | n + 1 => by
    simp only [PSum, PSum_zero n]
    rw [PSum_congr (G := fun _ _ => 0) com fun c v => by split <;> rfl, PSum_zero n]
    rfl

variable {com}

theorem perps_cons_right (sym : ∀ a b, com a b = com b a) (n : Nat) (v c : List Nat) : perps com v (n :: c) = (perp com n v && perps com v c) := by
  unfold perps perp
  induction v with
  | nil => rfl
  | cons x v ih =>
    simp only [List.all_cons] at ih ⊢
    rw [ih, sym x n]
    cases com n x <;> cases (c.all (com x)) <;> simp

theorem perps_cons_left (n : Nat) (v c : List Nat) : perps com (n :: v) c = (perp com n c && perps com v c) := rfl

/-- A set that commutes, cut in two, is two that commute with each other. -/
theorem exchange (sym : ∀ a b, com a b = com b a) (irr : ∀ a, com a a = false) : ∀ (n : Nat) (F : List Nat → List Nat → Int), CS com n (fun c => CS com n fun v => if perps com v c = true then F c v else 0) = PSum com n F
  | 0, F => by simp [CS, setsL, sumL, PSum, perps]
  | n + 1, F => by
    have ih1 := exchange sym irr n F
    have ih2 := exchange sym irr n fun c v => if (perp com n c && perp com n v) = true then F (n :: c) v + F c (n :: v) else 0
    simp only [PSum]
    rw [← ih1, ← ih2, CS_succ]
    have h1 : ∀ c, CS com (n + 1) (fun v => if perps com v c = true then F c v else 0) = CS com n (fun v => if perps com v c = true then F c v else 0) + CS com n fun v => if perps com v c = true then (if (perp com n c && perp com n v) = true then F c (n :: v) else 0) else 0 := by
      intro c
      rw [CS_succ]
      congr 1
      refine sumL_congr fun v _ => ?_
      rw [perps_cons_left]
      cases perp com n v <;> cases perp com n c <;> cases perps com v c <;> simp
    have h2 : ∀ c, (if perp com n c = true then CS com (n + 1) (fun v => if perps com v (n :: c) = true then F (n :: c) v else 0) else 0) = CS com n fun v => if perps com v c = true then (if (perp com n c && perp com n v) = true then F (n :: c) v else 0) else 0 := by
      intro c
      rw [CS_succ]
      have hz : CS com n (fun s => if perp com n s = true then (if perps com (n :: s) (n :: c) = true then F (n :: c) (n :: s) else 0) else 0) = 0 := by
        refine (sumL_congr fun v _ => ?_).trans (sumL_zero _)
        rw [perps_cons_left]
        have : perp com n (n :: c) = false := by simp [perp, irr]
        rw [this]
        simp
      rw [hz, Int.add_zero]
      cases hc : perp com n c with
      | false =>
        rw [if_neg (by simp)]
        refine ((sumL_congr fun v _ => ?_).trans (sumL_zero _)).symm
        simp
      | true =>
        rw [if_pos rfl]
        refine sumL_congr fun v _ => ?_
        rw [perps_cons_right sym]
        cases perp com n v <;> cases perps com v c <;> simp
    rw [CS_congr com h1, CS_congr com h2, CS_add, Int.add_assoc, ← CS_add]
    congr 1
    refine CS_congr com fun c => ?_
    rw [← CS_add]
    refine CS_congr com fun v => ?_
    cases perps com v c <;> cases (perp com n c && perp com n v) <;> simp
    omega

theorem all_perp (Q : Nat → Bool) (n : Nat) (l : List Nat) : l.all (fun x => Q x && com n x) = (l.all Q && perp com n l) := by
  unfold perp
  induction l with
  | nil => rfl
  | cons x l ih => simp only [List.all_cons, ih]; cases Q x <;> cases com n x <;> cases l.all Q <;> simp

/-- Subsets with signs cancel. -/
theorem cancelS (D : Nat → Bool) : ∀ (n : Nat) (Q : Nat → Bool) (g : Nat → Int),
    PSum com n (fun c v => if (c.all D && (c.all Q && v.all Q)) = true then sg c.length * g (c.length + v.length) else 0) = CS com n fun u => if (u.all (fun x => !D x) && u.all Q) = true then g u.length else 0
  | 0, Q, g => by simp [PSum, CS, setsL, sumL, sg]
  | n + 1, Q, g => by
    have ih1 := cancelS D n Q g
    have ih2 := cancelS D n (fun x => Q x && com n x) fun j => if (Q n && !D n) = true then g (j + 1) else 0
    simp only [PSum]
    rw [ih1, CS_succ]
    congr 1
    have e1 : PSum com n (fun c v => if (perp com n c && perp com n v) = true then (if ((n :: c).all D && ((n :: c).all Q && v.all Q)) = true then sg (n :: c).length * g ((n :: c).length + v.length) else 0) + (if (c.all D && (c.all Q && (n :: v).all Q)) = true then sg c.length * g (c.length + (n :: v).length) else 0) else 0) =
        PSum com n (fun c v => if (c.all D && (c.all (fun x => Q x && com n x) && v.all (fun x => Q x && com n x))) = true then sg c.length * (if (Q n && !D n) = true then g (c.length + v.length + 1) else 0) else 0) := by
      refine PSum_congr com fun c v => ?_
      rw [all_perp, all_perp]
      have s1 : sg (c.length + 1) * g (c.length + 1 + v.length) = -(sg c.length * g (c.length + v.length + 1)) := by
        rw [sg_succ, Int.neg_mul, show c.length + 1 + v.length = c.length + v.length + 1 by omega]
      simp only [List.all_cons, List.length_cons, s1, show c.length + (v.length + 1) = c.length + v.length + 1 by omega]
      cases perp com n c <;> cases perp com n v <;> cases c.all D <;> cases c.all Q <;> cases v.all Q <;> cases D n <;> cases Q n <;> simp <;> omega
    rw [e1, ih2]
    refine sumL_congr fun u _ => ?_
    rw [all_perp]
    simp only [List.all_cons, List.length_cons]
    have fin : ∀ (p q r d e : Bool) (G : Int), (if (p && (q && r)) = true then (if (e && !d) = true then G else 0) else 0) = if r = true then (if ((!d && p) && (e && q)) = true then G else 0) else 0 := by
      intro p q r d e G
      cases p <;> cases q <;> cases r <;> cases d <;> cases e <;> simp
    exact fin _ _ _ _ _ _

end
end Go.Sim

/-
  Rows of steps are counted as Cartier and Foata say.
-/
namespace Go.Sim

variable (com : Nat → Nat → Bool)

/-- Each letter of the next step is held by the step before. -/
def followsS (d c : List Nat) : Bool := c.all fun x => !perp com x d

/-- How many rows of steps of m letters end with a step. -/
def endsF (n m : Nat) (c : List Nat) : Int :=
  if h : c = [] ∨ m < c.length then 0
  else if c.length = m then 1
  else CS com n fun d => if (!d.isEmpty && followsS com d c) = true then endsF n (m - c.length) d else 0
termination_by m
decreasing_by
  have : c ≠ [] := fun hc => h (.inl hc)
  have : 0 < c.length := List.length_pos_iff.2 this
  omega

theorem endsF_zero {n m : Nat} {c : List Nat} (h : c = [] ∨ m < c.length) : endsF com n m c = 0 := by rw [endsF, dif_pos h]

theorem endsF_rec {n m : Nat} {c : List Nat} (hc : c ≠ []) (h : c.length ≤ m) :
    endsF com n m c = (if c.length = m then 1 else 0) + CS com n fun d => if (!d.isEmpty && followsS com d c) = true then endsF com n (m - c.length) d else 0 := by
  rw [endsF, dif_neg (by simp [hc]; omega)]
  by_cases he : c.length = m
  · rw [if_pos he, if_pos he]
    have : (CS com n fun d => if (!d.isEmpty && followsS com d c) = true then endsF com n (m - c.length) d else 0) = 0 := by
      refine (sumL_congr fun d _ => ?_).trans (sumL_zero _)
      cases d with
      | nil => simp
      | cons x d =>
        split
        · exact endsF_zero com (.inr (by simp; omega))
        · rfl
    rw [this]; rfl
  · rw [if_neg he, if_neg he]; omega

/-- How many rows of steps of m letters there are. -/
def rowsF (n m : Nat) : Int := (if m = 0 then 1 else 0) + CS com n (endsF com n m)

theorem CS_split : ∀ (n : Nat) (f : List Nat → Int), CS com n f = f [] + CS com n fun c => if (!c.isEmpty) = true then f c else 0
  | 0, f => by simp [CS, setsL, sumL]
  | n + 1, f => by
    rw [CS_succ, CS_succ, CS_split n f, Int.add_assoc]
    congr 2

theorem CS_mul (n : Nat) (k : Int) (f : List Nat → Int) : CS com n (fun x => k * f x) = k * CS com n f := sumL_mul k f _
theorem CS_comm (n : Nat) (f : List Nat → List Nat → Int) : CS com n (fun x => CS com n fun y => f x y) = CS com n fun y => CS com n fun x => f x y := sumL_comm f _ _
theorem CS_zero (n : Nat) : CS com n (fun _ => 0) = 0 := sumL_zero _
theorem CS_neg (n : Nat) (f : List Nat → Int) : CS com n (fun x => -f x) = -CS com n f := by
  have := CS_mul com n (-1) f
  rw [Int.neg_mul, Int.one_mul] at this
  rw [← this]
  exact CS_congr com fun c => by omega
theorem CS_ite (n : Nat) (b : Bool) (f : List Nat → Int) : (if b = true then CS com n f else 0) = CS com n fun x => if b = true then f x else 0 := by
  cases b with
  | true => simp
  | false => simp [CS_zero]

variable {com} (sym : ∀ a b, com a b = com b a) (irr : ∀ a, com a a = false)
include sym irr

/-- The sum over what commutes with a set. -/
theorem link_sum (n : Nat) (d : List Nat) (g : Nat → Int) : CS com n (fun u => if perps com u d = true then g u.length else 0) =
    CS com n (fun v => g v.length) + CS com n fun c => if (!c.isEmpty) = true then CS com n (fun v => if perps com v c = true then (if followsS com d c = true then sg c.length * g (c.length + v.length) else 0) else 0) else 0 := by
  have h1 := cancelS (com := com) (fun x => !perp com x d) n (fun _ => true) g
  have h2 := exchange sym irr n fun c v => if followsS com d c = true then sg c.length * g (c.length + v.length) else 0
  have e1 : PSum com n (fun c v => if (c.all (fun x => !perp com x d) && (c.all (fun _ => true) && v.all fun _ => true)) = true then sg c.length * g (c.length + v.length) else 0) = PSum com n (fun c v => if followsS com d c = true then sg c.length * g (c.length + v.length) else 0) := by
    refine PSum_congr com fun c v => ?_
    simp [followsS]
  have e2 : CS com n (fun u => if perps com u d = true then g u.length else 0) = CS com n fun u => if (u.all (fun x => !!perp com x d) && u.all fun _ => true) = true then g u.length else 0 := by
    refine CS_congr com fun u => ?_
    simp [perps]
  rw [e2, ← h1, e1, ← h2, CS_split]
  congr 1
  refine CS_congr com fun v => ?_
  simp [perps, perp, followsS, sg]

theorem rows_law (n : Nat) {m : Nat} (hm : 1 ≤ m) : CS com n (fun u => if u.length ≤ m then sg u.length * rowsF com n (m - u.length) else 0) = 0 := by
  -- the weight of a set before a last step
  let gd : List Nat → Nat → Int := fun d j => if j ≤ m then sg j * endsF com n (m - j) d else 0
  have hgd : ∀ d j, gd d j = if j ≤ m then sg j * endsF com n (m - j) d else 0 := fun _ _ => rfl
  -- T1 = X + T3
  have hT : CS com n (fun d => if (!d.isEmpty) = true then CS com n (fun u => if perps com u d = true then gd d u.length else 0) else 0) =
      CS com n (fun d => if (!d.isEmpty) = true then CS com n (fun v => gd d v.length) else 0) +
      CS com n (fun d => if (!d.isEmpty) = true then CS com n (fun c => if (!c.isEmpty) = true then CS com n (fun v => if perps com v c = true then (if followsS com d c = true then sg c.length * gd d (c.length + v.length) else 0) else 0) else 0) else 0) := by
    rw [← CS_add]
    refine CS_congr com fun d => ?_
    rw [link_sum sym irr n d (gd d)]
    split
    · rfl
    · rfl
  -- T3, its sums exchanged
  have hT3 : CS com n (fun d => if (!d.isEmpty) = true then CS com n (fun c => if (!c.isEmpty) = true then CS com n (fun v => if perps com v c = true then (if followsS com d c = true then sg c.length * gd d (c.length + v.length) else 0) else 0) else 0) else 0) =
      CS com n (fun c => if (!c.isEmpty) = true then CS com n (fun v => if perps com v c = true then gd c v.length - (if c.length + v.length = m then sg v.length else 0) else 0) else 0) := by
    have e1 : CS com n (fun d => if (!d.isEmpty) = true then CS com n (fun c => if (!c.isEmpty) = true then CS com n (fun v => if perps com v c = true then (if followsS com d c = true then sg c.length * gd d (c.length + v.length) else 0) else 0) else 0) else 0) =
        CS com n (fun d => CS com n fun c => CS com n fun v => if (!d.isEmpty) = true then (if (!c.isEmpty) = true then (if perps com v c = true then (if followsS com d c = true then sg c.length * gd d (c.length + v.length) else 0) else 0) else 0) else 0) := by
      refine CS_congr com fun d => ?_
      rw [CS_ite]
      refine CS_congr com fun c => ?_
      rw [CS_ite, CS_ite]
    rw [e1, CS_comm]
    refine CS_congr com fun c => ?_
    rw [CS_comm, CS_ite]
    refine CS_congr com fun v => ?_
    cases hc : c.isEmpty with
    | true =>
      simp only [Bool.not_true, Bool.false_eq_true, if_false]
      refine (sumL_congr fun d _ => ?_).trans (sumL_zero _)
      split <;> rfl
    | false =>
      cases hv : perps com v c with
      | false =>
        simp only [Bool.not_false, if_true, Bool.false_eq_true, if_false]
        refine (sumL_congr fun d _ => ?_).trans (sumL_zero _)
        split <;> rfl
      | true =>
        simp only [Bool.not_false, if_true]
        have hcn : c ≠ [] := by rintro rfl; simp at hc
        have hc0 : 0 < c.length := List.length_pos_iff.2 hcn
        by_cases hle : c.length + v.length ≤ m
        · have hr := endsF_rec com (n := n) (m := m - v.length) hcn (by omega)
          have e2 : CS com n (fun d => if (!d.isEmpty) = true then (if followsS com d c = true then sg c.length * gd d (c.length + v.length) else 0) else 0) = sg v.length * CS com n fun d => if (!d.isEmpty && followsS com d c) = true then endsF com n (m - v.length - c.length) d else 0 := by
            rw [← CS_mul]
            refine CS_congr com fun d => ?_
            rw [hgd, if_pos hle, sg_add, ← Int.mul_assoc, ← Int.mul_assoc, sg_sq, Int.one_mul, show m - (c.length + v.length) = m - v.length - c.length by omega]
            cases d.isEmpty <;> cases followsS com d c <;> simp
          rw [e2, hgd, if_pos (by omega), hr, Int.mul_add]
          by_cases he : c.length + v.length = m
          · rw [if_pos he, if_pos (by omega)]; omega
          · rw [if_neg he, if_neg (by omega)]; omega
        · rw [if_neg (by omega), hgd]
          have e2 : CS com n (fun d => if (!d.isEmpty) = true then (if followsS com d c = true then sg c.length * gd d (c.length + v.length) else 0) else 0) = 0 := by
            refine (sumL_congr fun d _ => ?_).trans (sumL_zero _)
            rw [hgd, if_neg hle]
            split
            · split <;> simp
            · rfl
          rw [e2]
          split
          · rw [endsF_zero com (.inr (by omega))]; simp
          · rfl
  -- what commutes in two parts, by its size
  have hY : CS com n (fun c => if (!c.isEmpty) = true then CS com n (fun v => if perps com v c = true then (if c.length + v.length = m then sg v.length else 0) else 0) else 0) = -CS com n fun v => if v.length = m then sg v.length else 0 := by
    have h2 := exchange sym irr n fun c v => if c.length + v.length = m then sg v.length else 0
    have h1 := cancelS (com := com) (fun _ => true) n (fun _ => true) fun j => if j = m then sg j else 0
    have e1 : PSum com n (fun c v => if c.length + v.length = m then sg v.length else 0) = PSum com n (fun c v => if (c.all (fun _ => true) && (c.all (fun _ => true) && v.all fun _ => true)) = true then sg c.length * (if c.length + v.length = m then sg (c.length + v.length) else 0) else 0) := by
      refine PSum_congr com fun c v => ?_
      have ht : (c.all (fun _ => true) && (c.all (fun _ => true) && v.all fun _ => true)) = true := by simp
      rw [if_pos ht]
      split
      · rw [sg_add, ← Int.mul_assoc, sg_sq, Int.one_mul]
      · simp
    have e2 : CS com n (fun u => if (u.all (fun _ => !true) && u.all fun _ => true) = true then (if u.length = m then sg u.length else 0) else 0) = 0 := by
      refine (sumL_congr fun u _ => ?_).trans (sumL_zero _)
      cases u with
      | nil =>
        have : ([] : List Nat).length ≠ m := by simp; omega
        rw [if_neg this]; simp
      | cons x u => simp
    rw [e1, h1, e2, CS_split] at h2
    have e3 : CS com n (fun v => if perps com v [] = true then (if ([] : List Nat).length + v.length = m then sg v.length else 0) else 0) = CS com n fun v => if v.length = m then sg v.length else 0 := by
      refine CS_congr com fun v => ?_
      simp [perps, perp]
    rw [e3] at h2
    omega
  -- T3 = T1 - Y
  have hT3' : CS com n (fun c => if (!c.isEmpty) = true then CS com n (fun v => if perps com v c = true then gd c v.length - (if c.length + v.length = m then sg v.length else 0) else 0) else 0) =
      CS com n (fun d => if (!d.isEmpty) = true then CS com n (fun u => if perps com u d = true then gd d u.length else 0) else 0) - CS com n (fun c => if (!c.isEmpty) = true then CS com n (fun v => if perps com v c = true then (if c.length + v.length = m then sg v.length else 0) else 0) else 0) := by
    rw [Int.sub_eq_add_neg, ← CS_neg, ← CS_add]
    refine CS_congr com fun c => ?_
    split
    · rw [← CS_neg, ← CS_add]
      refine CS_congr com fun v => ?_
      split
      · omega
      · rfl
    · rfl
  have hX : CS com n (fun d => if (!d.isEmpty) = true then CS com n (fun v => gd d v.length) else 0) = -CS com n fun v => if v.length = m then sg v.length else 0 := by
    rw [hT3, hT3', hY] at hT
    omega
  -- the sum itself
  have e1 : CS com n (fun u => if u.length ≤ m then sg u.length * rowsF com n (m - u.length) else 0) = CS com n (fun v => if v.length = m then sg v.length else 0) + CS com n fun u => CS com n fun d => if (!d.isEmpty) = true then gd d u.length else 0 := by
    rw [← CS_add]
    refine CS_congr com fun u => ?_
    by_cases hle : u.length ≤ m
    · rw [if_pos hle]
      unfold rowsF
      rw [Int.mul_add]
      congr 1
      · by_cases he : u.length = m
        · rw [if_pos he, if_pos (by omega)]; omega
        · rw [if_neg he, if_neg (by omega)]; omega
      · rw [← CS_mul]
        refine CS_congr com fun d => ?_
        rw [hgd, if_pos hle]
        cases d with
        | nil => rw [endsF_zero com (.inl rfl)]; simp
        | cons x d => simp
    · rw [if_neg hle, if_neg (by omega)]
      have : CS com n (fun d => if (!d.isEmpty) = true then gd d u.length else 0) = 0 := by
        refine (sumL_congr fun d _ => ?_).trans (sumL_zero _)
        rw [hgd, if_neg hle]
        split <;> rfl
      rw [this]; rfl
  rw [e1, CS_comm]
  have e2 : CS com n (fun d => CS com n fun u => if (!d.isEmpty) = true then gd d u.length else 0) = CS com n (fun d => if (!d.isEmpty) = true then CS com n (fun v => gd d v.length) else 0) := by
    refine CS_congr com fun d => ?_
    rw [CS_ite]
  rw [e2, hX]
  omega

end Go.Sim

/-
  Both ways of counting seams agree.
-/
namespace Go.Sim

/-! ### Sums over numbers -/

def rsum : Nat → (Nat → Int) → Int
  | 0, _ => 0
  | m + 1, f => rsum m f + f m

theorem rsum_add (f : Nat → Int) (a : Nat) : ∀ b, rsum (a + b) f = rsum a f + rsum b fun t => f (a + t)
  | 0 => by simp [rsum]
  | b + 1 => by
    show rsum (a + b) f + f (a + b) = _
    rw [rsum_add f a b]
    simp only [rsum]; omega

theorem rsum_congr {f g : Nat → Int} : ∀ {m : Nat}, (∀ i, i < m → f i = g i) → rsum m f = rsum m g
  | 0, _ => rfl
  | m + 1, h => by simp only [rsum]; rw [rsum_congr fun i hi => h i (by omega), h m (by omega)]

theorem rsum_zero : ∀ m, rsum m (fun _ => 0) = 0
  | 0 => rfl
  | m + 1 => by simp only [rsum, rsum_zero m]; rfl

theorem rsum_one (G : Nat → Int) (j : Nat) : ∀ m, rsum m (fun i => if j = i then G i else 0) = if j < m then G j else 0
  | 0 => by simp [rsum]
  | m + 1 => by
    simp only [rsum, rsum_one G j m]
    by_cases h : j = m
    · subst h; simp
    · rw [if_neg h]
      by_cases h2 : j < m
      · rw [if_pos h2, if_pos (by omega)]; omega
      · rw [if_neg h2, if_neg (by omega)]; rfl

theorem rsum_plus (f g : Nat → Int) : ∀ m, rsum m f + rsum m g = rsum m fun i => f i + g i
  | 0 => rfl
  | m + 1 => by
    simp only [rsum, ← rsum_plus f g m]
    omega

theorem sumL_rsum {α : Type} (F : α → Nat → Int) (m : Nat) : ∀ l : List α, sumL l (fun x => rsum m (F x)) = rsum m fun i => sumL l fun x => F x i
  | [] => (rsum_zero m).symm
  | x :: l => by
    simp only [sumL, sumL_rsum F m l]
    exact rsum_plus _ _ m

/-! ### Sets as numbers -/

def setOf (s : Nat) : Nat → List Nat
  | 0 => []
  | a + 1 => if bitB s a = true then a :: setOf s a else setOf s a

theorem setOf_len (s : Nat) : ∀ n, (setOf s n).length = szS s n
  | 0 => rfl
  | n + 1 => by simp only [setOf, szS]; split <;> simp [setOf_len s n]

theorem okA_set (cm : Nat → Nat → Bool) (s a : Nat) : ∀ b, okA cm s a b = (setOf s b).all (cm a)
  | 0 => rfl
  | b + 1 => by
    simp only [okA, setOf, okA_set cm s a b]
    cases hb : bitB s b <;> simp [Bool.and_comm]

theorem bitB_low {s n : Nat} (h : s < 2 ^ n) : bitB s n = false := by
  unfold bitB
  rw [Nat.div_eq_of_lt h]; rfl

theorem bitB_high {t n : Nat} (h : t < 2 ^ n) : bitB (2 ^ n + t) n = true := by
  unfold bitB
  have : (2 ^ n + t) / 2 ^ n = 1 := by
    rw [Nat.add_comm, Nat.add_div_right _ (Nat.pow_pos (by decide)), Nat.div_eq_of_lt h]
  rw [this]; rfl

theorem bitB_same {t n a : Nat} (h : a < n) : bitB (2 ^ n + t) a = bitB t a := by
  unfold bitB
  have h1 : 2 ^ n = 2 ^ a * (2 * 2 ^ (n - a - 1)) := by
    rw [← Nat.pow_succ', ← Nat.pow_add]
    congr 1
    omega
  have : (2 ^ n + t) / 2 ^ a % 2 = t / 2 ^ a % 2 := by
    rw [h1, Nat.mul_add_div (Nat.pow_pos (by decide))]
    omega
  rw [this]

theorem setOf_same {t n : Nat} : ∀ {a : Nat}, a ≤ n → setOf (2 ^ n + t) a = setOf t a
  | 0, _ => rfl
  | a + 1, h => by simp only [setOf, bitB_same (t := t) (show a < n by omega), setOf_same (t := t) (n := n) (a := a) (by omega)]

theorem okS_same (cm : Nat → Nat → Bool) {t n : Nat} : ∀ {a : Nat}, a ≤ n → okS cm (2 ^ n + t) a = okS cm t a
  | 0, _ => rfl
  | a + 1, h => by simp only [okS, bitB_same (t := t) (show a < n by omega), okA_set, setOf_same (t := t) (show a ≤ n by omega), okS_same cm (t := t) (n := n) (a := a) (by omega)]

/-- The sum over numbers of sets is the sum over sets. -/
theorem rsum_sets (com : Nat → Nat → Bool) : ∀ (n : Nat) (f : List Nat → Int), rsum (2 ^ n) (fun s => if okS com s n = true then f (setOf s n) else 0) = CS com n f
  | 0, f => by simp [rsum, okS, setOf, CS, setsL, sumL]
  | n + 1, f => by
    have h2 : 2 ^ (n + 1) = 2 ^ n + 2 ^ n := by rw [Nat.pow_succ]; omega
    rw [h2, rsum_add, CS_succ, ← rsum_sets com n f, ← rsum_sets com n fun s => if perp com n s = true then f (n :: s) else 0]
    congr 1
    · refine rsum_congr fun s hs => ?_
      simp [okS, setOf, bitB_low hs]
    · refine rsum_congr fun t ht => ?_
      simp only [okS, setOf, bitB_high ht, okS_same com (Nat.le_refl n), okA_set, setOf_same (Nat.le_refl n), if_true, Bool.not_true, Bool.false_or, perp]
      have fin : ∀ (p q : Bool) (G : Int), (if (p && q) = true then G else 0) = if p = true then (if q = true then G else 0) else 0 := by
        intro p q G
        cases p <;> cases q <;> simp
      exact fin _ _ _

theorem cqU_sum (com : Nat → Nat → Bool) (n i : Nat) : ∀ m, (cqU com n m i : Int) = rsum m fun s => if okS com s n = true then (if (setOf s n).length = i then 1 else 0) else 0
  | 0 => rfl
  | m + 1 => by
    simp only [cqU, rsum]
    rw [Int.natCast_add, cqU_sum com n i m, setOf_len]
    congr 1
    by_cases hz : szS m n = i
    · cases okS com m n <;> simp [hz]
    · have : (szS m n == i) = false := by simpa using hz
      cases okS com m n <;> simp [hz, this]

/-- How many sets of a size commute, both ways. -/
theorem cqU_CS (com : Nat → Nat → Bool) (n i : Nat) : (cqU com n (2 ^ n) i : Int) = CS com n fun u => if u.length = i then 1 else 0 := by
  rw [cqU_sum]
  exact rsum_sets com n fun u => if u.length = i then 1 else 0

theorem setsL_len (com : Nat → Nat → Bool) : ∀ (n : Nat) (u : List Nat), u ∈ setsL com n → u.length ≤ n
  | 0, u, h => by simp [setsL] at h; subst h; simp
  | n + 1, u, h => by
    simp only [setsL, List.mem_append, List.mem_map, List.mem_filter] at h
    rcases h with h | ⟨v, ⟨h, _⟩, rfl⟩
    · have := setsL_len com n u h; omega
    · have := setsL_len com n v h; simp; omega

theorem CS_size (com : Nat → Nat → Bool) (n : Nat) (G : Nat → Int) : CS com n (fun u => G u.length) = rsum (n + 1) fun i => (cqU com n (2 ^ n) i : Int) * G i := by
  have h1 : CS com n (fun u => G u.length) = CS com n fun u => rsum (n + 1) fun i => if u.length = i then G i else 0 := by
    refine sumL_congr fun u hu => ?_
    have := setsL_len com n u hu
    rw [rsum_one, if_pos (by omega)]
  rw [h1]
  refine (sumL_rsum (fun u i => if u.length = i then G i else 0) (n + 1) (setsL com n)).trans ?_
  refine rsum_congr fun i _ => ?_
  rw [cqU_CS, Int.mul_comm]
  show _ = G i * CS com n _
  rw [← CS_mul]
  refine CS_congr com fun u => ?_
  split <;> simp

theorem cqU_agree {cm com : Nat → Nat → Bool} {n : Nat} (h : ∀ a b, b < a → a < n → cm a b = com a b) (i : Nat) : ∀ m, cqU cm n m i = cqU com n m i := by
  have ha : ∀ (s a b : Nat), a < n → b ≤ a → okA cm s a b = okA com s a b := by
    intro s a b han
    induction b with
    | zero => intro _; rfl
    | succ b ih => intro hb; simp only [okA, ih (by omega), h a b (by omega) han]
  have hs : ∀ (s a : Nat), a ≤ n → okS cm s a = okS com s a := by
    intro s a
    induction a with
    | zero => intro _; rfl
    | succ a ih => intro hb; simp only [okS, ih (by omega), ha s a a (by omega) (Nat.le_refl _)]
  intro m
  induction m with
  | zero => rfl
  | succ m ih => simp only [cqU, ih, hs m n (Nat.le_refl _)]

theorem psum_more (ys : List Nat) (l : List Int) (m : Nat) : ∀ j, ys.length ≤ j → psum ys l m j = psum ys l m ys.length
  | 0, h => by
    have : ys.length = 0 := by omega
    rw [this]
  | j + 1, h => by
    by_cases he : ys.length = j + 1
    · rw [he]
    · rw [← psum_more ys l m j (by omega)]
      have h0 : ys.getD j 0 = 0 := by
        simp only [List.getD_eq_getElem?_getD]
        rw [List.getElem?_eq_none (by omega)]; rfl
      simp only [psum]
      unfold cterm
      rw [h0]
      simp

theorem cqL_len (cm : Nat → Nat → Bool) (n : Nat) : (cqL cm n).length ≤ n + 1 := by
  refine Nat.le_trans (dropT_len _) ?_
  simp

/-- Rows of steps are as many as the program counts. -/
theorem rows_cnt {cm com : Nat → Nat → Bool} (sym : ∀ a b, com a b = com b a) (irr : ∀ a, com a a = false) {n : Nat} (h1 : 1 ≤ n) (h6 : n ≤ 6) (h : ∀ a b, b < a → a < n → cm a b = com a b) : ∀ m, rowsF com n m = cntF (cqL cm n) m := by
  intro m
  induction m using Nat.strongRecOn with
  | ind m ih =>
    cases m with
    | zero =>
      have : CS com n (endsF com n 0) = 0 := by
        refine (sumL_congr fun u _ => ?_).trans (sumL_zero _)
        cases u with
        | nil => exact endsF_zero com (.inl rfl)
        | cons x u => exact endsF_zero com (.inr (by simp))
      unfold rowsF
      rw [this]
      rfl
    | succ m =>
      have hlaw := rows_law sym irr n (m := m + 1) (by omega)
      have hs := CS_size com n fun j => if j ≤ m + 1 then sg j * rowsF com n (m + 1 - j) else 0
      rw [hlaw] at hs
      have hg : ∀ i, i ≤ n → (cqL cm n).getD i 0 = cqU com n (2 ^ n) i := fun i hi => by rw [cqL_getD cm hi, cqU_agree h]
      have hy0 : cqU com n (2 ^ n) 0 = 1 := by rw [← hg 0 (by omega)]; exact (cqL_first cm h1 h6).1
      have key : ∀ j, j ≤ n → rsum (j + 1) (fun i => (cqU com n (2 ^ n) i : Int) * (if i ≤ m + 1 then sg i * rowsF com n (m + 1 - i) else 0)) + psum (cqL cm n) (cntL (cqL cm n) m) (m + 1) (j + 1) = rowsF com n (m + 1) := by
        intro j
        induction j with
        | zero =>
          intro _
          have h2 : cterm (cqL cm n) (cntL (cqL cm n) m) (m + 1) 0 = 0 := by unfold cterm; rw [if_pos (.inl rfl)]
          simp only [rsum, psum, h2, hy0]
          rw [if_pos (by omega)]
          simp [sg]
        | succ j ihj =>
          intro hj
          have ih2 := ihj (by omega)
          have ht : (cqU com n (2 ^ n) (j + 1) : Int) * (if j + 1 ≤ m + 1 then sg (j + 1) * rowsF com n (m + 1 - (j + 1)) else 0) + cterm (cqL cm n) (cntL (cqL cm n) m) (m + 1) (j + 1) = 0 := by
            rw [cterm_cnt, hg (j + 1) hj]
            by_cases hm : j + 1 ≤ m + 1
            · rw [if_pos hm, if_neg (by omega), ih (m + 1 - (j + 1)) (by omega)]
              unfold sg
              rcases Nat.mod_two_eq_zero_or_one (j + 1) with hp | hp
              · rw [if_pos hp, if_neg (by omega), Int.one_mul, Int.mul_comm]; omega
              · rw [if_neg (by omega), if_pos hp, Int.neg_mul, Int.one_mul, Int.mul_neg, Int.mul_comm]; omega
            · rw [if_neg hm, if_pos (.inr (by omega))]; simp
          rw [show rsum (j + 1 + 1) (fun i => (cqU com n (2 ^ n) i : Int) * (if i ≤ m + 1 then sg i * rowsF com n (m + 1 - i) else 0)) = rsum (j + 1) (fun i => (cqU com n (2 ^ n) i : Int) * (if i ≤ m + 1 then sg i * rowsF com n (m + 1 - i) else 0)) + (cqU com n (2 ^ n) (j + 1) : Int) * (if j + 1 ≤ m + 1 then sg (j + 1) * rowsF com n (m + 1 - (j + 1)) else 0) from rfl,
            show psum (cqL cm n) (cntL (cqL cm n) m) (m + 1) (j + 1 + 1) = psum (cqL cm n) (cntL (cqL cm n) m) (m + 1) (j + 1) + cterm (cqL cm n) (cntL (cqL cm n) m) (m + 1) (j + 1) from rfl]
          omega
      have := key n (Nat.le_refl _)
      rw [← hs, psum_more _ _ _ (n + 1) (cqL_len cm n)] at this
      rw [cntF_succ]
      omega

end Go.Sim
