/-
  Part 5 of the texts behind a statement of this seat: HMk19, HMk22, Rd1, HDH, HMk20, HMk21, HDD, HDE, Sp6, Sp13, HDF, HMk12, HDM, HMk23, HMk24, HZU, HZN1, HZN2, HCt28, HCt29, HCt30, HCt31, HCt32, HCt33.
-/
import Derived.Test.YthplaillblmgfaaGreatDoorProg
import Derived.KernelRfl
import Derived.Test.YthplaillblmgfaaGreatDoorClear4
namespace Go.Proofs.YthplaillblmgfaaGreatDoor
open Go.Sim

/-- A text that two readings share, one of them ahead by `a`. -/
inductive Rc (W : List Tx) : Tx → Tx → Prop
  | init {v w : Tx} : v ∈ W → w ∈ W → v ≠ w → v <+: w → Rc W (w.drop v.length) w
  | fwd {a t w : Tx} : Rc W a t → a ≠ [] → w ∈ W → a <+: w → Rc W (w.drop a.length) (t ++ w.drop a.length)
  | bwd {a t w : Tx} : Rc W a t → a ≠ [] → w ∈ W → w <+: a → Rc W (a.drop w.length) t

def sufs (W : List Tx) : List Tx := W.flatMap fun w => (List.range 11).map fun i => w.drop i

theorem sufs_len (W : List Tx) : (sufs W).length = 11 * W.length := by
  induction W with
  | nil => rfl
  | cons w W ih =>
    have : sufs (w :: W) = ((List.range 11).map fun i => w.drop i) ++ sufs W := by simp [sufs]
    rw [this, List.length_append, ih]
    simp; omega

theorem sufs_drop {W : List Tx} {w : Tx} (hw : w ∈ W) (hl : w.length ≤ 10) (n : Nat) : w.drop n ∈ sufs W := by
  rw [sufs, List.mem_flatMap]
  refine ⟨w, hw, List.mem_map.2 ⟨min n 10, List.mem_range.2 (by omega), ?_⟩⟩
  by_cases h : n ≤ 10
  · rw [Nat.min_eq_left h]
  · rw [Nat.min_eq_right (by omega), List.drop_eq_nil_of_le hl, List.drop_eq_nil_of_le (by omega)]

structure Ok (W : List Tx) : Prop where
  nd : W.Nodup
  ne : ∀ w ∈ W, w ≠ []
  le : ∀ w ∈ W, w.length ≤ 10
  bt : ∀ w ∈ W, bitsB w = true
  few : W.length ≤ 12

theorem bits_drop {w : Tx} (h : bitsB w = true) (n : Nat) : bitsB (w.drop n) = true := by
  simp only [bitsB, List.all_eq_true] at h ⊢
  exact fun x hx => h x (List.mem_of_mem_drop hx)
theorem bits_app {a b : Tx} (h : bitsB a = true) (k : bitsB b = true) : bitsB (a ++ b) = true := by
  simp only [bitsB, List.all_append, Bool.and_eq_true] at *
  exact ⟨h, k⟩

theorem Rc.key {W : List Tx} (ok : Ok W) {a t : Tx} (r : Rc W a t) : (∃ w ∈ W, ∃ n, a = w.drop n) ∧ bitsB t = true := by
  induction r with
  | init hv hw _ _ => exact ⟨⟨_, hw, _, rfl⟩, ok.bt _ hw⟩
  | fwd _ _ hw _ ih => exact ⟨⟨_, hw, _, rfl⟩, bits_app ih.2 (bits_drop (ok.bt _ hw) _)⟩
  | bwd _ _ hw _ ih =>
    obtain ⟨⟨w, h1, n, rfl⟩, h2⟩ := ih
    exact ⟨⟨w, h1, n + _, List.drop_drop ..⟩, h2⟩

theorem Rc.suf {W : List Tx} (ok : Ok W) {a t : Tx} (r : Rc W a t) : a ∈ sufs W := by
  obtain ⟨⟨w, hw, n, rfl⟩, _⟩ := r.key ok
  exact sufs_drop hw (ok.le _ hw) n

structure Good (W : List Tx) (l : List (Tx × Tx)) : Prop where
  nd : (l.map Prod.fst).Nodup
  rc : ∀ k t, look k l = some t → Rc W k t
  ln : ∀ k t, look k l = some t → t.length ≤ 10 * l.length

theorem nodup_leT : ∀ {l m : List Tx}, l.Nodup → (∀ a ∈ l, a ∈ m) → l.length ≤ m.length
  | [], _, _, _ => Nat.zero_le _
  | a :: l, m, hn, hm => by
    rw [List.nodup_cons] at hn
    have ha := hm a List.mem_cons_self
    have := nodup_leT (l := l) (m := m.erase a) hn.2 fun b hb => by
      refine (List.mem_erase_of_ne ?_).2 (hm b (List.mem_cons_of_mem _ hb))
      rintro rfl
      exact hn.1 hb
    rw [List.length_erase_of_mem ha] at this
    have := List.length_pos_of_mem ha
    rw [List.length_cons]; omega

theorem Good.few {W : List Tx} (ok : Ok W) {l : List (Tx × Tx)} (g : Good W l) : l.length ≤ 132 := by
  have h := nodup_leT g.nd (m := sufs W) fun k hk => by
    obtain ⟨t, ht⟩ := mem_look hk
    exact (g.rc k t ht).suf ok
  rw [List.length_map, sufs_len] at h
  have := ok.few
  omega

theorem Good.nil (W : List Tx) : Good W [] := ⟨List.nodup_nil, fun _ _ h => by simp [look] at h, fun _ _ h => by simp [look] at h⟩

theorem put_len {k t : Tx} {l : List (Tx × Tx)} : (put k t l).length = if look k l = none then l.length + 1 else l.length := by
  have := congrArg List.length (keys_put (k := k) (t := t) (l := l))
  rw [List.length_map] at this
  rw [this]
  split <;> simp

theorem good_put {W : List Tx} {k t : Tx} {l : List (Tx × Tx)} (g : Good W l) (r : Rc W k t) (hl : t.length ≤ 10 * l.length + 10) (hb : bet k t l = true) : Good W (put k t l) := by
  refine ⟨?_, fun a u h => ?_, fun a u h => ?_⟩
  · rw [keys_put]
    split
    · rename_i hn
      refine List.nodup_append.2 ⟨g.nd, by simp, fun a ha b hb' e => ?_⟩
      obtain ⟨u, hu⟩ := mem_look ha
      rw [List.mem_singleton.1 hb'] at e
      rw [e, hn] at hu
      cases hu
    · exact g.nd
  · rw [look_put] at h
    split at h
    · rename_i e
      cases h
      exact e ▸ r
    · exact g.rc a u h
  · rw [look_put] at h
    rw [put_len]
    split at h
    · cases h
      split
      · omega
      · rename_i hn
        cases ho : look k l with
        | none => exact absurd ho hn
        | some o =>
          simp only [bet, ho, decide_eq_true_eq] at hb
          have := rk_len (Nat.le_of_lt hb)
          have := g.ln k o ho
          omega
    · have := g.ln a u h
      split <;> omega

def Dn (l l' : List (Tx × Tx)) : Prop := ∀ k t, look k l = some t → ∃ t', look k l' = some t' ∧ rk t' ≤ rk t
theorem Dn.refl (l : List (Tx × Tx)) : Dn l l := fun _ t h => ⟨t, h, Nat.le_refl _⟩
theorem Dn.trans {a b c : List (Tx × Tx)} (x : Dn a b) (y : Dn b c) : Dn a c := fun k t h => by
  obtain ⟨t1, h1, e1⟩ := x k t h
  obtain ⟨t2, h2, e2⟩ := y k t1 h1
  exact ⟨t2, h2, Nat.le_trans e2 e1⟩
theorem Dn.put {k t : Tx} {l : List (Tx × Tx)} (hb : bet k t l = true) : Dn l (put k t l) := fun a u h => by
  rw [look_put]
  by_cases e : a = k
  · rw [if_pos e]
    subst e
    simp only [bet, h, decide_eq_true_eq] at hb
    exact ⟨t, rfl, Nat.le_of_lt hb⟩
  · rw [if_neg e]
    exact ⟨u, h, Nat.le_refl _⟩

def expo : Nat := 1400
def wt (l : List (Tx × Tx)) (k : Tx) : Nat := match look k l with | some t => rk t | none => 2 ^ expo
def mu (W : List Tx) (l : List (Tx × Tx)) : Nat := ((sufs W).map (wt l)).sum

theorem sum_lt {f g : Tx → Nat} : ∀ {m : List Tx}, (∀ k ∈ m, f k ≤ g k) → (∃ k ∈ m, f k < g k) → (m.map f).sum < (m.map g).sum
  | [], _, ⟨k, hk, _⟩ => by simp at hk
  | x :: m, h, ⟨k, hk, hlt⟩ => by
    have hx := h x List.mem_cons_self
    have hle : (m.map f).sum ≤ (m.map g).sum := by
      have : ∀ m : List Tx, (∀ k ∈ m, f k ≤ g k) → (m.map f).sum ≤ (m.map g).sum := by
        intro m
        induction m with
        | nil => intro _; exact Nat.le_refl _
        | cons y m ih =>
          intro h
          have := h y List.mem_cons_self
          have := ih fun k hk => h k (List.mem_cons_of_mem _ hk)
          simp only [List.map_cons, List.sum_cons]; omega
      exact this m fun k hk => h k (List.mem_cons_of_mem _ hk)
    simp only [List.map_cons, List.sum_cons]
    rcases List.mem_cons.1 hk with rfl | hk
    · omega
    · have := sum_lt (m := m) (fun k hk => h k (List.mem_cons_of_mem _ hk)) ⟨k, hk, hlt⟩
      omega

theorem mu_put {W : List Tx} (ok : Ok W) {k t : Tx} {l : List (Tx × Tx)} (g : Good W l) (r : Rc W k t) (hl : t.length ≤ 10 * l.length + 10) (hb : bet k t l = true) : mu W (put k t l) < mu W l := by
  have hf := g.few ok
  have big : rk t < 2 ^ expo := Nat.lt_of_lt_of_le (rk_bounds t).2 (Nat.pow_le_pow_right (by omega) (by show t.length + 1 ≤ 1400; omega))
  have key : wt (put k t l) k < wt l k := by
    unfold wt
    rw [look_put, if_pos rfl]
    cases ho : look k l with
    | none => exact big
    | some o => simpa [bet, ho] using hb
  refine sum_lt (fun a _ => ?_) ⟨k, r.suf ok, key⟩
  by_cases e : a = k
  · rw [e]; exact Nat.le_of_lt key
  · unfold wt; rw [look_put, if_neg e]; exact Nat.le_refl _

/-- What a pass has looked at brings nothing new. -/
def Clo (l : List (Tx × Tx)) (a w : Tx) : Prop := a ≠ [] → ∀ t, look a l = some t →
  (a <+: w → ∃ t', look (w.drop a.length) l = some t' ∧ rk t' ≤ rk (t ++ w.drop a.length)) ∧ (¬ a <+: w → w <+: a → ∃ t', look (a.drop w.length) l = some t' ∧ rk t' ≤ rk t)

def Ini (W : List Tx) (l : List (Tx × Tx)) : Prop := ∀ v ∈ W, ∀ w ∈ W, v ≠ w → v <+: w → ∃ t', look (w.drop v.length) l = some t' ∧ rk t' ≤ rk w
theorem Ini.dn {W : List Tx} {l l' : List (Tx × Tx)} (i : Ini W l) (d : Dn l l') : Ini W l' := fun v hv w hw h1 h2 => by
  obtain ⟨t, e1, e2⟩ := i v hv w hw h1 h2
  obtain ⟨t', f1, f2⟩ := d _ _ e1
  exact ⟨t', f1, Nat.le_trans f2 e2⟩

theorem least {W : List Tx} {l : List (Tx × Tx)} (hi : Ini W l) (hc : ∀ a t, look a l = some t → ∀ w ∈ W, Clo l a w) {a t : Tx} (r : Rc W a t) : ∃ t', look a l = some t' ∧ rk t' ≤ rk t := by
  induction r with
  | init hv hw h1 h2 => exact hi _ hv _ hw h1 h2
  | fwd _ hn hw hp ih =>
    obtain ⟨t', e1, e2⟩ := ih
    obtain ⟨u, f1, f2⟩ := (hc _ _ e1 _ hw hn _ e1).1 hp
    exact ⟨u, f1, Nat.le_trans f2 (rk_app_le e2 _)⟩
  | @bwd a t w _ hn hw hp ih =>
    obtain ⟨t', e1, e2⟩ := ih
    by_cases hq : a <+: w
    · have : a = w := hq.eq_of_length (Nat.le_antisymm hq.length_le hp.length_le)
      subst this
      obtain ⟨u, f1, f2⟩ := (hc _ _ e1 _ hw hn _ e1).1 hq
      rw [List.drop_length] at f1 f2 ⊢
      rw [List.append_nil] at f2
      exact ⟨u, f1, Nat.le_trans f2 e2⟩
    · obtain ⟨u, f1, f2⟩ := (hc _ _ e1 _ hw hn _ e1).2 hq hp
      exact ⟨u, f1, Nat.le_trans f2 e2⟩

end Go.Proofs.YthplaillblmgfaaGreatDoor


namespace Go.Proofs.YthplaillblmgfaaGreatDoor
open Go.Sim

def Rows' (W : List Tx) (x : List Tx) : Prop := ∀ w ∈ x, w ∈ W
def Amb (W : List Tx) (s : Tx) : Prop := ∃ x y, Rows' W x ∧ Rows' W y ∧ x ≠ y ∧ x.flatten = s ∧ y.flatten = s

theorem Rows'.snoc {W x : List Tx} (h : Rows' W x) {w : Tx} (hw : w ∈ W) : Rows' W (x ++ [w]) := fun v hv => by
  rcases List.mem_append.1 hv with hv | hv
  · exact h v hv
  · rw [List.mem_singleton.1 hv]; exact hw

theorem Rc.two {W : List Tx} {a t : Tx} (r : Rc W a t) : ∃ v w x y, v ≠ w ∧ Rows' W (v :: x) ∧ Rows' W (w :: y) ∧ (v :: x).flatten = t ∧ (w :: y).flatten ++ a = t := by
  induction r with
  | @init v w hv hw hne hp =>
    obtain ⟨r, rfl⟩ := hp
    exact ⟨_, v, [], [], Ne.symm hne, fun u hu => by rw [List.mem_singleton.1 hu]; exact hw, fun u hu => by rw [List.mem_singleton.1 hu]; exact hv, by simp, by simp⟩
  | @fwd a t u _ _ hu hp ih =>
    obtain ⟨v, w, x, y, hne, h1, h2, e1, e2⟩ := ih
    obtain ⟨r, rfl⟩ := hp
    refine ⟨w, v, y ++ [a ++ r], x, Ne.symm hne, h2.snoc hu, h1, ?_, ?_⟩
    · rw [← e2]; simp
    · rw [e1]
  | @bwd a t u _ _ hu hp ih =>
    obtain ⟨v, w, x, y, hne, h1, h2, e1, e2⟩ := ih
    obtain ⟨r, rfl⟩ := hp
    refine ⟨v, w, x, y ++ [u], hne, h1, h2.snoc hu, e1, ?_⟩
    rw [← e2]; simp

theorem Rows'.tail {W x : List Tx} {v : Tx} (h : Rows' W (v :: x)) : Rows' W x := fun w hw => h w (List.mem_cons_of_mem _ hw)

theorem run {W : List Tx} : ∀ (n : Nat) {a t : Tx} {x y : List Tx}, x.length + y.length ≤ n → Rc W a t → a ≠ [] → Rows' W x → Rows' W y → a ++ x.flatten = y.flatten → ∃ t', Rc W [] t' ∧ t' <+: t ++ x.flatten := by
  intro n
  induction n with
  | zero =>
    intro a t x y hn r ha hx hy e
    have : y = [] := List.length_eq_zero_iff.1 (by omega)
    subst this
    simp at e
    exact absurd e.1 ha
  | succ n ih =>
    intro a t x y hn r ha hx hy e
    cases y with
    | nil => simp at e; exact absurd e.1 ha
    | cons w y =>
      have hw := hy w List.mem_cons_self
      rw [List.flatten_cons] at e
      simp only [List.length_cons] at hn
      rcases List.prefix_or_prefix_of_prefix (show a <+: a ++ x.flatten from List.prefix_append _ _) (show w <+: a ++ x.flatten from e ▸ List.prefix_append _ _) with hp | hp
      · have r' := Rc.fwd r ha hw hp
        obtain ⟨q, rfl⟩ := hp
        rw [List.drop_left] at r'
        rw [List.append_assoc] at e
        have e' := List.append_cancel_left e
        by_cases hq : q = []
        · subst hq
          exact ⟨_, r', by simp⟩
        · obtain ⟨t', h1, h2⟩ := ih (by omega) r' hq hy.tail hx e'.symm
          refine ⟨t', h1, ?_⟩
          rw [e']
          simpa using h2
      · have r' := Rc.bwd r ha hw hp
        obtain ⟨q, rfl⟩ := hp
        rw [List.drop_left] at r'
        rw [List.append_assoc] at e
        have e' := List.append_cancel_left e
        by_cases hq : q = []
        · subst hq
          exact ⟨_, r', List.prefix_append _ _⟩
        · exact ih (by omega) r' hq hx hy.tail e'

theorem start {W : List Tx} {v w : Tx} {x y : List Tx} (hne : v ≠ w) (hx : Rows' W (v :: x)) (hy : Rows' W (w :: y)) (e : (v :: x).flatten = (w :: y).flatten) : ∃ t', Rc W [] t' ∧ t' <+: (v :: x).flatten := by
  have key : ∀ {v w : Tx} {x y : List Tx}, v ≠ w → Rows' W (v :: x) → Rows' W (w :: y) → v ++ x.flatten = w ++ y.flatten → v <+: w → ∃ t', Rc W [] t' ∧ t' <+: w ++ y.flatten := by
    intro v w x y hne hx hy e hp
    have r := Rc.init (hx v List.mem_cons_self) (hy w List.mem_cons_self) hne hp
    obtain ⟨q, rfl⟩ := hp
    rw [List.drop_left] at r
    rw [List.append_assoc] at e
    have e' := List.append_cancel_left e
    exact run _ (Nat.le_refl _) r (by rintro rfl; simp at hne) hy.tail hx.tail e'.symm
  rw [List.flatten_cons, List.flatten_cons] at e
  rw [List.flatten_cons]
  rcases List.prefix_or_prefix_of_prefix (show v <+: v ++ x.flatten from List.prefix_append _ _) (show w <+: v ++ x.flatten from e ▸ List.prefix_append _ _) with hp | hp
  · rw [e]; exact key hne hx hy e hp
  · exact key (Ne.symm hne) hy hx e.symm hp

theorem Amb.rc {W : List Tx} (hn : ∀ w ∈ W, w ≠ []) {s : Tx} : Amb W s → ∃ t, Rc W [] t ∧ t.length ≤ s.length := by
  rintro ⟨x, y, hx, hy, hne, e1, e2⟩
  induction x generalizing y s with
  | nil =>
    cases y with
    | nil => exact absurd rfl hne
    | cons w y =>
      subst e1
      have := hn w (hy w List.mem_cons_self)
      simp at e2
      exact absurd e2.1 this
  | cons v x ih =>
    cases y with
    | nil =>
      subst e2
      have := hn v (hx v List.mem_cons_self)
      simp at e1
      exact absurd e1.1 this
    | cons w y =>
      by_cases hvw : v = w
      · subst hvw
        rw [List.flatten_cons] at e1 e2
        have e : x.flatten = y.flatten := List.append_cancel_left (e1.trans e2.symm)
        obtain ⟨t, h1, h2⟩ := ih y hx.tail hy.tail (fun h => hne (by rw [h])) rfl e.symm
        exact ⟨t, h1, by rw [← e1, List.length_append]; omega⟩
      · obtain ⟨t, h1, h2⟩ := start hvw hx hy (e1.trans e2.symm)
        exact ⟨t, h1, by rw [← e1]; exact h2.length_le⟩

theorem chk0 {W : List Tx} (ok : Ok W) (h0 : W ≠ []) : chkE W [] = 0 := by
  have := ok.few
  unfold chkE
  rw [if_neg (by simp; omega), if_neg (by simp [h0, bitsB]), if_pos ⟨ok.nd, fun w hw => ⟨ok.ne w hw, ok.le w hw, ok.bt w hw⟩⟩]

end Go.Proofs.YthplaillblmgfaaGreatDoor


namespace Go.Proofs.YthplaillblmgfaaGreatDoor
open Go.Sim

def sufB (s : Tx) (i : Nat) (w : Tx) : Bool := decide (w <:+ s.take i)
def sumR (s : Tx) (cs : List Nat) (i : Nat) (V : List Tx) : Nat := ((V.filter (sufB s i)).map fun w => cs.getD (i - w.length) 0).sum
/-- For each beginning. -/
def rdL (W : List Tx) (s : Tx) : Nat → List Nat
  | 0 => [1]
  | i + 1 => rdL W s i ++ [sumR s (rdL W s i) (i + 1) W]

theorem rdL_len (W : List Tx) (s : Tx) : ∀ i, (rdL W s i).length = i + 1
  | 0 => rfl
  | i + 1 => by rw [rdL, List.length_append, rdL_len W s i]; rfl

def rdN (W : List Tx) (s : Tx) (i : Nat) : Nat := (rdL W s i).getD i 0

/-- The readings themselves. -/
def rowL (W : List Tx) (s : Tx) : Nat → List (List (List Tx))
  | 0 => [[[]]]
  | i + 1 => rowL W s i ++ [(W.filter (sufB s (i + 1))).flatMap fun w => ((rowL W s i).getD (i + 1 - w.length) []).map (· ++ [w])]

theorem rowL_len (W : List Tx) (s : Tx) : ∀ i, (rowL W s i).length = i + 1
  | 0 => rfl
  | i + 1 => by rw [rowL, List.length_append, rowL_len W s i]; rfl

theorem getD_map_len (l : List (List (List Tx))) (k : Nat) : (l.map List.length).getD k 0 = (l.getD k []).length := by
  simp only [List.getD_eq_getElem?_getD, List.getElem?_map]
  cases l[k]? <;> rfl

theorem len_flatMap (V : List Tx) (f : Tx → List (List Tx)) : (V.flatMap f).length = (V.map fun w => (f w).length).sum := by
  induction V with
  | nil => rfl
  | cons v V ih => rw [List.flatMap_cons, List.length_append, ih, List.map_cons, List.sum_cons]

theorem rdL_row (W : List Tx) (s : Tx) : ∀ i, rdL W s i = (rowL W s i).map List.length
  | 0 => rfl
  | i + 1 => by
    rw [rdL, rowL, List.map_append, ← rdL_row W s i, List.map_cons, List.map_nil, len_flatMap]
    congr 2
    unfold sumR
    congr 1
    refine List.map_congr_left fun w _ => ?_
    rw [rdL_row W s i, getD_map_len, List.length_map]

theorem row_mem {W : List Tx} {s : Tx} (hn : ∀ w ∈ W, w ≠ []) : ∀ i, i ≤ s.length → ∀ j, j ≤ i → ∀ x, x ∈ (rowL W s i).getD j [] ↔ Rows' W x ∧ x.flatten = s.take j
  | 0, _, j, hj, x => by
    have : j = 0 := by omega
    subst this
    simp only [rowL, List.getD_cons_zero, List.mem_singleton, List.take_zero]
    constructor
    · rintro rfl; exact ⟨fun w hw => by simp at hw, rfl⟩
    · rintro ⟨h1, h2⟩
      cases x with
      | nil => rfl
      | cons v x =>
        rw [List.flatten_cons, List.append_eq_nil_iff] at h2
        exact absurd h2.1 (hn v (h1 v List.mem_cons_self))
  | i + 1, hi, j, hj, x => by
    have ih := row_mem (W := W) (s := s) hn i (by omega)
    have hl := rowL_len W s i
    rw [rowL]
    by_cases hj' : j ≤ i
    · rw [List.getD_eq_getElem?_getD, List.getElem?_append_left (by omega), ← List.getD_eq_getElem?_getD]
      exact ih j hj' x
    · have : j = i + 1 := by omega
      subst this
      have e : (rowL W s i ++ [(W.filter (sufB s (i + 1))).flatMap fun w => ((rowL W s i).getD (i + 1 - w.length) []).map (· ++ [w])]).getD (i + 1) [] = (W.filter (sufB s (i + 1))).flatMap fun w => ((rowL W s i).getD (i + 1 - w.length) []).map (· ++ [w]) := by
        rw [List.getD_eq_getElem?_getD, List.getElem?_append_right (by omega), hl, Nat.sub_self]
        rfl
      rw [e, List.mem_flatMap]
      have tl : (s.take (i + 1)).length = i + 1 := by rw [List.length_take]; omega
      constructor
      · rintro ⟨w, hw, hx⟩
        obtain ⟨hw1, hw2⟩ := List.mem_filter.1 hw
        obtain ⟨y, hy, rfl⟩ := List.mem_map.1 hx
        have hne := List.length_pos_iff.2 (hn w hw1)
        have hs : w <:+ s.take (i + 1) := by simpa [sufB] using hw2
        have hwl := hs.length_le
        obtain ⟨h1, h2⟩ := (ih _ (by omega) y).1 hy
        refine ⟨h1.snoc hw1, ?_⟩
        obtain ⟨p, hp⟩ := hs
        have pl : p.length = i + 1 - w.length := by
          have := congrArg List.length hp
          rw [List.length_append] at this
          omega
        have : s.take (i + 1 - w.length) = p := by
          have h3 : (s.take (i + 1)).take (i + 1 - w.length) = s.take (i + 1 - w.length) := by rw [List.take_take, Nat.min_eq_left (by omega)]
          rw [← h3, ← hp, ← pl, List.take_left]
        rw [List.flatten_append, h2, this]
        simpa using hp
      · rintro ⟨h1, h2⟩
        have hx : x ≠ [] := by
          rintro rfl
          have := congrArg List.length h2
          rw [tl] at this
          simp at this
        obtain ⟨y, w, rfl⟩ : ∃ t c, x = t ++ [c] := ⟨x.dropLast, x.getLast hx, (List.dropLast_concat_getLast _).symm⟩
        have hw1 : w ∈ W := h1 w (by simp)
        have hne := List.length_pos_iff.2 (hn w hw1)
        rw [List.flatten_append] at h2
        simp only [List.flatten_cons, List.flatten_nil, List.append_nil] at h2
        have hs : w <:+ s.take (i + 1) := ⟨_, h2⟩
        have hwl := hs.length_le
        refine ⟨w, List.mem_filter.2 ⟨hw1, by simpa [sufB] using hs⟩, List.mem_map.2 ⟨y, ?_, rfl⟩⟩
        refine (ih _ (by omega) y).2 ⟨fun v hv => h1 v (by simp [hv]), ?_⟩
        have pl : y.flatten.length = i + 1 - w.length := by
          have := congrArg List.length h2
          rw [List.length_append] at this
          omega
        have h3 : (s.take (i + 1)).take (i + 1 - w.length) = s.take (i + 1 - w.length) := by rw [List.take_take, Nat.min_eq_left (by omega)]
        rw [← h3, ← h2, ← pl, List.take_left]

theorem nodup_flatMap {V : List Tx} {f : Tx → List (List Tx)} (hv : V.Nodup) (h1 : ∀ v ∈ V, (f v).Nodup) (h2 : ∀ v ∈ V, ∀ w ∈ V, v ≠ w → ∀ x ∈ f v, x ∉ f w) : (V.flatMap f).Nodup := by
  induction V with
  | nil => exact List.nodup_nil
  | cons v V ih =>
    rw [List.nodup_cons] at hv
    rw [List.flatMap_cons]
    refine List.nodup_append.2 ⟨h1 v List.mem_cons_self, ih hv.2 (fun w hw => h1 w (List.mem_cons_of_mem _ hw)) (fun a ha b hb => h2 a (List.mem_cons_of_mem _ ha) b (List.mem_cons_of_mem _ hb)), fun a ha b hb e => ?_⟩
    obtain ⟨w, hw, hb'⟩ := List.mem_flatMap.1 hb
    exact h2 v List.mem_cons_self w (List.mem_cons_of_mem _ hw) (by rintro rfl; exact hv.1 hw) a ha (e ▸ hb')

theorem row_nodup {W : List Tx} {s : Tx} (nd : W.Nodup) : ∀ i j, ((rowL W s i).getD j []).Nodup
  | 0, 0 => by simp [rowL]
  | 0, j + 1 => by simp [rowL]
  | i + 1, j => by
    have hl := rowL_len W s i
    rw [rowL]
    by_cases hj : j < i + 1
    · rw [List.getD_eq_getElem?_getD, List.getElem?_append_left (by omega), ← List.getD_eq_getElem?_getD]
      exact row_nodup nd i j
    · rw [List.getD_eq_getElem?_getD, List.getElem?_append_right (by omega)]
      by_cases hj' : j - (rowL W s i).length = 0
      · rw [hj', List.getElem?_cons_zero, Option.getD_some]
        refine nodup_flatMap (nd.sublist List.filter_sublist) (fun v _ => ?_) (fun v _ w _ hne x hx hx' => ?_)
        · refine List.pairwise_map.2 ((row_nodup nd i _).imp fun h e => h ?_)
          exact List.append_cancel_right e
        · obtain ⟨y, _, rfl⟩ := List.mem_map.1 hx
          obtain ⟨z, _, e⟩ := List.mem_map.1 hx'
          have := congrArg List.getLast? e
          simp at this
          exact hne this.symm
      · rw [List.getElem?_eq_none (by simp; omega)]
        exact List.nodup_nil

theorem rdN_row (W : List Tx) (s : Tx) (i : Nat) : rdN W s i = ((rowL W s i).getD i []).length := by
  rw [rdN, rdL_row, getD_map_len]

theorem rd_one {W : List Tx} {s : Tx} (nd : W.Nodup) (hn : ∀ w ∈ W, w ≠ []) {x : List Tx} (hx : Rows' W x) (e : x.flatten = s) (h : ¬ Amb W s) : rdN W s s.length = 1 := by
  rw [rdN_row]
  have mm := row_mem (W := W) (s := s) hn s.length (Nat.le_refl _) s.length (Nat.le_refl _)
  have nn := row_nodup (W := W) (s := s) nd s.length s.length
  have m1 := (mm x).2 ⟨hx, by rw [List.take_length, e]⟩
  generalize (rowL W s s.length).getD s.length [] = l at m1 mm nn
  match l with
  | [] => simp at m1
  | [a] => rfl
  | a :: b :: l =>
    obtain ⟨a1, a2⟩ := (mm a).1 (by simp)
    obtain ⟨b1, b2⟩ := (mm b).1 (by simp)
    rw [List.take_length] at a2 b2
    refine absurd ⟨a, b, a1, b1, fun e => ?_, a2, b2⟩ h
    rw [List.nodup_cons] at nn
    exact nn.1 (by rw [e]; simp)

theorem sum_le_mul {l : List Nat} {m : Nat} (h : ∀ x ∈ l, x ≤ m) : l.sum ≤ l.length * m := by
  induction l with
  | nil => simp
  | cons x l ih =>
    have := h x List.mem_cons_self
    have := ih fun y hy => h y (List.mem_cons_of_mem _ hy)
    rw [List.sum_cons, List.length_cons, Nat.succ_mul]; omega

theorem sumR_le {s : Tx} {cs : List Nat} {i m : Nat} {V : List Tx} (hv : V.length ≤ 12) (h : ∀ x ∈ cs, x ≤ m) : sumR s cs i V ≤ 12 * m := by
  unfold sumR
  refine Nat.le_trans (sum_le_mul (m := m) fun x hx => ?_) (Nat.mul_le_mul_right _ ?_)
  · obtain ⟨w, _, rfl⟩ := List.mem_map.1 hx
    rw [List.getD_eq_getElem?_getD]
    cases hc : cs[i - w.length]? with
    | none => exact Nat.zero_le _
    | some c => exact h c (List.mem_of_getElem? hc)
  · rw [List.length_map]
    exact Nat.le_trans (List.length_filter_le _ _) hv

theorem rdL_le {W : List Tx} (hv : W.length ≤ 12) (s : Tx) : ∀ i, ∀ x ∈ rdL W s i, x ≤ 12 ^ i
  | 0, x, hx => by rw [rdL, List.mem_singleton] at hx; rw [hx]; exact Nat.le_refl _
  | i + 1, x, hx => by
    rw [rdL] at hx
    have ih := rdL_le hv s i
    rw [Nat.pow_succ, Nat.mul_comm]
    rcases List.mem_append.1 hx with hx | hx
    · have := ih x hx; omega
    · rw [List.mem_singleton.1 hx]
      exact sumR_le hv ih

theorem sumR_snoc {s : Tx} {cs : List Nat} {i : Nat} (V : List Tx) (w : Tx) : sumR s cs i (V ++ [w]) = sumR s cs i V + (if sufB s i w then cs.getD (i - w.length) 0 else 0) := by
  unfold sumR
  rw [List.filter_append, List.map_append, List.sum_append]
  by_cases h : sufB s i w = true
  · simp [h]
  · simp [h]

end Go.Proofs.YthplaillblmgfaaGreatDoor


namespace Go.Proofs.YthplaillblmgfaaGreatDoor
open Go.Sim
variable (P : Program) (K : VK)
/-! F9: pommel/mark.Clear -/
noncomputable def c9z29 : ICode := .ops none [⟨some 47, .p (.pick (.tmp 43) (.tmp 46) (.const (.bool false)))⟩]
noncomputable def c9z27 : ICode := .seq (.ops (some (43, true)) [gm 44 10,gm 45 8,⟨some 46, .call 43 [(.tmp 44), (.tmp 45)]⟩])
 (.cut [0, 5, 6, 7, 8, 10, 26, 27, 28, 33, 34, 35, 43, 46] c9z29)
noncomputable def c9z25 : ICode := .cond (.tmp 47) (.ops none [gm 48 6,gm 49 10,gm 50 8,⟨some 51, .p (.lenS (.tmp 50))⟩,⟨some 52, .p (.slS (.tmp 49) (some (.tmp 51)) none)⟩,gm 53 10,⟨some 54, .callv (.tmp 48) [(.tmp 52), (.tmp 53)]⟩])
 (.skip)
noncomputable def c9z30 : ICode := .ops none [⟨some 55, .p (.bin .add (.tmp 35) (ci (1)))⟩,gm 35 55]
noncomputable def c9z22 : ICode := .cut [0, 5, 6, 7, 8, 26, 27, 28, 33, 34, 35] c9z30
noncomputable def c9z19 : ICode := .seq (.ops none [⟨some 36, .p (.bin .lss (.tmp 35) (.tmp 34))⟩])
 (.seq (.cond (.tmp 36) (.skip)
 (.exit 2))
 (.seq (.block 3 (.seq (.ops none [gm 37 35,⟨some 38, .p (.adrSl 1 (.tmp 33) (.tmp 35))⟩,⟨some 39, .l (.load false 1 (.tmp 38))⟩,gm 9 37,gm 10 39])
 (.seq (.seq (.ops none [gm 40 7,gm 41 9,⟨some 42, .p (.bin .neq (.tmp 40) (.tmp 41))⟩,gm 43 42])
 (.cut [0, 5, 6, 7, 8, 10, 26, 27, 28, 33, 34, 35, 43] c9z27)) c9z25))) c9z22))
noncomputable def c9z31 : ICode := .ops none [⟨some 56, .p (.bin .add (.tmp 28) (ci (1)))⟩,gm 28 56]
noncomputable def c9z14 : ICode := .cut [0, 5, 6, 26, 27, 28] c9z31
noncomputable def c9z11 : ICode := .seq (.ops none [⟨some 29, .p (.bin .lss (.tmp 28) (.tmp 27))⟩])
 (.seq (.cond (.tmp 29) (.skip)
 (.exit 0))
 (.seq (.block 1 (.seq (.ops none [gm 30 28,⟨some 31, .p (.adrSl 1 (.tmp 26) (.tmp 28))⟩,⟨some 32, .l (.load false 1 (.tmp 31))⟩,gm 7 30,gm 8 32])
 (.seq (.ops none [gm 33 0,⟨some 34, .p (.lenSl (.tmp 33))⟩,⟨some 35, .p (.mv (ci (0)))⟩])
 (.block 2 (.loop [0, 5, 6, 7, 8, 26, 27, 28, 33, 34] [35] c9z19))))) c9z14))
noncomputable def c9z64 : ICode := .ops none [⟨some 93, .p (.pick (.tmp 91) (.const (.bool true)) (.tmp 92))⟩,gm 11 93]
noncomputable def c9z62 : ICode := .seq (.ops (some (91, false)) [gm 92 11])
 (.cut [0, 5, 6, 13, 59, 60, 61, 65, 66, 67, 91, 92] c9z64)
noncomputable def c9z66 : ICode := .ops none [⟨some 110, .p (.bin .add (.tmp 67) (ci (1)))⟩,gm 67 110]
noncomputable def c9z54 : ICode := .cut [0, 5, 6, 11, 13, 59, 60, 61, 65, 66, 67] c9z66
noncomputable def c9z51 : ICode := .seq (.ops none [⟨some 68, .p (.bin .lss (.tmp 67) (.tmp 66))⟩])
 (.seq (.cond (.tmp 68) (.skip)
 (.exit 8))
 (.seq (.block 9 (.seq (.ops none [⟨some 69, .p (.adrSl 1 (.tmp 65) (.tmp 67))⟩,⟨some 70, .l (.load false 1 (.tmp 69))⟩,gm 15 70])
 (.block 10 (.seq (.ops none [gm 72 13,⟨some 73, .p (.bin .eql (.tmp 72) (.const (.string ⟨#[]⟩)))⟩,gm 71 73])
 (.cond (.tmp 71) (.skip)
 (.seq (.ops none [gm 75 15,gm 76 13,⟨some 77, .call 43 [(.tmp 75), (.tmp 76)]⟩,gm 74 77])
 (.cond (.tmp 74) (.seq (.ops none [gm 78 15,gm 79 13,⟨some 80, .p (.lenS (.tmp 79))⟩,⟨some 81, .p (.slS (.tmp 78) (some (.tmp 80)) none)⟩,gm 16 81])
 (.seq (.ops none [gm 82 6,gm 83 16,⟨some 84, .l (.load false 1 (.tmp 5))⟩,gm 85 13,⟨some 86, .l (.lookupG .str false (.string ⟨#[]⟩) (.tmp 84) (.tmp 85))⟩,gm 87 16,⟨some 88, .e (.mkSl 9 2 [(.string ⟨#[]⟩)] [(0, 1, (.tmp 86)), (1, 1, (.tmp 87))])⟩,⟨some 89, .call 45 [(.tmp 88)]⟩,⟨some 90, .callv (.tmp 82) [(.tmp 83), (.tmp 89)]⟩,gm 91 90])
 (.cut [0, 5, 6, 11, 13, 59, 60, 61, 65, 66, 67, 91] c9z62)))
 (.seq (.ops none [gm 95 13,gm 96 15,⟨some 97, .call 43 [(.tmp 95), (.tmp 96)]⟩,gm 94 97])
 (.cond (.tmp 94) (.dops [(none, [gd 98 6 0,gd 99 13 0,gd 100 15 0,⟨some 101, .p (.lenS (.tmp 100)), 4⟩,⟨some 102, .p (.slS (.tmp 99) (some (.tmp 101)) none), 14⟩,⟨some 103, .l (.load false 1 (.tmp 5)), 0⟩,gd 104 13 0,⟨some 105, .l (.lookupG .str false (.string ⟨#[]⟩) (.tmp 103) (.tmp 104)), 96⟩,⟨some 106, .callv (.tmp 98) [(.tmp 102), (.tmp 105)], 255⟩,gd 107 106 511]),
 ((some (107, false)), [gd 108 11 1023]),
 (none, [⟨some 109, .p (.pick (.tmp 107) (.const (.bool true)) (.tmp 108)), 2047⟩,gd 11 109 4095])])
 (.skip)))))))))) c9z54))
noncomputable def c9z67 : ICode := .ops none [⟨some 111, .p (.bin .add (.tmp 61) (ci (1)))⟩,gm 61 111]
noncomputable def c9z46 : ICode := .cut [0, 5, 6, 11, 59, 60, 61] c9z67
noncomputable def c9z43 : ICode := .seq (.ops none [⟨some 62, .p (.bin .lss (.tmp 61) (.tmp 60))⟩])
 (.seq (.cond (.tmp 62) (.skip)
 (.exit 6))
 (.seq (.block 7 (.seq (.ops none [⟨some 63, .p (.adrSl 1 (.tmp 59) (.tmp 61))⟩,⟨some 64, .l (.load false 1 (.tmp 63))⟩,gm 13 64])
 (.seq (.ops none [gm 65 0,⟨some 66, .p (.lenSl (.tmp 65))⟩,⟨some 67, .p (.mv (ci (0)))⟩])
 (.block 8 (.loop [0, 5, 6, 13, 59, 60, 61, 65, 66] [11, 67] c9z51))))) c9z46))
noncomputable def c9z36 : ICode := .seq (.seq (.ops none [gm 57 11])
 (.cond (.tmp 57) (.skip)
 (.exit 4)))
 (.block 5 (.seq (.ops none [⟨some 11, .p (.mv (.const (.bool false)))⟩])
 (.seq (.ops none [⟨some 58, .l (.load false 1 (.tmp 5))⟩,⟨some 59, .call 44 [(.tmp 58)]⟩,⟨some 60, .p (.lenSl (.tmp 59))⟩,⟨some 61, .p (.mv (ci (0)))⟩])
 (.block 6 (.loop [0, 5, 6, 59, 60] [11, 61] c9z43)))))
noncomputable def c9z68 : ICode := .seq (.ops none [⟨some 113, .l (.load false 1 (.tmp 5))⟩,⟨some 114, .l (.lookupG .str true (.string ⟨#[]⟩) (.tmp 113) (.const (.string ⟨#[]⟩)))⟩,gm 112 114,⟨some 115, .p (.ext (.tmp 112) 0)⟩,⟨some 116, .p (.ext (.tmp 112) 1)⟩,gm 17 115,gm 18 116])
 (.seq (.seq (.ops none [gm 117 18,⟨some 118, .p (.un .not (.tmp 117))⟩])
 (.cond (.tmp 118) (.seq (.ops none [⟨some 2, .p (.mv (.const (.string ⟨#[]⟩)))⟩,⟨some 3, .p (.mv (ci (5)))⟩])
 (.ret))
 (.skip)))
 (.seq (.ops none [gm 119 17,gm 2 119,⟨some 3, .p (.mv (ci (0)))⟩])
 (.ret)))
noncomputable def c9z33 : ICode := .cut [5] c9z68
noncomputable def c9z32 : ICode := .seq (.seq (.ops none [⟨some 11, .p (.mv (.const (.bool true)))⟩])
 (.block 4 (.loop [0, 5, 6] [11] c9z36))) c9z33
noncomputable def c9z8 : ICode := .cut [0, 5, 6] c9z32
noncomputable def c9 : ICode := .seq (.ops none [⟨some 2, .p (.mv (.const (.string ⟨#[]⟩)))⟩,⟨some 3, .p (.mv (ci (0)))⟩])
 (.seq (.seq (.ops none [gm 19 0,⟨some 20, .call 40 [(.tmp 19), (.const (.string ⟨#[]⟩))]⟩,gm 4 20])
 (.seq (.ops none [gm 21 4,⟨some 22, .p (.bin .neq (.tmp 21) (ci (0)))⟩])
 (.cond (.tmp 22) (.seq (.ops none [gm 23 4,⟨some 2, .p (.mv (.const (.string ⟨#[]⟩)))⟩,gm 3 23])
 (.ret))
 (.skip))))
 (.seq (.ops none [⟨some 24, .e (.mkMapG .str)⟩,⟨some 5, .e (.alloc 74 [(.map none)])⟩,
 ⟨none, .e (.store 1 (.tmp 5) (.tmp 24))⟩])
 (.seq (.ops none [⟨some 25, .p (.fn 41 [] [(.tmp 5)])⟩,gm 6 25])
 (.seq (.seq (.ops none [gm 26 0,⟨some 27, .p (.lenSl (.tmp 26))⟩,⟨some 28, .p (.mv (ci (0)))⟩])
 (.block 0 (.loop [0, 5, 6, 26, 27] [28] c9z11))) c9z8))))
theorem k9 : compFn Tryz.prog 9 [[], [], [], [], [], [], [], [], [0, 5, 6, 26, 27], [28], [], [], [], [], [0, 5, 6, 7, 8, 26, 27, 28, 33, 34], [35], [], [], [], [0, 5, 6, 7, 8, 10, 26, 27, 28, 33, 34, 35, 43], [0, 5, 6, 7, 8, 10, 26, 27, 28, 33, 34, 35, 43, 46], [], [0, 5, 6, 7, 8, 26, 27, 28, 33, 34, 35], [0, 5, 6, 26, 27, 28], [0, 5, 6], [], [0, 5, 6], [11], [], [], [], [], [0, 5, 6, 59, 60], [11, 61], [], [], [], [], [0, 5, 6, 13, 59, 60, 61, 65, 66], [11, 67], [], [], [], [], [], [], [0, 5, 6, 11, 13, 59, 60, 61, 65, 66, 67, 91], [0, 5, 6, 13, 59, 60, 61, 65, 66, 67, 91, 92], [], [0, 5, 6, 11, 13, 59, 60, 61, 65, 66, 67], [0, 5, 6, 11, 59, 60, 61], [5], [], [], [], [], []] = some (120, c9, [.tmp 2, .tmp 3]) := by kernel_rfl
def K9z0 (_P : Program) (K : VK) : Kont := bodyP [.tmp 2, .tmp 3] K
def K9z8 : Kont := thenK (iwpP P c9z8 (K9z0 P K)) (K9z0 P K)
def K9z10 : Kont := inBlockK 0 (K9z8 P K)
def K9z11 (words0 texts5 reach6 x26 x27 : Value) (L1 : LK) : Kont := thenK (fun f' h'' => (([0, 5, 6, 26, 27] : List Nat).map f' : List Value) = [words0, texts5, reach6, x26, x27] ∧ L1 (([28] : List Nat).map f') h'') (K9z10 P K)
def K9z14 (words0 texts5 reach6 x26 x27 : Value) (L1 : LK) : Kont := thenK (iwpP P c9z14 (K9z11 P K words0 texts5 reach6 x26 x27 L1)) (K9z11 P K words0 texts5 reach6 x26 x27 L1)
def K9z15 (words0 texts5 reach6 x26 x27 : Value) (L1 : LK) : Kont := inBlockK 1 (K9z14 P K words0 texts5 reach6 x26 x27 L1)
def K9z18 (words0 texts5 reach6 x26 x27 : Value) (L1 : LK) : Kont := inBlockK 2 (K9z15 P K words0 texts5 reach6 x26 x27 L1)
def K9z19 (words0 texts5 reach6 i7 v8 x26 x27 x28 x33 x34 : Value) (L1 L2 : LK) : Kont := thenK (fun f' h'' => (([0, 5, 6, 7, 8, 26, 27, 28, 33, 34] : List Nat).map f' : List Value) = [words0, texts5, reach6, i7, v8, x26, x27, x28, x33, x34] ∧ L2 (([35] : List Nat).map f') h'') (K9z18 P K words0 texts5 reach6 x26 x27 L1)
def K9z22 (words0 texts5 reach6 i7 v8 x26 x27 x28 x33 x34 : Value) (L1 L2 : LK) : Kont := thenK (iwpP P c9z22 (K9z19 P K words0 texts5 reach6 i7 v8 x26 x27 x28 x33 x34 L1 L2)) (K9z19 P K words0 texts5 reach6 i7 v8 x26 x27 x28 x33 x34 L1 L2)
def K9z23 (words0 texts5 reach6 i7 v8 x26 x27 x28 x33 x34 : Value) (L1 L2 : LK) : Kont := inBlockK 3 (K9z22 P K words0 texts5 reach6 i7 v8 x26 x27 x28 x33 x34 L1 L2)
def K9z25 (words0 texts5 reach6 i7 v8 x26 x27 x28 x33 x34 : Value) (L1 L2 : LK) : Kont := thenK (iwpP P c9z25 (K9z23 P K words0 texts5 reach6 i7 v8 x26 x27 x28 x33 x34 L1 L2)) (K9z23 P K words0 texts5 reach6 i7 v8 x26 x27 x28 x33 x34 L1 L2)
def K9z33 : Kont := thenK (iwpP P c9z33 (K9z0 P K)) (K9z0 P K)
def K9z35 : Kont := inBlockK 4 (K9z33 P K)
def K9z36 (words0 texts5 reach6 : Value) (L1 : LK) : Kont := thenK (fun f' h'' => (([0, 5, 6] : List Nat).map f' : List Value) = [words0, texts5, reach6] ∧ L1 (([11] : List Nat).map f') h'') (K9z35 P K)
def K9z39 (words0 texts5 reach6 : Value) (L1 : LK) : Kont := inBlockK 5 (K9z36 P K words0 texts5 reach6 L1)
def K9z42 (words0 texts5 reach6 : Value) (L1 : LK) : Kont := inBlockK 6 (K9z39 P K words0 texts5 reach6 L1)
def K9z43 (words0 texts5 reach6 x59 x60 : Value) (L1 L2 : LK) : Kont := thenK (fun f' h'' => (([0, 5, 6, 59, 60] : List Nat).map f' : List Value) = [words0, texts5, reach6, x59, x60] ∧ L2 (([11, 61] : List Nat).map f') h'') (K9z42 P K words0 texts5 reach6 L1)
def K9z46 (words0 texts5 reach6 x59 x60 : Value) (L1 L2 : LK) : Kont := thenK (iwpP P c9z46 (K9z43 P K words0 texts5 reach6 x59 x60 L1 L2)) (K9z43 P K words0 texts5 reach6 x59 x60 L1 L2)
def K9z47 (words0 texts5 reach6 x59 x60 : Value) (L1 L2 : LK) : Kont := inBlockK 7 (K9z46 P K words0 texts5 reach6 x59 x60 L1 L2)
def K9z50 (words0 texts5 reach6 x59 x60 : Value) (L1 L2 : LK) : Kont := inBlockK 8 (K9z47 P K words0 texts5 reach6 x59 x60 L1 L2)
def K9z51 (words0 texts5 reach6 ahead13 x59 x60 x61 x65 x66 : Value) (L1 L2 L3 : LK) : Kont := thenK (fun f' h'' => (([0, 5, 6, 13, 59, 60, 61, 65, 66] : List Nat).map f' : List Value) = [words0, texts5, reach6, ahead13, x59, x60, x61, x65, x66] ∧ L3 (([11, 67] : List Nat).map f') h'') (K9z50 P K words0 texts5 reach6 x59 x60 L1 L2)
def K9z54 (words0 texts5 reach6 ahead13 x59 x60 x61 x65 x66 : Value) (L1 L2 L3 : LK) : Kont := thenK (iwpP P c9z54 (K9z51 P K words0 texts5 reach6 ahead13 x59 x60 x61 x65 x66 L1 L2 L3)) (K9z51 P K words0 texts5 reach6 ahead13 x59 x60 x61 x65 x66 L1 L2 L3)
def K9z55 (words0 texts5 reach6 ahead13 x59 x60 x61 x65 x66 : Value) (L1 L2 L3 : LK) : Kont := inBlockK 9 (K9z54 P K words0 texts5 reach6 ahead13 x59 x60 x61 x65 x66 L1 L2 L3)
def K9z57 (words0 texts5 reach6 ahead13 x59 x60 x61 x65 x66 : Value) (L1 L2 L3 : LK) : Kont := inBlockK 10 (K9z55 P K words0 texts5 reach6 ahead13 x59 x60 x61 x65 x66 L1 L2 L3)
def p9z11 (words0 texts5 reach6 x26 x27 : Value) (L1 : LK) (xs : List Value) (h : Heap) : Prop := CutP (iwpP P c9z11 (K9z11 P K words0 texts5 reach6 x26 x27 L1)) ([0, 5, 6, 26, 27] ++ [28]) ([words0, texts5, reach6, x26, x27] ++ xs) h
def p9z19 (words0 texts5 reach6 i7 v8 x26 x27 x28 x33 x34 : Value) (L1 L2 : LK) (xs : List Value) (h : Heap) : Prop := CutP (iwpP P c9z19 (K9z19 P K words0 texts5 reach6 i7 v8 x26 x27 x28 x33 x34 L1 L2)) ([0, 5, 6, 7, 8, 26, 27, 28, 33, 34] ++ [35]) ([words0, texts5, reach6, i7, v8, x26, x27, x28, x33, x34] ++ xs) h
def p9z27 (words0 texts5 reach6 i7 v8 w10 x26 x27 x28 x33 x34 x35 x43 : Value) (L1 L2 : LK) (h : Heap) : Prop := CutP (iwpP P c9z27 (K9z25 P K words0 texts5 reach6 i7 v8 x26 x27 x28 x33 x34 L1 L2)) [0, 5, 6, 7, 8, 10, 26, 27, 28, 33, 34, 35, 43] [words0, texts5, reach6, i7, v8, w10, x26, x27, x28, x33, x34, x35, x43] h
def p9z29 (words0 texts5 reach6 i7 v8 w10 x26 x27 x28 x33 x34 x35 x43 x46 : Value) (L1 L2 : LK) (h : Heap) : Prop := CutP (iwpP P c9z29 (K9z25 P K words0 texts5 reach6 i7 v8 x26 x27 x28 x33 x34 L1 L2)) [0, 5, 6, 7, 8, 10, 26, 27, 28, 33, 34, 35, 43, 46] [words0, texts5, reach6, i7, v8, w10, x26, x27, x28, x33, x34, x35, x43, x46] h
def p9z30 (words0 texts5 reach6 i7 v8 x26 x27 x28 x33 x34 x35 : Value) (L1 L2 : LK) (h : Heap) : Prop := CutP (iwpP P c9z30 (K9z19 P K words0 texts5 reach6 i7 v8 x26 x27 x28 x33 x34 L1 L2)) [0, 5, 6, 7, 8, 26, 27, 28, 33, 34, 35] [words0, texts5, reach6, i7, v8, x26, x27, x28, x33, x34, x35] h
def p9z31 (words0 texts5 reach6 x26 x27 x28 : Value) (L1 : LK) (h : Heap) : Prop := CutP (iwpP P c9z31 (K9z11 P K words0 texts5 reach6 x26 x27 L1)) [0, 5, 6, 26, 27, 28] [words0, texts5, reach6, x26, x27, x28] h
def p9z32 (words0 texts5 reach6 : Value) (h : Heap) : Prop := CutP (iwpP P c9z32 (K9z0 P K)) [0, 5, 6] [words0, texts5, reach6] h
def p9z36 (words0 texts5 reach6 : Value) (L1 : LK) (xs : List Value) (h : Heap) : Prop := CutP (iwpP P c9z36 (K9z36 P K words0 texts5 reach6 L1)) ([0, 5, 6] ++ [11]) ([words0, texts5, reach6] ++ xs) h
def p9z43 (words0 texts5 reach6 x59 x60 : Value) (L1 L2 : LK) (xs : List Value) (h : Heap) : Prop := CutP (iwpP P c9z43 (K9z43 P K words0 texts5 reach6 x59 x60 L1 L2)) ([0, 5, 6, 59, 60] ++ [11, 61]) ([words0, texts5, reach6, x59, x60] ++ xs) h
def p9z51 (words0 texts5 reach6 ahead13 x59 x60 x61 x65 x66 : Value) (L1 L2 L3 : LK) (xs : List Value) (h : Heap) : Prop := CutP (iwpP P c9z51 (K9z51 P K words0 texts5 reach6 ahead13 x59 x60 x61 x65 x66 L1 L2 L3)) ([0, 5, 6, 13, 59, 60, 61, 65, 66] ++ [11, 67]) ([words0, texts5, reach6, ahead13, x59, x60, x61, x65, x66] ++ xs) h
def p9z62 (words0 texts5 reach6 more11 ahead13 x59 x60 x61 x65 x66 x67 x91 : Value) (L1 L2 L3 : LK) (h : Heap) : Prop := CutP (iwpP P c9z62 (K9z57 P K words0 texts5 reach6 ahead13 x59 x60 x61 x65 x66 L1 L2 L3)) [0, 5, 6, 11, 13, 59, 60, 61, 65, 66, 67, 91] [words0, texts5, reach6, more11, ahead13, x59, x60, x61, x65, x66, x67, x91] h
def p9z64 (words0 texts5 reach6 ahead13 x59 x60 x61 x65 x66 x67 x91 x92 : Value) (L1 L2 L3 : LK) (h : Heap) : Prop := CutP (iwpP P c9z64 (K9z57 P K words0 texts5 reach6 ahead13 x59 x60 x61 x65 x66 L1 L2 L3)) [0, 5, 6, 13, 59, 60, 61, 65, 66, 67, 91, 92] [words0, texts5, reach6, ahead13, x59, x60, x61, x65, x66, x67, x91, x92] h
def p9z66 (words0 texts5 reach6 more11 ahead13 x59 x60 x61 x65 x66 x67 : Value) (L1 L2 L3 : LK) (h : Heap) : Prop := CutP (iwpP P c9z66 (K9z51 P K words0 texts5 reach6 ahead13 x59 x60 x61 x65 x66 L1 L2 L3)) [0, 5, 6, 11, 13, 59, 60, 61, 65, 66, 67] [words0, texts5, reach6, more11, ahead13, x59, x60, x61, x65, x66, x67] h
def p9z67 (words0 texts5 reach6 more11 x59 x60 x61 : Value) (L1 L2 : LK) (h : Heap) : Prop := CutP (iwpP P c9z67 (K9z43 P K words0 texts5 reach6 x59 x60 L1 L2)) [0, 5, 6, 11, 59, 60, 61] [words0, texts5, reach6, more11, x59, x60, x61] h
def p9z68 (texts5 : Value) (h : Heap) : Prop := CutP (iwpP P c9z68 (K9z0 P K)) [5] [texts5] h
theorem q9z29 (words0 texts5 reach6 i7 v8 w10 x26 x27 x28 x33 x34 x35 x43 x46 : Value) (L1 L2 : LK) (h : Heap) : p9z29 P K words0 texts5 reach6 i7 v8 w10 x26 x27 x28 x33 x34 x35 x43 x46 L1 L2 h =
 (OP (iPick x43 x46 (.bool false)) fun x47 =>
 IfP x47
 (OP (iLenS v8) fun x51 =>
 OP (iSlS w10 (some x51) none) fun x52 =>
 CallVP P reach6 [x52, w10] h fun x54 h_1 =>
 p9z30 P K words0 texts5 reach6 i7 v8 x26 x27 x28 x33 x34 x35 L1 L2 h_1)
 (p9z30 P K words0 texts5 reach6 i7 v8 x26 x27 x28 x33 x34 x35 L1 L2 h)) := (CutP_def _ _ _ _).trans (by kernel_rfl)
theorem q9z27 (words0 texts5 reach6 i7 v8 w10 x26 x27 x28 x33 x34 x35 x43 : Value) (L1 L2 : LK) (h : Heap) : p9z27 P K words0 texts5 reach6 i7 v8 w10 x26 x27 x28 x33 x34 x35 x43 L1 L2 h =
 (GdP x43 true
 (CallP P 43 [w10, v8] h fun x46 h_1 =>
 p9z29 P K words0 texts5 reach6 i7 v8 w10 x26 x27 x28 x33 x34 x35 x43 x46 L1 L2 h_1)
 (p9z29 P K words0 texts5 reach6 i7 v8 w10 x26 x27 x28 x33 x34 x35 x43 undef L1 L2 h)) := (CutP_def _ _ _ _).trans (by kernel_rfl)
theorem q9z30 (words0 texts5 reach6 i7 v8 x26 x27 x28 x33 x34 x35 : Value) (L1 L2 : LK) (h : Heap) : p9z30 P K words0 texts5 reach6 i7 v8 x26 x27 x28 x33 x34 x35 L1 L2 h =
 (OP (iBin .add x35 (.int .i64 (1))) fun x55 =>
 ([words0, texts5, reach6, i7, v8, x26, x27, x28, x33, x34] : List Value) = [words0, texts5, reach6, i7, v8, x26, x27, x28, x33, x34] ∧ L2 [x55] h) := (CutP_def _ _ _ _).trans (by kernel_rfl)
theorem q9z19 (words0 texts5 reach6 i7 v8 x26 x27 x28 x33 x34 : Value) (L1 L2 : LK) (x35 : Value) (h : Heap) : p9z19 P K words0 texts5 reach6 i7 v8 x26 x27 x28 x33 x34 L1 L2 [x35] h =
 (OP (iBin .lss x35 x34) fun x36 =>
 IfP x36
 (OP (iAdrSl 1 x33 x35) fun x38 =>
 OP (iLoad false 1 h x38) fun x39 =>
 OP (iBin .neq i7 x35) fun x42 =>
 p9z27 P K words0 texts5 reach6 i7 v8 x39 x26 x27 x28 x33 x34 x35 x42 L1 L2 h)
 (p9z31 P K words0 texts5 reach6 x26 x27 x28 L1 h)) := (CutP_def _ _ _ _).trans (by kernel_rfl)
theorem q9z31 (words0 texts5 reach6 x26 x27 x28 : Value) (L1 : LK) (h : Heap) : p9z31 P K words0 texts5 reach6 x26 x27 x28 L1 h =
 (OP (iBin .add x28 (.int .i64 (1))) fun x56 =>
 ([words0, texts5, reach6, x26, x27] : List Value) = [words0, texts5, reach6, x26, x27] ∧ L1 [x56] h) := (CutP_def _ _ _ _).trans (by kernel_rfl)
theorem q9z11 (words0 texts5 reach6 x26 x27 : Value) (L1 : LK) (x28 : Value) (h : Heap) : p9z11 P K words0 texts5 reach6 x26 x27 L1 [x28] h =
 (OP (iBin .lss x28 x27) fun x29 =>
 IfP x29
 (OP (iAdrSl 1 x26 x28) fun x31 =>
 OP (iLoad false 1 h x31) fun x32 =>
 OP (iLenSl words0) fun x34 =>
 LoopP [(.int .i64 (0))] h fun L2 xs hx =>
 p9z19 P K words0 texts5 reach6 x28 x32 x26 x27 x28 words0 x34 L1 L2 xs hx)
 (p9z32 P K words0 texts5 reach6 h)) := (CutP_def _ _ _ _).trans (by kernel_rfl)
theorem q9z64 (words0 texts5 reach6 ahead13 x59 x60 x61 x65 x66 x67 x91 x92 : Value) (L1 L2 L3 : LK) (h : Heap) : p9z64 P K words0 texts5 reach6 ahead13 x59 x60 x61 x65 x66 x67 x91 x92 L1 L2 L3 h =
 (OP (iPick x91 (.bool true) x92) fun x93 =>
 p9z66 P K words0 texts5 reach6 x93 ahead13 x59 x60 x61 x65 x66 x67 L1 L2 L3 h) := (CutP_def _ _ _ _).trans (by kernel_rfl)
theorem q9z62 (words0 texts5 reach6 more11 ahead13 x59 x60 x61 x65 x66 x67 x91 : Value) (L1 L2 L3 : LK) (h : Heap) : p9z62 P K words0 texts5 reach6 more11 ahead13 x59 x60 x61 x65 x66 x67 x91 L1 L2 L3 h =
 (GdP x91 false
 (p9z64 P K words0 texts5 reach6 ahead13 x59 x60 x61 x65 x66 x67 x91 more11 L1 L2 L3 h)
 (p9z64 P K words0 texts5 reach6 ahead13 x59 x60 x61 x65 x66 x67 x91 undef L1 L2 L3 h)) := (CutP_def _ _ _ _).trans (by kernel_rfl)
theorem q9z66 (words0 texts5 reach6 more11 ahead13 x59 x60 x61 x65 x66 x67 : Value) (L1 L2 L3 : LK) (h : Heap) : p9z66 P K words0 texts5 reach6 more11 ahead13 x59 x60 x61 x65 x66 x67 L1 L2 L3 h =
 (OP (iBin .add x67 (.int .i64 (1))) fun x110 =>
 ([words0, texts5, reach6, ahead13, x59, x60, x61, x65, x66] : List Value) = [words0, texts5, reach6, ahead13, x59, x60, x61, x65, x66] ∧ L3 [more11, x110] h) := (CutP_def _ _ _ _).trans (by kernel_rfl)
theorem q9z51 (words0 texts5 reach6 ahead13 x59 x60 x61 x65 x66 : Value) (L1 L2 L3 : LK) (more11 x67 : Value) (h : Heap) : p9z51 P K words0 texts5 reach6 ahead13 x59 x60 x61 x65 x66 L1 L2 L3 [more11, x67] h =
 (OP (iBin .lss x67 x66) fun x68 =>
 IfP x68
 (OP (iAdrSl 1 x65 x67) fun x69 =>
 OP (iLoad false 1 h x69) fun x70 =>
 OP (iBin .eql ahead13 (.string ⟨#[]⟩)) fun x73 =>
 IfP x73
 (p9z66 P K words0 texts5 reach6 more11 ahead13 x59 x60 x61 x65 x66 x67 L1 L2 L3 h)
 (CallP P 43 [x70, ahead13] h fun x77 h_1 =>
 IfP x77
 (OP (iLenS ahead13) fun x80 =>
 OP (iSlS x70 (some x80) none) fun x81 =>
 OP (iLoad false 1 h_1 texts5) fun x84 =>
 OP (iLookupG .str false (.string ⟨#[]⟩) h_1 x84 ahead13) fun x86 =>
 OH (iMkSl 9 2 [(.string ⟨#[]⟩)] h_1 [(0, 1, x86), (1, 1, x81)]) fun x88 h_2 =>
 CallP P 45 [x88] h_2 fun x89 h_3 =>
 CallVP P reach6 [x81, x89] h_3 fun x90 h_4 =>
 p9z62 P K words0 texts5 reach6 more11 ahead13 x59 x60 x61 x65 x66 x67 x90 L1 L2 L3 h_4)
 (CallP P 43 [ahead13, x70] h_1 fun x97 h_2 =>
 IfP x97
 (OP (iLenS x70) fun x101 =>
 OP (iSlS ahead13 (some x101) none) fun x102 =>
 OP (iLoad false 1 h_2 texts5) fun x103 =>
 (True) ∧
 OP (iLookupG .str false (.string ⟨#[]⟩) h_2 x103 ahead13) fun x105 =>
 (True) ∧
 CallVP P reach6 [x102, x105] h_2 fun x106 h_3 =>
 (True) ∧
 GdP x106 false
 (OP (iPick x106 (.bool true) more11) fun x109 =>
 p9z66 P K words0 texts5 reach6 x109 ahead13 x59 x60 x61 x65 x66 x67 L1 L2 L3 h_3)
 (OP (iPick x106 (.bool true) undef) fun x109 =>
 p9z66 P K words0 texts5 reach6 x109 ahead13 x59 x60 x61 x65 x66 x67 L1 L2 L3 h_3))
 (p9z66 P K words0 texts5 reach6 more11 ahead13 x59 x60 x61 x65 x66 x67 L1 L2 L3 h_2))))
 (p9z67 P K words0 texts5 reach6 more11 x59 x60 x61 L1 L2 h)) := (CutP_def _ _ _ _).trans (by kernel_rfl)
theorem q9z67 (words0 texts5 reach6 more11 x59 x60 x61 : Value) (L1 L2 : LK) (h : Heap) : p9z67 P K words0 texts5 reach6 more11 x59 x60 x61 L1 L2 h =
 (OP (iBin .add x61 (.int .i64 (1))) fun x111 =>
 ([words0, texts5, reach6, x59, x60] : List Value) = [words0, texts5, reach6, x59, x60] ∧ L2 [more11, x111] h) := (CutP_def _ _ _ _).trans (by kernel_rfl)
theorem q9z43 (words0 texts5 reach6 x59 x60 : Value) (L1 L2 : LK) (more11 x61 : Value) (h : Heap) : p9z43 P K words0 texts5 reach6 x59 x60 L1 L2 [more11, x61] h =
 (OP (iBin .lss x61 x60) fun x62 =>
 IfP x62
 (OP (iAdrSl 1 x59 x61) fun x63 =>
 OP (iLoad false 1 h x63) fun x64 =>
 OP (iLenSl words0) fun x66 =>
 LoopP [more11, (.int .i64 (0))] h fun L3 xs hx =>
 p9z51 P K words0 texts5 reach6 x64 x59 x60 x61 words0 x66 L1 L2 L3 xs hx)
 (([words0, texts5, reach6] : List Value) = [words0, texts5, reach6] ∧ L1 [more11] h)) := (CutP_def _ _ _ _).trans (by kernel_rfl)
theorem q9z36 (words0 texts5 reach6 : Value) (L1 : LK) (more11 : Value) (h : Heap) : p9z36 P K words0 texts5 reach6 L1 [more11] h =
 (IfP more11
 (OP (iLoad false 1 h texts5) fun x58 =>
 CallP P 44 [x58] h fun x59 h_1 =>
 OP (iLenSl x59) fun x60 =>
 LoopP [(.bool false), (.int .i64 (0))] h_1 fun L2 xs hx =>
 p9z43 P K words0 texts5 reach6 x59 x60 L1 L2 xs hx)
 (p9z68 P K texts5 h)) := (CutP_def _ _ _ _).trans (by kernel_rfl)
theorem q9z68 (texts5 : Value) (h : Heap) : p9z68 P K texts5 h =
 (OP (iLoad false 1 h texts5) fun x113 =>
 OP (iLookupG .str true (.string ⟨#[]⟩) h x113 (.string ⟨#[]⟩)) fun x114 =>
 OP (iExt 0 x114) fun x115 =>
 OP (iExt 1 x114) fun x116 =>
 OP (iUn .not x116) fun x118 =>
 IfP x118
 (K (.tuple #[(.string ⟨#[]⟩), (.int .i64 (5))]) h)
 (K (.tuple #[x115, (.int .i64 (0))]) h)) := (CutP_def _ _ _ _).trans (by kernel_rfl)
theorem q9z32 (words0 texts5 reach6 : Value) (h : Heap) : p9z32 P K words0 texts5 reach6 h =
 (LoopP [(.bool true)] h fun L1 xs hx =>
 p9z36 P K words0 texts5 reach6 L1 xs hx) := (CutP_def _ _ _ _).trans (by kernel_rfl)
def T9 (words0 : Value) (h : Heap) : Prop :=
 CallP P 40 [words0, (.string ⟨#[]⟩)] h fun x20 h_1 =>
 OP (iBin .neq x20 (.int .i64 (0))) fun x22 =>
 IfP x22
 (K (.tuple #[(.string ⟨#[]⟩), x20]) h_1)
 (OH (iMkMapG .str h_1) fun x24 h_2 =>
 OH (iAlloc 74 [(.map none)] h_2) fun texts5 h_3 =>
 OH (oStore 1 h_3 texts5 x24) fun _ h_4 =>
 OP (iLenSl words0) fun x27 =>
 LoopP [(.int .i64 (0))] h_4 fun L1 xs hx =>
 p9z11 P K words0 texts5 (.func (.func 41) #[] #[texts5]) words0 x27 L1 xs hx)
theorem e9 (words0 : Value) (h : Heap) : iwpP P c9 (bodyP [.tmp 2, .tmp 3] K) (frame0 [words0]) h = T9 P K words0 h := by kernel_rfl
theorem f9 {K : VK} {words0 : Value} {h : Heap} (H : T9 Tryz.prog K words0 h) : CallP Tryz.prog 9 [words0] h K :=
 callP_intro k9 (Nat.le_of_ble_eq_true rfl) ((e9 Tryz.prog K words0 h).mpr H)
end Go.Proofs.YthplaillblmgfaaGreatDoor

namespace Go.Proofs.YthplaillblmgfaaGreatDoor
open Go.Sim

theorem SS.monoC {h h' : Heap} {v : Value} {ls : List Tx} (k : CX h h') (p : SS h v ls) : SS h' v ls :=
  ⟨p.len, fun j hj => let ⟨i, o, a, b⟩ := p.get j hj; ⟨i, o, a, CX.load k b⟩⟩

/-- The map in memory. -/
structure St (h : Heap) (im ic : Nat) (l : List (Tx × Tx)) (g : Heap) : Prop where
  ex : EX h g
  hm : g[im]? = some (.gmap .str l.length (tmap l))
  hc : g[ic]? = some (.arr 74 [.map (some im)])

theorem St.push {h : Heap} {im ic : Nat} {l : List (Tx × Tx)} {g g' : Heap} (s : St h im ic l g) (x : EX g g') : St h im ic l g' := ⟨s.ex.trans x, x.get s.hm, x.get s.hc⟩

def rchV (ic : Nat) : Value := .func (.func 41) #[] #[pt ic 0]

theorem reachS {W : List Tx} (ok : Ok W) {h : Heap} {im ic : Nat} (i1 : h.length ≤ im) (i2 : ic ≠ im) {l : List (Tx × Tx)} {g : Heap} {k t : Tx} {K : Value → Heap → Prop} (st : St h im ic l g) (gd : Good W l) (r : Rc W k t) (hl : t.length ≤ 10 * l.length + 10)
    (hk : ∀ b l' g', St h im ic l' g' → CX g g' → Good W l' → Dn l l' → (∃ t', look k l' = some t' ∧ rk t' ≤ rk t) → (b = true → mu W l' < mu W l) → (b = false → l' = l) → K (B b) g') : CallVP Tryz.prog (rchV ic) [S k, S t] g K := by
  have hf := gd.few ok
  refine callVP_fn (by kernel_rfl) ?_
  show CallP Tryz.prog 41 [S k, S t, pt ic 0] g K
  refine C41 st.hc st.hm ⟨(r.key ok).2, by omega⟩ (fun o ho => ⟨((gd.rc k o ho).key ok).2, by have := gd.ln k o ho; omega⟩) (fun hb => ?_) fun hb => ?_
  · refine hk false l g st (CX.refl g) gd (Dn.refl l) ?_ (fun h => by cases h) fun _ => rfl
    cases ho : look k l with
    | none => simp [bet, ho] at hb
    | some o =>
      simp only [bet, ho, decide_eq_false_iff_not] at hb
      exact ⟨o, rfl, by omega⟩
  · refine hk true (put k t l) _ ⟨st.ex.set i1 _, set_get st.hm, ?_⟩ (CX.setG st.hm) (good_put gd r hl hb) (Dn.put hb) ⟨t, by rw [look_put, if_pos rfl], Nat.le_refl _⟩ (fun _ => mu_put ok gd r hl hb) fun h => by cases h
    rw [List.getElem?_set_ne (Ne.symm i2)]
    exact st.hc

theorem C45 {i : Nat} {a b : Tx} {h : Heap} {K : Value → Heap → Prop} (hl : a.length + b.length ≤ 1000000) (hg : h[i]? = some (.arr 9 [S a, S b])) (hk : K (S (a ++ b)) h) : CallP Tryz.prog 45 [sl 9 i 0 2] h K := by
  refine f45 ?_
  have e : Lib.join [a, b] [] = a ++ b := by simp [Lib.join]
  refine C81 (ls := [a, b]) (sep := []) (by simp) (by simp) (by rw [e]; simp; omega) hg ?_
  rw [e]
  exact hk

/-- The keys in order, whether there are any or not. -/
theorem keysC {im : Nat} {l : List (Tx × Tx)} {h : Heap} {K : Value → Heap → Prop} (hm : h[im]? = some (.gmap .str l.length (tmap l))) (hl : l.length ≤ 1000000) (hk : ∀ v g, EX h g → SS g v (sortS (l.map Prod.fst)) → K v g) : CallP Tryz.prog 44 [.map (some im)] h K := by
  by_cases h0 : l = []
  · subst h0
    refine C44n hm (hk _ _ (EX.refl h) ?_)
    have : sortS (([] : List (Tx × Tx)).map Prod.fst) = [] := List.perm_nil.1 (sortS_perm [])
    rw [this]
    exact ⟨rfl, fun k hk => by simp at hk⟩
  · refine C44 hm (Nat.le_refl _) h0 hl (hk _ _ (EX.append _ _) ?_)
    have : l.length = (sortS (l.map Prod.fst)).length := by rw [(sortS_perm _).length_eq, List.length_map]
    rw [this]
    exact SS.sl (by simp [objCells])

theorem iniC {W : List Tx} (ok : Ok W) {h : Heap} {v : Value} {im ic : Nat} (hv : SS h v W) (i1 : h.length ≤ im) (i2 : ic ≠ im) {g : Heap} {K : Value → Heap → Prop} (st : St h im ic [] g)
    (hk : ∀ l g', St h im ic l g' → Good W l → Ini W l → p9z32 Tryz.prog K v (pt ic 0) (rchV ic) g') : LoopP [I 0] g fun L1 xs hx => p9z11 Tryz.prog K v (pt ic 0) (rchV ic) v (I W.length) L1 xs hx := by
  have few := ok.few
  refine loopL (σ := Nat × List (Tx × Tx) × Heap) (fun q => [I q.1]) (fun q => q.2.2) (fun q => q.1 ≤ W.length ∧ St h im ic q.2.1 q.2.2 ∧ Good W q.2.1 ∧ ∀ i (hi : i < W.length), i < q.1 → ∀ w ∈ W, W[i] ≠ w → W[i] <+: w → ∃ t', look (w.drop W[i].length) q.2.1 = some t' ∧ rk t' ≤ rk w) (fun q => W.length - q.1) (0, [], g) rfl rfl ⟨Nat.zero_le _, st, Good.nil W, fun i _ hi => absurd hi (Nat.not_lt_zero _)⟩ ?_
  rintro ⟨i, l, g1⟩ ⟨hi, s1, gd, done⟩ L hL
  simp only at hi s1 gd done hL ⊢
  rw [q9z11]
  simp only [bin_lss, OP_some, IfP_dec]
  refine ⟨fun hlt => ?_, fun hge => ?_⟩
  · have hlt : i < W.length := by omega
    obtain ⟨b, o, a1, a2⟩ := (hv.mono s1.ex).get i hlt
    simp only [a1, a2, OP_some, hv.len]
    refine loopL (σ := Nat × List (Tx × Tx) × Heap) (fun q => [I q.1]) (fun q => q.2.2) (fun q => q.1 ≤ W.length ∧ St h im ic q.2.1 q.2.2 ∧ Good W q.2.1 ∧ Dn l q.2.1 ∧ ∀ j (hj : j < W.length), j < q.1 → W[i] ≠ W[j] → W[i] <+: W[j] → ∃ t', look (W[j].drop W[i].length) q.2.1 = some t' ∧ rk t' ≤ rk W[j]) (fun q => W.length - q.1) (0, l, g1) rfl rfl ⟨Nat.zero_le _, s1, gd, Dn.refl l, fun j _ hj => absurd hj (Nat.not_lt_zero _)⟩ ?_
    rintro ⟨j, l2, g2⟩ ⟨hj, s2, gd2, dn, done2⟩ L2 hL2
    simp only at hj s2 gd2 dn done2 hL2 ⊢
    rw [q9z19]
    simp only [bin_lss, OP_some, IfP_dec]
    refine ⟨fun hlt2 => ?_, fun hge2 => ?_⟩
    · have hlt2 : j < W.length := by omega
      obtain ⟨b2, o2, c1, c2⟩ := (hv.mono s2.ex).get j hlt2
      have step : ∀ l3 g3, St h im ic l3 g3 → Good W l3 → Dn l2 l3 → (W[i] ≠ W[j] → W[i] <+: W[j] → ∃ t', look (W[j].drop W[i].length) l3 = some t' ∧ rk t' ≤ rk W[j]) → p9z30 Tryz.prog K v (pt ic 0) (rchV ic) (I i) (S W[i]) v (I W.length) (I i) v (I W.length) (I j) L L2 g3 := by
        intro l3 g3 s3 gd3 dn3 new
        rw [q9z30]
        simp only [bin_add, OP_some, true_and]
        rw [incM j (by simp [maxLen]; omega)]
        refine hL2 (j + 1, l3, g3) ⟨hlt2, s3, gd3, dn.trans dn3, fun j' hj' hlt' h1 h2 => ?_⟩ (by show W.length - (j + 1) < W.length - j; omega)
        have hlt' : j' < j + 1 := hlt'
        rcases Nat.lt_succ_iff_lt_or_eq.1 hlt' with h' | h'
        · obtain ⟨t', e1, e2⟩ := done2 j' hj' h' h1 h2
          obtain ⟨t2, f1, f2⟩ := dn3 _ _ e1
          exact ⟨t2, f1, Nat.le_trans f2 e2⟩
        · subst h'; exact new h1 h2
      simp only [c1, c2, OP_some, bin_neq]
      rw [q9z27]
      by_cases hij : i = j
      · rw [decide_eq_true (show (i : Int) = j by omega)]
        simp only [Bool.not_true, GdP_ft, q9z29, iPick_f, OP_some, IfP_false]
        exact step l2 g2 s2 gd2 (Dn.refl _) fun h => absurd (by subst hij; rfl) h
      · rw [decide_eq_false (show ¬ (i : Int) = j by omega)]
        simp only [Bool.not_false, GdP_tt]
        refine C43 ?_
        rw [q9z29]
        simp only [iPick_t, OP_some, IfP_dec, lenS_S]
        refine ⟨fun hp => ?_, fun hp => step l2 g2 s2 gd2 (Dn.refl _) fun _ h => absurd h hp⟩
        rw [slS_lo (a := W[j]) hp.length_le .i64]
        simp only [OP_some]
        have hne : W[i] ≠ W[j] := fun e => by
          rcases Nat.lt_or_gt_of_ne hij with h' | h'
          · exact (List.pairwise_iff_getElem.1 ok.nd) i j hlt hlt2 h' e
          · exact (List.pairwise_iff_getElem.1 ok.nd) j i hlt2 hlt h' e.symm
        have r := Rc.init (List.getElem_mem hlt) (List.getElem_mem hlt2) hne hp
        refine reachS ok i1 i2 s2 gd2 r (by have := ok.le _ (List.getElem_mem hlt2); omega) ?_
        intro _ l3 g3 s3 _ gd3 dn3 new _ _
        exact step l3 g3 s3 gd3 dn3 fun _ _ => new
    · rw [q9z31]
      simp only [bin_add, OP_some, true_and]
      rw [incM i (by simp [maxLen]; omega)]
      refine hL (i + 1, l2, g2) ⟨hlt, s2, gd2, fun i' hi' hlt' w hw h1 h2 => ?_⟩ (by show W.length - (i + 1) < W.length - i; omega)
      have hlt' : i' < i + 1 := hlt'
      rcases Nat.lt_succ_iff_lt_or_eq.1 hlt' with h' | h'
      · obtain ⟨t', e1, e2⟩ := done i' hi' h' w hw h1 h2
        obtain ⟨t2, f1, f2⟩ := dn _ _ e1
        exact ⟨t2, f1, Nat.le_trans f2 e2⟩
      · subst h'
        obtain ⟨j', hj', rfl⟩ := List.getElem_of_mem hw
        exact done2 j' hj' (by omega) h1 h2
  · refine hk l g1 s1 gd fun w1 hw1 w hw h1 h2 => ?_
    obtain ⟨j', hj', rfl⟩ := List.getElem_of_mem hw1
    exact done j' hj' (by omega) w hw h1 h2

end Go.Proofs.YthplaillblmgfaaGreatDoor


namespace Go.Proofs.YthplaillblmgfaaGreatDoor
open Go.Sim

theorem mk2 (g : Heap) (a b : Tx) : iMkSl 9 2 [(.string ⟨#[]⟩)] g [(0, 1, S a), (1, 1, S b)] = some (sl 9 g.length 0 2, g ++ [.arr 9 [S a, S b]]) := by
  have va : vcells (S a) = [S a] := rfl
  have vb : vcells (S b) = [S b] := rfl
  have na : noTuple (S a) = true := rfl
  have nb : noTuple (S b) = true := rfl
  simp [iMkSl, fillL, zrep, setAt, va, vb, na, nb]

section
variable {W : List Tx} (ok : Ok W) {h : Heap} {v kv : Value} {im ic : Nat} {K : Value → Heap → Prop}
include ok

/-- One key, all words. -/
theorem keyC (i1 : h.length ≤ im) (i2 : ic ≠ im) {l0 l1 : List (Tx × Tx)} {a : Tx} {more : Bool} {kn : Nat} {idx : Value} {L1 L2 : List Value → Heap → Prop} {g : Heap} (hv : SS h v W) (ha : ∃ t, look a l1 = some t) (st : St h im ic l1 g) (gd : Good W l1) (h1 : more = true → mu W l1 < mu W l0) (h2 : more = false → l1 = l0)
    (hk : ∀ more' l' g', St h im ic l' g' → CX g g' → Good W l' → Dn l1 l' → (more' = true → mu W l' < mu W l0) → (more' = false → more = false ∧ l' = l0 ∧ ∀ w ∈ W, Clo l0 a w) → p9z67 Tryz.prog K v (pt ic 0) (rchV ic) (B more') kv (I kn) idx L1 L2 g') :
    LoopP [B more, I 0] g fun L3 xs hx => p9z51 Tryz.prog K v (pt ic 0) (rchV ic) (S a) kv (I kn) idx v (I W.length) L1 L2 L3 xs hx := by
  have few := ok.few
  have e1 : ∀ s : List UInt8, iBin .eql (S s) (.string ⟨#[]⟩) = some (B (decide (s = []))) := fun s => by show iBin .eql (S s) (S []) = _; rw [bin_eqlS]
  refine loopL (σ := Bool × Nat × List (Tx × Tx) × Heap) (fun q => [B q.1, I q.2.1]) (fun q => q.2.2.2) (fun q => q.2.1 ≤ W.length ∧ St h im ic q.2.2.1 q.2.2.2 ∧ CX g q.2.2.2 ∧ Good W q.2.2.1 ∧ Dn l1 q.2.2.1 ∧ (q.1 = true → mu W q.2.2.1 < mu W l0) ∧ (q.1 = false → more = false ∧ q.2.2.1 = l0 ∧ ∀ j (hj : j < W.length), j < q.2.1 → Clo l0 a W[j])) (fun q => W.length - q.2.1) (more, 0, l1, g) rfl rfl ⟨Nat.zero_le _, st, CX.refl g, gd, Dn.refl l1, h1, fun hm => ⟨hm, h2 hm, fun j _ hj => absurd hj (Nat.not_lt_zero _)⟩⟩ ?_
  rintro ⟨m, j, l, g1⟩ ⟨hj, s1, cx, gd1, dn, h3, h4⟩ L hL
  simp only at hj s1 cx gd1 dn h3 h4 hL ⊢
  rw [q9z51]
  simp only [bin_lss, OP_some, IfP_dec]
  refine ⟨fun hlt => ?_, fun hge => ?_⟩
  · have hlt : j < W.length := by omega
    obtain ⟨b, o, a1, a2⟩ := (hv.mono s1.ex).get j hlt
    have mem := List.getElem_mem hlt
    have wl := ok.le _ mem
    -- the step ends: a new map, what it has of this word
    have step : ∀ m' l2 g2, St h im ic l2 g2 → CX g1 g2 → Good W l2 → Dn l l2 → (m' = true → mu W l2 < mu W l0) → (m' = false → m = false ∧ l2 = l ∧ Clo l2 a W[j]) → p9z66 Tryz.prog K v (pt ic 0) (rchV ic) (B m') (S a) kv (I kn) idx v (I W.length) (I j) L1 L2 L g2 := by
      intro m' l2 g2 s2 cx2 gd2 dn2 q1 q2
      rw [q9z66]
      simp only [bin_add, OP_some, true_and]
      rw [incM j (by simp [maxLen]; omega)]
      refine hL (m', j + 1, l2, g2) ⟨hlt, s2, cx.trans cx2, gd2, dn.trans dn2, q1, fun hm => ?_⟩ (by show W.length - (j + 1) < W.length - j; omega)
      obtain ⟨r1, r2, r3⟩ := q2 hm
      obtain ⟨r4, r5, r6⟩ := h4 r1
      have el : l2 = l0 := r2.trans r5
      refine ⟨r4, el, fun j' hj' hlt' => ?_⟩
      have hlt' : j' < j + 1 := hlt'
      rcases Nat.lt_succ_iff_lt_or_eq.1 hlt' with h' | h'
      · exact r6 j' hj' h'
      · subst h'; exact el ▸ r3
    have same : (Clo l a W[j]) → p9z66 Tryz.prog K v (pt ic 0) (rchV ic) (B m) (S a) kv (I kn) idx v (I W.length) (I j) L1 L2 L g1 := fun hc => step m l g1 s1 (CX.refl g1) gd1 (Dn.refl l) h3 fun hm => ⟨hm, rfl, hc⟩
    simp only [a1, a2, OP_some, e1, IfP_dec]
    refine ⟨fun h0 => same fun hn => absurd h0 hn, fun h0 => ?_⟩
    obtain ⟨t0, ht0⟩ := ha
    obtain ⟨t, ht, _⟩ := dn _ _ ht0
    have rc := gd1.rc a t ht
    have tl := gd1.ln a t ht
    have fw := gd1.few ok
    have ld : ∀ g', St h im ic l g' → iLoad false 1 g' (pt ic 0) = some (.map (some im)) := fun g' s => by simp [iLoad, objCells, s.hc, iPart]
    have lk : ∀ g', St h im ic l g' → iLookupG .str false (.string ⟨#[]⟩) g' (.map (some im)) (S a) = some (S t) := fun g' s => by
      simp only [iLookupG, s.hm, findG_tmap, ht]
      rfl
    refine C43 ?_
    simp only [IfP_dec]
    refine ⟨fun hp => ?_, fun hp => C43 ?_⟩
    · simp only [lenS_S, OP_some, slS_lo (a := W[j]) hp.length_le .i64, ld g1 s1, lk g1 s1, mk2, OH_some]
      have dl : (W[j].drop a.length).length ≤ 10 := by rw [List.length_drop]; omega
      refine C45 (by omega) get_last ?_
      refine reachS ok i1 i2 (s1.push (EX.append _ _)) gd1 (Rc.fwd rc h0 mem hp) (by rw [List.length_append]; omega) ?_
      intro bb l2 g2 s2 cx2 gd2 dn2 new q1 q2
      have cx3 : CX g1 g2 := (CX.ex (EX.append _ _)).trans cx2
      rw [q9z62]
      cases bb with
      | true =>
        simp only [GdP_tf, q9z64, iPick_t, OP_some]
        refine step true l2 g2 s2 cx3 gd2 dn2 (fun _ => ?_) fun h => by cases h
        have := q1 rfl
        cases m with
        | true => have := h3 rfl; omega
        | false => rw [(h4 rfl).2.1] at this; exact this
      | false =>
        simp only [GdP_ff, q9z64, iPick_f, OP_some]
        have el := q2 rfl
        subst el
        refine step m l2 g2 s2 cx3 gd2 dn2 h3 fun hm => ⟨hm, rfl, fun _ t' ht' => ⟨fun _ => ?_, fun hn => absurd hp hn⟩⟩
        rw [ht] at ht'
        cases ht'
        exact new
    · simp only [IfP_dec]
      refine ⟨fun hq => ?_, fun hq => same fun _ t' _ => ⟨fun h => absurd h hp, fun _ h => absurd h hq⟩⟩
      simp only [lenS_S, OP_some, slS_lo (a := a) hq.length_le .i64, ld g1 s1, lk g1 s1, true_and]
      refine reachS ok i1 i2 s1 gd1 (Rc.bwd rc h0 mem hq) (by omega) ?_
      intro bb l2 g2 s2 cx3 gd2 dn2 new q1 q2
      cases bb with
      | true =>
        simp only [GdP_tf, iPick_t, OP_some]
        refine step true l2 g2 s2 cx3 gd2 dn2 (fun _ => ?_) fun h => by cases h
        have := q1 rfl
        cases m with
        | true => have := h3 rfl; omega
        | false => rw [(h4 rfl).2.1] at this; exact this
      | false =>
        simp only [GdP_ff, iPick_f, OP_some]
        have el := q2 rfl
        subst el
        refine step m l2 g2 s2 cx3 gd2 dn2 h3 fun hm => ⟨hm, rfl, fun _ t' ht' => ⟨fun h => absurd h hp, fun _ _ => ?_⟩⟩
        rw [ht] at ht'
        cases ht'
        exact new
  · refine hk m l g1 s1 cx gd1 dn h3 fun hm => ?_
    obtain ⟨r1, r2, r3⟩ := h4 hm
    refine ⟨r1, r2, fun w hw => ?_⟩
    obtain ⟨j', hj', rfl⟩ := List.getElem_of_mem hw
    exact r3 j' hj' (by omega)

/-- One pass. -/
theorem passC (i1 : h.length ≤ im) (i2 : ic ≠ im) {l0 : List (Tx × Tx)} {ks : List Tx} {L1 : List Value → Heap → Prop} {g : Heap} (hv : SS h v W) (hkv : SS g kv ks) (hks : ∀ a ∈ ks, ∃ t, look a l0 = some t) (hln : ks.length ≤ 1000000) (st : St h im ic l0 g) (gd : Good W l0)
    (hk : ∀ more' l' g', St h im ic l' g' → Good W l' → Dn l0 l' → (more' = true → mu W l' < mu W l0) → (more' = false → l' = l0 ∧ ∀ a ∈ ks, ∀ w ∈ W, Clo l0 a w) → L1 [B more'] g') :
    LoopP [B false, I 0] g fun L2 xs hx => p9z43 Tryz.prog K v (pt ic 0) (rchV ic) kv (I ks.length) L1 L2 xs hx := by
  refine loopL (σ := Bool × Nat × List (Tx × Tx) × Heap) (fun q => [B q.1, I q.2.1]) (fun q => q.2.2.2) (fun q => q.2.1 ≤ ks.length ∧ St h im ic q.2.2.1 q.2.2.2 ∧ CX g q.2.2.2 ∧ Good W q.2.2.1 ∧ Dn l0 q.2.2.1 ∧ (q.1 = true → mu W q.2.2.1 < mu W l0) ∧ (q.1 = false → q.2.2.1 = l0 ∧ ∀ j (hj : j < ks.length), j < q.2.1 → ∀ w ∈ W, Clo l0 ks[j] w)) (fun q => ks.length - q.2.1) (false, 0, l0, g) rfl rfl ⟨Nat.zero_le _, st, CX.refl g, gd, Dn.refl l0, fun h => (by cases h), fun _ => ⟨rfl, fun j _ hj => absurd hj (Nat.not_lt_zero _)⟩⟩ ?_
  rintro ⟨m, j, l, g1⟩ ⟨hj, s1, cx, gd1, dn, h3, h4⟩ L hL
  simp only at hj s1 cx gd1 dn h3 h4 hL ⊢
  rw [q9z43]
  simp only [bin_lss, OP_some, IfP_dec]
  refine ⟨fun hlt => ?_, fun hge => ⟨trivial, ?_⟩⟩
  · have hlt : j < ks.length := by omega
    obtain ⟨b, o, a1, a2⟩ := (SS.monoC cx hkv).get j hlt
    simp only [a1, a2, OP_some, hv.len]
    obtain ⟨t0, ht0⟩ := hks _ (List.getElem_mem hlt)
    obtain ⟨t1, ht1, _⟩ := dn _ _ ht0
    refine keyC ok i1 i2 hv ⟨t1, ht1⟩ s1 gd1 h3 (fun hm => (h4 hm).1) ?_
    intro m' l2 g2 s2 cx2 gd2 dn2 q1 q2
    rw [q9z67]
    simp only [bin_add, OP_some, true_and]
    rw [incM j (by simp [maxLen]; omega)]
    refine hL (m', j + 1, l2, g2) ⟨hlt, s2, cx.trans cx2, gd2, dn.trans dn2, q1, fun hm => ?_⟩ (by show ks.length - (j + 1) < ks.length - j; omega)
    obtain ⟨r1, r2, r3⟩ := q2 hm
    refine ⟨r2, fun j' hj' hlt' => ?_⟩
    have hlt' : j' < j + 1 := hlt'
    rcases Nat.lt_succ_iff_lt_or_eq.1 hlt' with h' | h'
    · exact (h4 r1).2 j' hj' h'
    · subst h'; exact r3
  · refine hk m l g1 s1 gd1 dn h3 fun hm => ⟨(h4 hm).1, fun a ha => ?_⟩
    obtain ⟨j', hj', rfl⟩ := List.getElem_of_mem ha
    exact (h4 hm).2 j' hj' (by omega)

theorem loopC (i1 : h.length ≤ im) (i2 : ic ≠ im) {l : List (Tx × Tx)} {g : Heap} (hv : SS h v W) (st : St h im ic l g) (gd : Good W l) (hi : Ini W l)
    (hno : (∀ t, ¬ Rc W [] t) → ∀ h', EX h h' → K (.tuple #[S [], I 5]) h')
    (hyes : ∀ t, Rc W [] t → (∀ t', Rc W [] t' → rk t ≤ rk t') → ∀ h', EX h h' → K (.tuple #[S t, I 0]) h') : p9z32 Tryz.prog K v (pt ic 0) (rchV ic) g := by
  rw [q9z32]
  have ld : ∀ l g', St h im ic l g' → iLoad false 1 g' (pt ic 0) = some (.map (some im)) := fun l g' s => by simp [iLoad, objCells, s.hc, iPart]
  refine loopL (σ := Bool × List (Tx × Tx) × Heap) (fun q => [B q.1]) (fun q => q.2.2) (fun q => St h im ic q.2.1 q.2.2 ∧ Good W q.2.1 ∧ Ini W q.2.1 ∧ (q.1 = false → ∀ a t, look a q.2.1 = some t → ∀ w ∈ W, Clo q.2.1 a w)) (fun q => 2 * mu W q.2.1 + (if q.1 then 1 else 0)) (true, l, g) rfl rfl ⟨st, gd, hi, fun h => by cases h⟩ ?_
  rintro ⟨m, l1, g1⟩ ⟨s1, gd1, in1, cl⟩ L hL
  simp only at s1 gd1 in1 cl hL ⊢
  have few := gd1.few ok
  rw [q9z36]
  cases m with
  | true =>
    simp only [IfP_true, ld _ _ s1, OP_some]
    refine keysC s1.hm (by omega) ?_
    intro kv g2 x2 hkv
    simp only [hkv.len, OP_some]
    have mem : ∀ a, a ∈ sortS (l1.map Prod.fst) ↔ a ∈ l1.map Prod.fst := fun a => (sortS_perm _).mem_iff
    refine passC ok i1 i2 hv hkv (fun a ha => mem_look ((mem a).1 ha)) (by rw [(sortS_perm _).length_eq, List.length_map]; omega) (s1.push x2) gd1 ?_
    intro m' l2 g3 s3 gd3 dn q1 q2
    refine hL (m', l2, g3) ⟨s3, gd3, in1.dn dn, fun hm a t ht w hw => ?_⟩ ?_
    · obtain ⟨r1, r2⟩ := q2 hm
      simp only at r1 ht ⊢
      rw [r1] at ht ⊢
      exact r2 a ((mem a).2 (List.mem_map.2 ⟨_, look_mem ht, rfl⟩)) w hw
    · show 2 * mu W l2 + (if m' = true then 1 else 0) < 2 * mu W l1 + 1
      cases m' with
      | true => have := q1 rfl; simp only [if_true]; omega
      | false => rw [(q2 rfl).1]; simp
  | false =>
    simp only [IfP_false]
    rw [q9z68]
    have e2 : iLookupG .str true (.string ⟨#[]⟩) g1 (.map (some im)) (S []) = some (.tuple #[((look [] l1).map S).getD (S []), B (look [] l1).isSome]) := by
      simp only [iLookupG, s1.hm, findG_tmap]
      cases look [] l1 <;> rfl
    have e2' : iLookupG .str true (.string ⟨#[]⟩) g1 (.map (some im)) (.string ⟨#[]⟩) = some (.tuple #[((look [] l1).map S).getD (S []), B (look [] l1).isSome]) := e2
    simp only [ld _ _ s1, OP_some, e2', ext_tuple, pair0, pair1, un_not]
    have key : ∀ {t : Tx}, Rc W [] t → ∃ t', look [] l1 = some t' ∧ rk t' ≤ rk t := fun r => least in1 (cl rfl) r
    cases hl : look [] l1 with
    | none =>
      simp only [Option.isSome_none, Bool.not_false, IfP_true]
      refine hno (fun t r => ?_) _ s1.ex
      obtain ⟨t', e, _⟩ := key r
      rw [hl] at e
      cases e
    | some t =>
      simp only [Option.isSome_some, Bool.not_true, IfP_false, Option.map_some, Option.getD_some]
      refine hyes t (gd1.rc _ _ hl) (fun t' r => ?_) _ s1.ex
      obtain ⟨u, e, hle⟩ := key r
      rw [hl] at e
      cases e
      exact hle

end

theorem codeOk_Ok {ls : List Tx} (h : chkE ls [] = 0) : ls ≠ [] ∧ Ok ls := by
  unfold chkE at h
  split at h
  · cases h
  · rename_i h1
    split at h
    · cases h
    · rename_i h2
      split at h
      · rename_i h3
        exact ⟨fun e => h2 (.inl e), ⟨h3.1, fun w hw => (h3.2 w hw).1, fun w hw => (h3.2 w hw).2.1, fun w hw => (h3.2 w hw).2.2, by omega⟩⟩
      · cases h

theorem C9 {b : Nat} {v : Value} {ls : List Tx} {h : Heap} {K : Value → Heap → Prop} (hv : OwnS b h 9 v (ls.map S)) (hl : ls.length < 1000000) (hw : ∀ w ∈ ls, w.length < 4611686018427387904)
    (he : chkE ls [] ≠ 0 → ∀ h', EX h h' → K (.tuple #[S [], I (chkE ls [])]) h')
    (hno : chkE ls [] = 0 → (∀ t, ¬ Rc ls [] t) → ∀ h', EX h h' → K (.tuple #[S [], I 5]) h')
    (hyes : chkE ls [] = 0 → ∀ t, Rc ls [] t → (∀ t', Rc ls [] t' → rk t ≤ rk t') → ∀ h', EX h h' → K (.tuple #[S t, I 0]) h') : CallP Tryz.prog 9 [v] h K := by
  refine f9 ?_
  unfold T9
  have nilS : (.string ⟨#[]⟩ : Value) = S [] := rfl
  rw [nilS]
  refine C40 (s := []) hv hl hw (by simp) ?_
  intro h1 x1
  simp only [bin_neq, OP_some, IfP_ndec]
  refine ⟨fun hc => he hc h1 x1, fun hc => ?_⟩
  have ok := (codeOk_Ok hc).2
  have hs := (own_ss hv).mono x1
  have n1 : h1.length + 1 = (h1 ++ [IObj.gmap .str 0 []]).length := by simp
  have e1 : iAlloc 74 [(.map none)] (h1 ++ [IObj.gmap .str 0 []]) = some (pt (h1.length + 1) 0, h1 ++ [IObj.gmap .str 0 []] ++ [.arr 74 [.map none]]) := by
    rw [n1]; rfl
  have e2 : oStore 1 (h1 ++ [IObj.gmap .str 0 []] ++ [.arr 74 [.map none]]) (pt (h1.length + 1) 0) (.map (some h1.length)) = some (undef, h1 ++ [IObj.gmap .str 0 []] ++ [.arr 74 [.map (some h1.length)]]) := by
    have hg : (h1 ++ [IObj.gmap .str 0 []] ++ [IObj.arr 74 [.map none]])[h1.length + 1]? = some (.arr 74 [.map none]) := by rw [n1]; exact get_last
    rw [store_at hg (by simp) rfl rfl, n1]
    simp
  simp only [iMkMapG, OH_some, e1, e2, hs.len, OP_some]
  have ex : EX h1 (h1 ++ [IObj.gmap .str 0 []] ++ [.arr 74 [.map (some h1.length)]]) := (EX.append _ _).trans (EX.append _ _)
  refine iniC ok hs (Nat.le_refl _) (by omega) ⟨ex, ?_, ?_⟩ ?_
  · have : (h1 ++ [IObj.gmap .str 0 []])[h1.length]? = some (.gmap .str 0 []) := get_last
    exact (EX.append _ _).get this
  · rw [n1]; exact get_last
  · intro l g s gd hi
    exact loopC ok (Nat.le_refl _) (by omega) hs s gd hi (fun q h' x => hno hc q h' (x1.trans x)) fun t r q h' x => hyes hc t r q h' (x1.trans x)

end Go.Proofs.YthplaillblmgfaaGreatDoor


namespace Go.Proofs.YthplaillblmgfaaGreatDoor
open Go.Sim
end Go.Proofs.YthplaillblmgfaaGreatDoor


namespace Go.Proofs.YthplaillblmgfaaGreatDoor
open Go.Sim
variable (P : Program) (K : VK)
/-! F29: pommel/mark.Plain -/
/-! F33: pommel/mark.Rising -/
/-! F65: pommel/mark.lengthy -/
/-! F70: pommel/mark.written -/
end Go.Proofs.YthplaillblmgfaaGreatDoor

namespace Go.Sim

def val (B : Nat) : List Nat → Nat
  | [] => 0
  | d :: ds => d + B * val B ds

def Lim (B : Nat) (xs : List Nat) : Prop := ∀ x ∈ xs, x < B
/-- Digits, and no 0 at the end. -/
def Canon (B : Nat) (xs : List Nat) : Prop := Lim B xs ∧ xs.getLast? ≠ some 0

theorem val_append (B : Nat) : ∀ xs ys : List Nat, val B (xs ++ ys) = val B xs + B ^ xs.length * val B ys
  | [], ys => by simp [val]
  | x :: xs, ys => by
    simp only [List.cons_append, val, val_append B xs ys, List.length_cons, Nat.pow_succ]
    grind

theorem val_zeros (B : Nat) : ∀ n, val B (List.replicate n 0) = 0
  | 0 => rfl
  | n + 1 => by rw [List.replicate_succ]; simp [val, val_zeros B n]

theorem val_set (B : Nat) : ∀ (xs : List Nat) (i d : Nat) (hi : i < xs.length), val B (xs.set i d) + B ^ i * xs[i] = val B xs + B ^ i * d
  | [], i, d, hi => by simp at hi
  | x :: xs, 0, d, hi => by simp [val]; omega
  | x :: xs, i + 1, d, hi => by
    have ih := val_set B xs i d (by simpa using hi)
    simp only [List.set_cons_succ, val, List.getElem_cons_succ, Nat.pow_succ]
    grind

theorem val_take_succ (B : Nat) (xs : List Nat) {i : Nat} (hi : i < xs.length) : val B (xs.take (i + 1)) = val B (xs.take i) + B ^ i * xs[i] := by
  rw [List.take_succ_eq_append_getElem hi, val_append]
  simp [val, Nat.min_eq_left (Nat.le_of_lt hi)]

theorem Lim.mono {B : Nat} {xs ys : List Nat} (h : Lim B xs) (hs : ∀ y ∈ ys, y ∈ xs) : Lim B ys := fun y hy => h y (hs y hy)
theorem Lim.append {B : Nat} {xs ys : List Nat} (h : Lim B xs) (k : Lim B ys) : Lim B (xs ++ ys) := fun y hy => (List.mem_append.1 hy).elim (h y) (k y)
theorem Lim.set {B : Nat} {xs : List Nat} (h : Lim B xs) {d : Nat} (hd : d < B) (i : Nat) : Lim B (xs.set i d) := fun y hy => by
  rcases List.mem_or_eq_of_mem_set hy with h1 | h1
  · exact h y h1
  · rw [h1]; exact hd
theorem Lim.zeros {B : Nat} (hB : 0 < B) (n : Nat) : Lim B (List.replicate n 0) := fun y hy => by
  rw [(List.mem_replicate.1 hy).2]; exact hB

theorem val_lt {B : Nat} : ∀ {xs : List Nat}, Lim B xs → val B xs < B ^ xs.length
  | [], _ => by simp [val]
  | x :: xs, h => by
    have h1 := h x (by simp)
    have ih := val_lt (xs := xs) fun y hy => h y (by simp [hy])
    simp only [val, List.length_cons, Nat.pow_succ]
    have : B * (val B xs + 1) ≤ B * B ^ xs.length := Nat.mul_le_mul_left _ ih
    rw [Nat.mul_comm (B ^ xs.length)]
    grind

theorem Canon.cons {B : Nat} {x : Nat} {xs : List Nat} (h : Canon B (x :: xs)) : x < B ∧ Canon B xs ∧ (xs = [] → x ≠ 0) := by
  refine ⟨h.1 x (by simp), ⟨fun y hy => h.1 y (by simp [hy]), ?_⟩, ?_⟩
  · intro hl
    apply h.2
    cases xs with
    | nil => simp at hl
    | cons y ys => simpa [List.getLast?_cons_cons] using hl
  · rintro rfl rfl
    exact h.2 rfl

theorem Canon.zero {B : Nat} (hB : 0 < B) : ∀ {xs : List Nat}, Canon B xs → val B xs = 0 → xs = []
  | [], _, _ => rfl
  | x :: xs, h, h0 => by
    obtain ⟨_, h2, h3⟩ := h.cons
    simp only [val] at h0
    have hx : x = 0 := by omega
    have hv : B * val B xs = 0 := by omega
    have : val B xs = 0 := by
      rcases Nat.mul_eq_zero.1 hv with h | h
      · omega
      · exact h
    exact absurd hx (h3 (Canon.zero hB h2 this))

theorem Canon.unique {B : Nat} (hB : 0 < B) : ∀ {xs ys : List Nat}, Canon B xs → Canon B ys → val B xs = val B ys → xs = ys
  | [], ys, _, hy, h => (Canon.zero hB hy (by simpa [val] using h.symm)).symm
  | x :: xs, [], hx, _, h => Canon.zero hB hx (by simpa [val] using h)
  | x :: xs, y :: ys, hx, hy, h => by
    obtain ⟨a1, a2, _⟩ := hx.cons
    obtain ⟨b1, b2, _⟩ := hy.cons
    simp only [val] at h
    have e1 : x = y := by
      have := congrArg (· % B) h
      simpa [Nat.add_mul_mod_self_left, Nat.mod_eq_of_lt a1, Nat.mod_eq_of_lt b1] using this
    subst e1
    have e2 : val B xs = val B ys := Nat.eq_of_mul_eq_mul_left hB (by omega)
    rw [Canon.unique hB a2 b2 e2]

theorem Canon.low {B : Nat} (hB : 0 < B) : ∀ {xs : List Nat}, Canon B xs → xs ≠ [] → B ^ (xs.length - 1) ≤ val B xs
  | [x], h, _ => by
    have := h.cons.2.2 rfl
    simp [val]
    omega
  | x :: y :: xs, h, _ => by
    have ih := Canon.low hB h.cons.2.1 (by simp)
    simp only [List.length_cons, Nat.add_sub_cancel] at ih ⊢
    rw [show val B (x :: y :: xs) = x + B * val B (y :: xs) from rfl, Nat.pow_succ]
    have : B * B ^ xs.length ≤ B * val B (y :: xs) := Nat.mul_le_mul_left _ ih
    rw [Nat.mul_comm (B ^ xs.length)]
    omega

theorem Canon.len {B k : Nat} (hB : 1 < B) {xs : List Nat} (h : Canon B xs) (hv : val B xs < B ^ k) : xs.length ≤ k := by
  by_cases hx : xs = []
  · subst hx; simp
  · have h1 := Canon.low (by omega) h hx
    have h2 : B ^ (xs.length - 1) < B ^ k := Nat.lt_of_le_of_lt h1 hv
    have := (Nat.pow_lt_pow_iff_right hB).1 h2
    have : 0 < xs.length := List.length_pos_iff.2 hx
    omega

theorem Canon.nil (B : Nat) : Canon B [] := ⟨fun x hx => by simp at hx, by simp⟩

/-- More digits, the greater number. -/
theorem Canon.lt_of_len {B : Nat} (hB : 1 < B) {xs ys : List Nat} (hx : Canon B xs) (hy : Canon B ys) (h : xs.length < ys.length) : val B xs < val B ys := by
  have h1 := val_lt hx.1
  have h2 := Canon.low (by omega) hy (by rintro rfl; simp at h)
  have h3 : B ^ xs.length ≤ B ^ (ys.length - 1) := Nat.pow_le_pow_right (by omega) (by omega)
  omega

/-- Without zeros at the end. -/
theorem can_of_last {B : Nat} {xs : List Nat} (h : Lim B xs) (hl : ∀ h0 : 0 < xs.length, xs[xs.length - 1] ≠ 0) : Canon B xs := by
  refine ⟨h, fun h0 => ?_⟩
  rw [List.getLast?_eq_getElem?] at h0
  obtain ⟨h1, h2⟩ := List.getElem?_eq_some_iff.1 h0
  exact hl (by omega) h2

end Go.Sim


namespace Go.Sim

/-- The kinds that sets have. -/
def SK (k : IntKind) : Prop := k = .u16 ∨ k = .i64

theorem SK.wrap {k : IntKind} (hk : SK k) {n : Int} (h0 : 0 ≤ n) (h1 : n < 32768) : k.wrap n = n := by
  rcases hk with rfl | rfl
  · have e : IntKind.wrap .u16 n = n % 65536 := by simp [IntKind.wrap, IntKind.bits, IntKind.signed]
    rw [e]; omega
  · exact wrap64 (by omega) (by omega)

theorem SK.bits {k : IntKind} (hk : SK k) : 16 ≤ k.bits := by
  rcases hk with rfl | rfl <;> decide

theorem SK.toNat {k : IntKind} (hk : SK k) {a : Nat} (ha : a < 1024) : (BitVec.ofInt k.bits (a : Int)).toNat = a := by
  have h := hk.bits
  have h2 : (2 : Nat) ^ 16 ≤ 2 ^ k.bits := Nat.pow_le_pow_right (by decide) h
  rw [BitVec.toNat_ofInt]
  have h3 : ((2 ^ k.bits : Nat) : Int) = 2 ^ k.bits := by simp
  rw [Int.emod_eq_of_lt (by omega) (by omega)]
  omega

end Go.Sim


namespace Go.Proofs.YthplaillblmgfaaGreatDoor
open Go.Sim
end Go.Proofs.YthplaillblmgfaaGreatDoor


namespace Go.Proofs.YthplaillblmgfaaGreatDoor
open Go.Sim

theorem INS.at {h : Heap} {e : TypeId} {k : IntKind} {v : Value} {ns : List Int} (p : INS h e k v ns) {i : Nat} (hi : i < ns.length) : ∃ b o, iAdrSl 1 v (I i) = some (pt b o) ∧ iLoad false 1 h (pt b o) = some (.int k ns[i]) := by
  rcases p.2 with ⟨_, h0⟩ | ⟨j, rfl, hc⟩
  · omega
  · have hc := hc.resolve_left (by omega)
    exact ⟨j, i, adr_sl hi, by simp [iLoad, hc, iPart, hi]⟩

end Go.Proofs.YthplaillblmgfaaGreatDoor


namespace Go.Proofs.YthplaillblmgfaaGreatDoor
open Go.Sim
variable (P : Program) (K : VK)
/-! F8: pommel/pommellaw08.made -/
noncomputable def c8z12 : ICode := .ops none [⟨some 18, .p (.pick (.tmp 14) (.tmp 17) (.const (.bool false)))⟩]
noncomputable def c8z10 : ICode := .seq (.ops (some (14, true)) [gm 15 3,⟨some 16, .p (.lenSl (.tmp 15))⟩,⟨some 17, .p (.bin .lss (.tmp 16) (ci (12)))⟩])
 (.cut [0, 3, 4, 14, 17] c8z12)
noncomputable def c8z8 : ICode := .cond (.tmp 18) (.skip)
 (.exit 0)
noncomputable def c8z18 : ICode := .seq (.seq (.ops none [gm 28 5,⟨some 29, .p (.bin .gtr (.tmp 28) (ci (1)))⟩])
 (.cond (.tmp 29) (.skip)
 (.exit 2)))
 (.seq (.block 3 (.ops none [gm 32 5,⟨some 33, .p (.bin .rem (.tmp 32) (ci (2)))⟩,gm 34 5,⟨some 35, .p (.bin .rem (.tmp 34) (ci (2)))⟩,⟨some 36, .p (.bin .add (.tmp 35) (ci (1)))⟩,⟨some 37, .p (.slS (.const (.string ⟨#[48, 49]⟩)) (some (.tmp 33)) (some (.tmp 36)))⟩,gm 38 6,⟨some 39, .p (.bin .add (.tmp 37) (.tmp 38))⟩,gm 6 39]))
 (.ops none [gm 30 5,⟨some 31, .p (.bin .quo (.tmp 30) (ci (2)))⟩,gm 5 31]))
noncomputable def c8z36 : ICode := .ops none [⟨some 54, .p (.pick (.tmp 47) (.const (.bool true)) (.tmp 53))⟩,gm 7 54]
noncomputable def c8z34 : ICode := .seq (.ops (some (47, false)) [gm 48 3,gm 49 8,⟨some 50, .p (.adrSl 1 (.tmp 48) (.tmp 49))⟩,⟨some 51, .l (.load false 1 (.tmp 50))⟩,gm 52 6,⟨some 53, .p (.bin .eql (.tmp 51) (.tmp 52))⟩])
 (.cut [0, 3, 4, 6, 8, 47, 53] c8z36)
noncomputable def c8z31 : ICode := .ops none [gm 44 8,⟨some 45, .p (.bin .add (.tmp 44) (ci (1)))⟩,gm 8 45]
noncomputable def c8z28 : ICode := .seq (.seq (.ops none [gm 40 8,gm 41 3,⟨some 42, .p (.lenSl (.tmp 41))⟩,⟨some 43, .p (.bin .lss (.tmp 40) (.tmp 42))⟩])
 (.cond (.tmp 43) (.skip)
 (.exit 4)))
 (.seq (.block 5 (.seq (.ops none [gm 46 7,gm 47 46])
 (.cut [0, 3, 4, 6, 8, 47] c8z34))) c8z31)
noncomputable def c8z37 : ICode := .seq (.ops none [gm 55 7,⟨some 56, .p (.un .not (.tmp 55))⟩])
 (.cond (.tmp 56) (.ops none [gm 57 3,gm 58 6,⟨some 59, .e (.mkSl 9 1 [(.string ⟨#[]⟩)] [(0, 1, (.tmp 58))])⟩,⟨some 60, .e (.app 9 1 16 (.tmp 57) (.tmp 59))⟩,gm 3 60])
 (.skip))
noncomputable def c8z25 : ICode := .cut [0, 3, 4, 6, 7] c8z37
noncomputable def c8z23 : ICode := .seq (.ops none [⟨some 7, .p (.mv (.const (.bool false)))⟩])
 (.seq (.seq (.ops none [⟨some 8, .p (.mv (ci (0)))⟩])
 (.block 4 (.loop [0, 3, 4, 6] [7, 8] c8z28))) c8z25)
noncomputable def c8z16 : ICode := .cut [0, 3, 4, 6] c8z23
noncomputable def c8z39 : ICode := .ops none [gm 19 4,⟨some 20, .p (.bin .add (.tmp 19) (ci (1)))⟩,gm 4 20]
noncomputable def c8z13 : ICode := .cut [0, 3, 4] c8z39
noncomputable def c8z7 : ICode := .seq (.block 1 (.seq (.ops none [gm 21 0,gm 22 4,⟨some 23, .p (.adrSl 1 (.tmp 21) (.tmp 22))⟩,⟨some 24, .l (.load false 1 (.tmp 23))⟩,⟨some 25, .p (.conv .i64 (.tmp 24))⟩,⟨some 26, .p (.bin .rem (.tmp 25) (ci (2046)))⟩,⟨some 27, .p (.bin .add (.tmp 26) (ci (2)))⟩,gm 5 27,⟨some 6, .p (.mv (.const (.string ⟨#[]⟩)))⟩])
 (.seq (.block 2 (.loop [0, 3, 4] [5, 6] c8z18)) c8z16))) c8z13
noncomputable def c8z6 : ICode := .seq (.seq (.seq (.ops none [gm 10 4,gm 11 0,⟨some 12, .p (.lenSl (.tmp 11))⟩,⟨some 13, .p (.bin .lss (.tmp 10) (.tmp 12))⟩,gm 14 13])
 (.cut [0, 3, 4, 14] c8z10)) c8z8) c8z7
noncomputable def c8z43 : ICode := .seq (.ops none [gm 67 3,gm 2 67])
 (.ret)
noncomputable def c8z40 : ICode := .seq (.seq (.ops none [gm 61 3,⟨some 62, .p (.lenSl (.tmp 61))⟩,⟨some 63, .p (.bin .eql (.tmp 62) (ci (0)))⟩])
 (.cond (.tmp 63) (.ops none [gm 64 3,⟨some 65, .e (.mkSl 9 1 [(.string ⟨#[]⟩)] [(0, 1, (.const (.string ⟨#[48]⟩)))])⟩,⟨some 66, .e (.app 9 1 16 (.tmp 64) (.tmp 65))⟩,gm 3 66])
 (.skip)))
 (.cut [3] c8z43)
noncomputable def c8z3 : ICode := .cut [3] c8z40
noncomputable def c8 : ICode := .seq (.ops none [⟨some 2, .p (.mv (.const (.slice none 0 0)))⟩])
 (.seq (.ops none [⟨some 9, .e (.mkSl 9 0 [(.string ⟨#[]⟩)] [])⟩,gm 3 9])
 (.seq (.seq (.ops none [⟨some 4, .p (.mv (ci (0)))⟩])
 (.block 0 (.loop [0] [3, 4] c8z6))) c8z3))
theorem k8 : compFn Tryz.prog 8 [[], [], [], [0], [3, 4], [0, 3, 4, 14], [0, 3, 4, 14, 17], [], [], [], [0, 3, 4], [5, 6], [], [], [], [0, 3, 4, 6], [], [], [0, 3, 4, 6], [7, 8], [], [], [0, 3, 4, 6, 8, 47], [0, 3, 4, 6, 8, 47, 53], [], [0, 3, 4, 6, 7], [], [0, 3, 4], [3], [], [3], []] = some (68, c8, [.tmp 2]) := by kernel_rfl
def K8z0 (_P : Program) (K : VK) : Kont := bodyP [.tmp 2] K
def K8z3 : Kont := thenK (iwpP P c8z3 (K8z0 P K)) (K8z0 P K)
def K8z5 : Kont := inBlockK 0 (K8z3 P K)
def K8z6 (x0 : Value) (L1 : LK) : Kont := thenK (fun f' h'' => (([0] : List Nat).map f' : List Value) = [x0] ∧ L1 (([3, 4] : List Nat).map f') h'') (K8z5 P K)
def K8z7 (x0 : Value) (L1 : LK) : Kont := thenK (iwpP P c8z7 (K8z6 P K x0 L1)) (K8z6 P K x0 L1)
def K8z8 (x0 : Value) (L1 : LK) : Kont := thenK (iwpP P c8z8 (K8z7 P K x0 L1)) (K8z7 P K x0 L1)
def K8z13 (x0 : Value) (L1 : LK) : Kont := thenK (iwpP P c8z13 (K8z6 P K x0 L1)) (K8z6 P K x0 L1)
def K8z14 (x0 : Value) (L1 : LK) : Kont := inBlockK 1 (K8z13 P K x0 L1)
def K8z16 (x0 : Value) (L1 : LK) : Kont := thenK (iwpP P c8z16 (K8z14 P K x0 L1)) (K8z14 P K x0 L1)
def K8z17 (x0 : Value) (L1 : LK) : Kont := inBlockK 2 (K8z16 P K x0 L1)
def K8z18 (x0 l3 i4 : Value) (L1 L2 : LK) : Kont := thenK (fun f' h'' => (([0, 3, 4] : List Nat).map f' : List Value) = [x0, l3, i4] ∧ L2 (([5, 6] : List Nat).map f') h'') (K8z17 P K x0 L1)
def K8z25 (x0 : Value) (L1 : LK) : Kont := thenK (iwpP P c8z25 (K8z14 P K x0 L1)) (K8z14 P K x0 L1)
def K8z27 (x0 : Value) (L1 : LK) : Kont := inBlockK 4 (K8z25 P K x0 L1)
def K8z28 (x0 l3 i4 s6 : Value) (L1 L2 : LK) : Kont := thenK (fun f' h'' => (([0, 3, 4, 6] : List Nat).map f' : List Value) = [x0, l3, i4, s6] ∧ L2 (([7, 8] : List Nat).map f') h'') (K8z27 P K x0 L1)
def K8z31 (x0 l3 i4 s6 : Value) (L1 L2 : LK) : Kont := thenK (iwpP P c8z31 (K8z28 P K x0 l3 i4 s6 L1 L2)) (K8z28 P K x0 l3 i4 s6 L1 L2)
def K8z32 (x0 l3 i4 s6 : Value) (L1 L2 : LK) : Kont := inBlockK 5 (K8z31 P K x0 l3 i4 s6 L1 L2)
def p8z6 (x0 : Value) (L1 : LK) (xs : List Value) (h : Heap) : Prop := CutP (iwpP P c8z6 (K8z6 P K x0 L1)) ([0] ++ [3, 4]) ([x0] ++ xs) h
def p8z10 (x0 l3 i4 x14 : Value) (L1 : LK) (h : Heap) : Prop := CutP (iwpP P c8z10 (K8z8 P K x0 L1)) [0, 3, 4, 14] [x0, l3, i4, x14] h
def p8z12 (x0 l3 i4 x14 x17 : Value) (L1 : LK) (h : Heap) : Prop := CutP (iwpP P c8z12 (K8z8 P K x0 L1)) [0, 3, 4, 14, 17] [x0, l3, i4, x14, x17] h
def p8z18 (x0 l3 i4 : Value) (L1 L2 : LK) (xs : List Value) (h : Heap) : Prop := CutP (iwpP P c8z18 (K8z18 P K x0 l3 i4 L1 L2)) ([0, 3, 4] ++ [5, 6]) ([x0, l3, i4] ++ xs) h
def p8z23 (x0 l3 i4 s6 : Value) (L1 : LK) (h : Heap) : Prop := CutP (iwpP P c8z23 (K8z14 P K x0 L1)) [0, 3, 4, 6] [x0, l3, i4, s6] h
def p8z28 (x0 l3 i4 s6 : Value) (L1 L2 : LK) (xs : List Value) (h : Heap) : Prop := CutP (iwpP P c8z28 (K8z28 P K x0 l3 i4 s6 L1 L2)) ([0, 3, 4, 6] ++ [7, 8]) ([x0, l3, i4, s6] ++ xs) h
def p8z34 (x0 l3 i4 s6 k8 x47 : Value) (L1 L2 : LK) (h : Heap) : Prop := CutP (iwpP P c8z34 (K8z32 P K x0 l3 i4 s6 L1 L2)) [0, 3, 4, 6, 8, 47] [x0, l3, i4, s6, k8, x47] h
def p8z36 (x0 l3 i4 s6 k8 x47 x53 : Value) (L1 L2 : LK) (h : Heap) : Prop := CutP (iwpP P c8z36 (K8z32 P K x0 l3 i4 s6 L1 L2)) [0, 3, 4, 6, 8, 47, 53] [x0, l3, i4, s6, k8, x47, x53] h
def p8z37 (x0 l3 i4 s6 known7 : Value) (L1 : LK) (h : Heap) : Prop := CutP (iwpP P c8z37 (K8z14 P K x0 L1)) [0, 3, 4, 6, 7] [x0, l3, i4, s6, known7] h
def p8z39 (x0 l3 i4 : Value) (L1 : LK) (h : Heap) : Prop := CutP (iwpP P c8z39 (K8z6 P K x0 L1)) [0, 3, 4] [x0, l3, i4] h
def p8z40 (l3 : Value) (h : Heap) : Prop := CutP (iwpP P c8z40 (K8z0 P K)) [3] [l3] h
def p8z43 (l3 : Value) (h : Heap) : Prop := CutP (iwpP P c8z43 (K8z0 P K)) [3] [l3] h
theorem q8z12 (x0 l3 i4 x14 x17 : Value) (L1 : LK) (h : Heap) : p8z12 P K x0 l3 i4 x14 x17 L1 h =
 (OP (iPick x14 x17 (.bool false)) fun x18 =>
 IfP x18
 (OP (iAdrSl 1 x0 i4) fun x23 =>
 OP (iLoad false 1 h x23) fun x24 =>
 OP (iConv .i64 x24) fun x25 =>
 OP (iBin .rem x25 (.int .i64 (2046))) fun x26 =>
 OP (iBin .add x26 (.int .i64 (2))) fun x27 =>
 LoopP [x27, (.string ⟨#[]⟩)] h fun L2 xs hx =>
 p8z18 P K x0 l3 i4 L1 L2 xs hx)
 (p8z40 P K l3 h)) := (CutP_def _ _ _ _).trans (by kernel_rfl)
theorem q8z10 (x0 l3 i4 x14 : Value) (L1 : LK) (h : Heap) : p8z10 P K x0 l3 i4 x14 L1 h =
 (GdP x14 true
 (OP (iLenSl l3) fun x16 =>
 OP (iBin .lss x16 (.int .i64 (12))) fun x17 =>
 p8z12 P K x0 l3 i4 x14 x17 L1 h)
 (p8z12 P K x0 l3 i4 x14 undef L1 h)) := (CutP_def _ _ _ _).trans (by kernel_rfl)
theorem q8z18 (x0 l3 i4 : Value) (L1 L2 : LK) (v5 s6 : Value) (h : Heap) : p8z18 P K x0 l3 i4 L1 L2 [v5, s6] h =
 (OP (iBin .gtr v5 (.int .i64 (1))) fun x29 =>
 IfP x29
 (OP (iBin .rem v5 (.int .i64 (2))) fun x33 =>
 OP (iBin .rem v5 (.int .i64 (2))) fun x35 =>
 OP (iBin .add x35 (.int .i64 (1))) fun x36 =>
 OP (iSlS (.string ⟨#[48, 49]⟩) (some x33) (some x36)) fun x37 =>
 OP (iBin .add x37 s6) fun x39 =>
 OP (iBin .quo v5 (.int .i64 (2))) fun x31 =>
 ([x0, l3, i4] : List Value) = [x0, l3, i4] ∧ L2 [x31, x39] h)
 (p8z23 P K x0 l3 i4 s6 L1 h)) := (CutP_def _ _ _ _).trans (by kernel_rfl)
theorem q8z36 (x0 l3 i4 s6 k8 x47 x53 : Value) (L1 L2 : LK) (h : Heap) : p8z36 P K x0 l3 i4 s6 k8 x47 x53 L1 L2 h =
 (OP (iPick x47 (.bool true) x53) fun x54 =>
 OP (iBin .add k8 (.int .i64 (1))) fun x45 =>
 ([x0, l3, i4, s6] : List Value) = [x0, l3, i4, s6] ∧ L2 [x54, x45] h) := (CutP_def _ _ _ _).trans (by kernel_rfl)
theorem q8z34 (x0 l3 i4 s6 k8 x47 : Value) (L1 L2 : LK) (h : Heap) : p8z34 P K x0 l3 i4 s6 k8 x47 L1 L2 h =
 (GdP x47 false
 (OP (iAdrSl 1 l3 k8) fun x50 =>
 OP (iLoad false 1 h x50) fun x51 =>
 OP (iBin .eql x51 s6) fun x53 =>
 p8z36 P K x0 l3 i4 s6 k8 x47 x53 L1 L2 h)
 (p8z36 P K x0 l3 i4 s6 k8 x47 undef L1 L2 h)) := (CutP_def _ _ _ _).trans (by kernel_rfl)
theorem q8z28 (x0 l3 i4 s6 : Value) (L1 L2 : LK) (known7 k8 : Value) (h : Heap) : p8z28 P K x0 l3 i4 s6 L1 L2 [known7, k8] h =
 (OP (iLenSl l3) fun x42 =>
 OP (iBin .lss k8 x42) fun x43 =>
 IfP x43
 (p8z34 P K x0 l3 i4 s6 k8 known7 L1 L2 h)
 (p8z37 P K x0 l3 i4 s6 known7 L1 h)) := (CutP_def _ _ _ _).trans (by kernel_rfl)
theorem q8z37 (x0 l3 i4 s6 known7 : Value) (L1 : LK) (h : Heap) : p8z37 P K x0 l3 i4 s6 known7 L1 h =
 (OP (iUn .not known7) fun x56 =>
 IfP x56
 (OH (iMkSl 9 1 [(.string ⟨#[]⟩)] h [(0, 1, s6)]) fun x59 h_1 =>
 OH (iApp 9 1 16 h_1 l3 x59) fun x60 h_2 =>
 p8z39 P K x0 x60 i4 L1 h_2)
 (p8z39 P K x0 l3 i4 L1 h)) := (CutP_def _ _ _ _).trans (by kernel_rfl)
theorem q8z23 (x0 l3 i4 s6 : Value) (L1 : LK) (h : Heap) : p8z23 P K x0 l3 i4 s6 L1 h =
 (LoopP [(.bool false), (.int .i64 (0))] h fun L2 xs hx =>
 p8z28 P K x0 l3 i4 s6 L1 L2 xs hx) := (CutP_def _ _ _ _).trans (by kernel_rfl)
theorem q8z39 (x0 l3 i4 : Value) (L1 : LK) (h : Heap) : p8z39 P K x0 l3 i4 L1 h =
 (OP (iBin .add i4 (.int .i64 (1))) fun x20 =>
 ([x0] : List Value) = [x0] ∧ L1 [l3, x20] h) := (CutP_def _ _ _ _).trans (by kernel_rfl)
theorem q8z6 (x0 : Value) (L1 : LK) (l3 i4 : Value) (h : Heap) : p8z6 P K x0 L1 [l3, i4] h =
 (OP (iLenSl x0) fun x12 =>
 OP (iBin .lss i4 x12) fun x13 =>
 p8z10 P K x0 l3 i4 x13 L1 h) := (CutP_def _ _ _ _).trans (by kernel_rfl)
theorem q8z43 (l3 : Value) (h : Heap) : p8z43 P K l3 h =
 (K l3 h) := (CutP_def _ _ _ _).trans (by kernel_rfl)
theorem q8z40 (l3 : Value) (h : Heap) : p8z40 P K l3 h =
 (OP (iLenSl l3) fun x62 =>
 OP (iBin .eql x62 (.int .i64 (0))) fun x63 =>
 IfP x63
 (OH (iMkSl 9 1 [(.string ⟨#[]⟩)] h [(0, 1, (.string ⟨#[48]⟩))]) fun x65 h_1 =>
 OH (iApp 9 1 16 h_1 l3 x65) fun x66 h_2 =>
 p8z43 P K x66 h_2)
 (p8z43 P K l3 h)) := (CutP_def _ _ _ _).trans (by kernel_rfl)
def T8 (x0 : Value) (h : Heap) : Prop :=
 OH (iMkSl 9 0 [(.string ⟨#[]⟩)] h []) fun x9 h_1 =>
 LoopP [x9, (.int .i64 (0))] h_1 fun L1 xs hx =>
 p8z6 P K x0 L1 xs hx
theorem e8 (x0 : Value) (h : Heap) : iwpP P c8 (bodyP [.tmp 2] K) (frame0 [x0]) h = T8 P K x0 h := by kernel_rfl
theorem f8 {K : VK} {x0 : Value} {h : Heap} (H : T8 Tryz.prog K x0 h) : CallP Tryz.prog 8 [x0] h K :=
 callP_intro k8 (Nat.le_of_ble_eq_true rfl) ((e8 Tryz.prog K x0 h).mpr H)
/-! F28: pommel/pommellaw08.lengths -/
/-! F30: pommel/pommelref08.Code -/
/-! F31: pommel/mark.IsPlain -/
/-! F61: pommel/pommelref08.bits -/
/-! F63: pommel/pommelref08.begins -/
end Go.Proofs.YthplaillblmgfaaGreatDoor

namespace Go.Proofs.YthplaillblmgfaaGreatDoor
open Go.Sim

theorem mkW0 (h : Heap) : iMkSl 9 0 [(.string ⟨#[]⟩)] h [] = some (sl 9 h.length 0 0, h ++ [.arr 9 []]) := rfl

/-- One number's letters. -/
theorem bitsC {x0 l3 i4 : Value} {L1 : List Value → Heap → Prop} {K : Value → Heap → Prop} {g : Heap} (v0 : Nat) (h1 : 2 ≤ v0) (h2 : v0 ≤ 2047)
    (hk : ∀ s : Tx, s ≠ [] → s.length ≤ 10 → bitsB s = true → p8z23 Tryz.prog K x0 l3 i4 (S s) L1 g) : LoopP [I v0, (.string ⟨#[]⟩)] g fun L2 xs hx => p8z18 Tryz.prog K x0 l3 i4 L1 L2 xs hx := by
  refine loopL (σ := Nat × Tx) (fun q => [I q.1, S q.2]) (fun _ => g) (fun q => 1 ≤ q.1 ∧ q.1 * 2 ^ q.2.length ≤ 2047 ∧ bitsB q.2 = true ∧ (q.2 = [] → 2 ≤ q.1)) (fun q => q.1) (v0, []) rfl rfl ⟨by show 1 ≤ v0; omega, by simpa using h2, rfl, fun _ => h1⟩ ?_
  rintro ⟨v, s⟩ ⟨q1, q2, q3, q4⟩ L hL
  simp only at q1 q2 q3 q4 hL ⊢
  have sl : s.length ≤ 10 := by
    apply Classical.byContradiction
    intro hc
    have := Nat.pow_le_pow_right (n := 2) (by omega) (show 11 ≤ s.length by omega)
    have : v * 2 ^ 11 ≤ v * 2 ^ s.length := Nat.mul_le_mul_left _ this
    have : 1 * 2 ^ 11 ≤ v * 2 ^ 11 := Nat.mul_le_mul_right _ q1
    omega
  have vl : v ≤ 2047 := by
    have := Nat.mul_le_mul_left v (Nat.one_le_two_pow (n := s.length))
    omega
  rw [q8z18]
  simp only [bin_gtr, OP_some, IfP_dec]
  refine ⟨fun hgt => ?_, fun hle => ?_⟩
  · have hv2 : 2 ≤ v := by omega
    have w : IntKind.wrap .i64 (((v % 2 : Nat) : Int) + 1) = ((v % 2 + 1 : Nat) : Int) := by rw [wrap64 (by omega) (by omega)]; omega
    have rm : iBin .rem (I v) (.int .i64 (2)) = some (I ((v % 2 : Nat) : Int)) := rem_nat .i64 v 2 (by omega)
    have qo : iBin .quo (I v) (.int .i64 (2)) = some (I ((v / 2 : Nat) : Int)) := by
      have e : iBin .quo (I v) (I (2 : Nat)) = some (I (IntKind.wrap .i64 ((v : Int).tdiv ((2 : Nat) : Int)))) := by simp [iBin, iInt]
      have e3 : ((v : Int).tdiv ((2 : Nat) : Int)) = ((v / 2 : Nat) : Int) := Int.ofNat_tdiv v 2 |>.symm
      rw [e3, wrap64 (by omega) (by omega)] at e
      exact e
    have sx : iSlS (.string ⟨#[48, 49]⟩) (some (I ((v % 2 : Nat) : Int))) (some (I ((v % 2 + 1 : Nat) : Int))) = some (S [if v % 2 = 0 then 48 else 49]) := by
      rcases Nat.mod_two_eq_zero_or_one v with h | h <;> rw [h] <;> rfl
    simp only [rm, OP_some, bin_add, w, sx, bin_addS (a := [if v % 2 = 0 then 48 else 49]) (b := s) (by simp [maxLen]; omega), qo, true_and]
    refine hL (v / 2, [if v % 2 = 0 then 48 else 49] ++ s) ⟨by show 1 ≤ v / 2; omega, ?_, ?_, fun h => by simp at h⟩ (by show v / 2 < v; omega)
    · show v / 2 * 2 ^ (([if v % 2 = 0 then (48 : UInt8) else 49] ++ s).length) ≤ 2047
      rw [List.length_append, List.length_singleton, Nat.pow_add, ← Nat.mul_assoc]
      refine Nat.le_trans (Nat.mul_le_mul_right _ ?_) q2
      omega
    · show bitsB ([if v % 2 = 0 then (48 : UInt8) else 49] ++ s) = true
      refine bits_app ?_ q3
      split <;> rfl
  · have : v = 1 := by omega
    refine hk s (fun h => by have := q4 h; omega) sl q3

theorem own_len9 {b : Nat} {g : Heap} {v : Value} {ls : List Tx} (own : OwnS b g 9 v (ls.map S)) : iLenSl v = some (I ls.length) := (own_ss own).len

theorem knownC {x0 l3 i4 : Value} {L1 : List Value → Heap → Prop} {K : Value → Heap → Prop} {g : Heap} {ls : List Tx} {s : Tx} (hv : SS g l3 ls) (hl : ls.length ≤ 12)
    (hk : p8z37 Tryz.prog K x0 l3 i4 (S s) (B (decide (s ∈ ls))) L1 g) : p8z23 Tryz.prog K x0 l3 i4 (S s) L1 g := by
  rw [q8z23]
  refine loopL (σ := Nat) (fun k => [B (decide (s ∈ ls.take k)), I k]) (fun _ => g) (fun k => k ≤ ls.length) (fun k => ls.length - k) 0 (by simp) rfl (Nat.zero_le _) ?_
  intro k hk2 L hL
  rw [q8z28]
  simp only [hv.len, OP_some, bin_lss, IfP_dec]
  refine ⟨fun hlt => ?_, fun hge => ?_⟩
  · have hlt : k < ls.length := by omega
    obtain ⟨b, o, a1, a2⟩ := hv.get k hlt
    have key : decide (s ∈ ls.take (k + 1)) = (decide (s ∈ ls.take k) || decide (ls[k] = s)) := by
      rw [List.take_succ_eq_append_getElem hlt, ← Bool.decide_or]
      exact decide_eq_decide.2 (by rw [List.mem_append, List.mem_singleton, eq_comm (a := s)])
    have nx := hL (k + 1) hlt (by omega)
    rw [key] at nx
    rw [q8z34]
    cases hb : decide (s ∈ ls.take k) with
    | true =>
      rw [hb] at nx
      simp only [GdP_tf, q8z36, iPick_t, OP_some, bin_add, incM k (show k < maxLen by simp [maxLen]; omega), true_and]
      exact nx
    | false =>
      rw [hb] at nx
      simp only [GdP_ff, a1, a2, OP_some, bin_eqlS, q8z36, iPick_f, bin_add, incM k (show k < maxLen by simp [maxLen]; omega), true_and]
      exact nx
  · have : k = ls.length := by omega
    subst this
    rw [List.take_length]
    exact hk

structure Ok' (W : List Tx) : Prop where
  nd : W.Nodup
  all : ∀ w ∈ W, w ≠ [] ∧ w.length ≤ 10 ∧ bitsB w = true

theorem C8 {v : Value} {ns : List Int} {h : Heap} {K : Value → Heap → Prop} (hv : INS h 73 .u16 v ns) (hnl : ns.length ≤ maxLen) (hns : ∀ x ∈ ns, 0 ≤ x ∧ x < 65536) (hk : ∀ W u h', Ok W → W ≠ [] → EX h h' → OwnS h.length h' 9 u (W.map S) → K u h') : CallP Tryz.prog 8 [v] h K := by
  refine f8 ?_
  unfold T8
  simp only [mkW0, OH_some]
  have fin : ∀ {vo : Value} {g : Heap} {ls : List Tx}, EX h g → OwnS h.length g 9 vo (ls.map S) → Ok' ls → ls.length ≤ 12 → p8z40 Tryz.prog K vo g := by
    intro vo g ls xg own ok hl
    rw [q8z40]
    simp only [own_len9 own, OP_some, bin_eql, IfP_dec]
    refine ⟨fun h0 => ?_, fun h0 => ?_⟩
    · have : ls = [] := List.length_eq_zero_iff.1 (by omega)
      subst this
      refine app1 own xg (by simp) (by simp [maxLen]) rfl rfl ?_
      intro v' g' x' own'
      rw [q8z43]
      refine hk [[48]] v' g' ⟨by simp, fun w hw => ?_, fun w hw => ?_, fun w hw => ?_, by simp⟩ (by simp) x' own'
      all_goals rw [List.mem_singleton.1 hw]
      · simp
      · simp
      · rfl
    · rw [q8z43]
      exact hk ls vo g ⟨ok.nd, fun w hw => (ok.all w hw).1, fun w hw => (ok.all w hw).2.1, fun w hw => (ok.all w hw).2.2, hl⟩ (by rintro rfl; simp at h0) xg own
  refine loopL (σ := Nat × List Tx × Value × Heap) (fun q => [q.2.2.1, I q.1]) (fun q => q.2.2.2) (fun q => q.1 ≤ ns.length ∧ q.2.1.length ≤ 12 ∧ Ok' q.2.1 ∧ EX h q.2.2.2 ∧ OwnS h.length q.2.2.2 9 q.2.2.1 (q.2.1.map S)) (fun q => ns.length - q.1)
    (0, [], sl 9 h.length 0 0, h ++ [.arr 9 []]) rfl rfl ⟨Nat.zero_le _, Nat.zero_le _, ⟨List.nodup_nil, fun w hw => by simp at hw⟩, EX.append _ _, .inr ⟨h.length, Nat.le_refl _, rfl, get_last⟩⟩ ?_
  rintro ⟨i, ls, vo, g⟩ ⟨hi, hl, ok, xg, own⟩ L hL
  simp only at hi hl ok xg own hL ⊢
  have hv' : INS g 73 .u16 v ns := IS.mono xg hv
  have hvl : iLenSl v = some (I ns.length) := IS.len hv'
  rw [q8z6]
  simp only [hvl, OP_some, bin_lss]
  rw [q8z10]
  by_cases h1 : i < ns.length
  · rw [decide_eq_true (show (i : Int) < ns.length by omega)]
    simp only [GdP_tt, own_len9 own, OP_some, bin_lss]
    rw [q8z12]
    by_cases h2 : ls.length < 12
    · obtain ⟨b, o, g1, g2⟩ := INS.at hv' h1
      have hx := hns _ (List.getElem_mem h1)
      obtain ⟨m, hm⟩ : ∃ m : Nat, ns[i] = (m : Int) := ⟨ns[i].toNat, by omega⟩
      rw [hm] at g2 hx
      have cx : iConv .i64 (.int .u16 (m : Int)) = some (I m) := by rw [conv_int, wrap64 (by omega) (by omega)]
      have rm : iBin .rem (I m) (.int .i64 2046) = some (I ((m % 2046 : Nat) : Int)) := rem_nat .i64 m 2046 (by omega)
      have w : IntKind.wrap .i64 (((m % 2046 : Nat) : Int) + 2) = ((m % 2046 + 2 : Nat) : Int) := by rw [wrap64 (by omega) (by omega)]; omega
      rw [decide_eq_true (show (ls.length : Int) < 12 by omega)]
      simp only [iPick_t, OP_some, IfP_true, g1, g2, cx, rm, bin_add, w]
      refine bitsC _ (by omega) (by omega) ?_
      intro s s1 s2 s3
      refine knownC (own_ss own) hl ?_
      rw [q8z37]
      have w3 : IntKind.wrap .i64 ((i : Int) + 1) = ((i + 1 : Nat) : Int) := incM i (by omega)
      simp only [un_not, OP_some, IfP_ndec]
      refine ⟨fun hni => ?_, fun hin => ?_⟩
      · refine app1 own xg (by simp; omega) (by simp [maxLen]; omega) rfl rfl ?_
        intro v' g' x' own'
        rw [q8z39]
        simp only [bin_add, OP_some, w3, true_and]
        refine hL (i + 1, ls ++ [s], v', g') ⟨by show i + 1 ≤ _; omega, by show (ls ++ [s]).length ≤ 12; simp; omega, ⟨List.nodup_append.2 ⟨ok.nd, by simp, fun a ha b hb e => hni (by rw [← List.mem_singleton.1 hb, ← e]; exact ha)⟩, fun w hw => ?_⟩, x', ?_⟩ (by show ns.length - (i + 1) < ns.length - i; omega)
        · rcases List.mem_append.1 hw with hw | hw
          · exact ok.all w hw
          · rw [List.mem_singleton.1 hw]; exact ⟨s1, s2, s3⟩
        · show OwnS h.length g' 9 v' ((ls ++ [s]).map S)
          rw [List.map_append]
          exact own'
      · rw [q8z39]
        simp only [bin_add, OP_some, w3, true_and]
        exact hL (i + 1, ls, vo, g) ⟨by show i + 1 ≤ _; omega, hl, ok, xg, own⟩ (by show ns.length - (i + 1) < ns.length - i; omega)
    · rw [decide_eq_false (show ¬ (ls.length : Int) < 12 by omega)]
      simp only [iPick_t, OP_some, IfP_false]
      exact fin xg own ok hl
  · rw [decide_eq_false (show ¬ (i : Int) < ns.length by omega)]
    simp only [GdP_ft]
    rw [q8z12]
    simp only [iPick_f, OP_some, IfP_false]
    exact fin xg own ok hl

end Go.Proofs.YthplaillblmgfaaGreatDoor


namespace Go.Proofs.YthplaillblmgfaaGreatDoor
open Go.Sim

theorem ok_len {W : List Tx} (ok : Ok W) : W.length < 1000000 ∧ ∀ w ∈ W, w.length < 4611686018427387904 := ⟨by have := ok.few; omega, fun w hw => by have := ok.le w hw; omega⟩

/-- Clear of a code. -/
theorem clearC {b : Nat} {v : Value} {W : List Tx} {h : Heap} {K : Value → Heap → Prop} (ok : Ok W) (h0 : W ≠ []) (hv : OwnS b h 9 v (W.map S))
    (hno : (∀ t, ¬ Rc W [] t) → ∀ h', EX h h' → K (.tuple #[S [], I 5]) h')
    (hyes : ∀ t, Rc W [] t → (∀ t', Rc W [] t' → rk t ≤ rk t') → ∀ h', EX h h' → K (.tuple #[S t, I 0]) h') : CallP Tryz.prog 9 [v] h K :=
  C9 hv (ok_len ok).1 (ok_len ok).2 (fun hc => absurd (chk0 ok h0) hc) (fun _ => hno) fun _ => hyes

theorem ins_le {ρ : RMap} {h : Heap} {e : TypeId} {k : IntKind} {v' v : Value} {ns : List Int} (q : INS h e k v' ns) (r : VRel ρ v' v) : ns.length ≤ maxLen := by
  rcases q.2 with ⟨_, h0⟩ | ⟨i, rfl, _⟩
  · rw [h0]; simp
  · obtain ⟨_, _, _, _, _, _, _, h4, h5, _⟩ := slice_inv r
    omega

end Go.Proofs.YthplaillblmgfaaGreatDoor


namespace Go.Proofs.YthplaillblmgfaaGreatDoor
open Go.Sim

section
variable {h : Heap} {id : Nat}

abbrev hb (h : Heap) (id : Nat) (xs : List UInt8) : Heap := h.set id (.arr 5 (xs.map cv))

theorem hb_get (hid : id < h.length) (xs : List UInt8) : (hb h id xs)[id]? = some (.arr 5 (xs.map cv)) := by simp [hb, hid]

theorem hb_load (hid : id < h.length) {xs : List UInt8} {j : Nat} {c : UInt8} (hj : xs[j]? = some c) : iLoad false 1 (hb h id xs) (pt id j) = some (cv c) := by
  simp [iLoad, objCells, hb_get hid, iPart, hj]

theorem hb_store (hid : id < h.length) {xs : List UInt8} {j : Nat} (c : UInt8) (hj : j < xs.length) : oStore 1 (hb h id xs) (pt id j) (cv c) = some (undef, hb h id (xs.set j c)) := by
  rw [store_at (hb_get hid xs) (by simpa using hj) rfl rfl]
  simp [hb, List.map_set]

end

end Go.Proofs.YthplaillblmgfaaGreatDoor


namespace Go.Proofs.YthplaillblmgfaaGreatDoor
open Go.Sim
variable (P : Program) (K : VK)
/-! F46: pommel/num.Of -/
noncomputable def c46z5 : ICode := .seq (.ops none [gm 10 0,⟨some 11, .p (.bin .lss (.tmp 10) (ci (0)))⟩,gm 12 3,⟨some 13, .p (.conv .u32 (.tmp 12))⟩,gm 14 3,⟨some 15, .p (.bin .shr (.tmp 14) (.const (.int .u64 (32))))⟩,⟨some 16, .p (.conv .u32 (.tmp 15))⟩,⟨some 17, .e (.mkSl 116 2 [(.int .u32 (0))] [(0, 1, (.tmp 13)), (1, 1, (.tmp 16))])⟩,⟨some 18, .call 83 [(.tmp 17)]⟩,⟨some 19, .call 82 [(.tmp 11), (.tmp 18)]⟩,
 ⟨none, .e (.store 2 (.tmp 2) (.tmp 19))⟩])
 (.ret)
noncomputable def c46 : ICode := .seq (.ops none [⟨some 2, .e (.alloc 81 [(.bool false), (.slice none 0 0)])⟩])
 (.seq (.ops none [gm 4 0,⟨some 5, .p (.conv .u64 (.tmp 4))⟩,gm 3 5])
 (.seq (.seq (.ops none [gm 6 0,⟨some 7, .p (.bin .lss (.tmp 6) (ci (0)))⟩])
 (.cond (.tmp 7) (.ops none [gm 8 3,⟨some 9, .p (.un .neg (.tmp 8))⟩,gm 3 9])
 (.skip)))
 (.cut [0, 2, 3] c46z5)))
theorem k46 : compFn Tryz.prog 46 [[], [], [], [0, 2, 3], []] = some (20, c46, [.cell true 2 2]) := by kernel_rfl
def K46z0 (_P : Program) (K : VK) : Kont := bodyP [.cell true 2 2] K
def p46z5 (n0 x2 u3 : Value) (h : Heap) : Prop := CutP (iwpP P c46z5 (K46z0 P K)) [0, 2, 3] [n0, x2, u3] h
theorem q46z5 (n0 x2 u3 : Value) (h : Heap) : p46z5 P K n0 x2 u3 h =
 (OP (iBin .lss n0 (.int .i64 (0))) fun x11 =>
 OP (iConv .u32 u3) fun x13 =>
 OP (iBin .shr u3 (.int .u64 (32))) fun x15 =>
 OP (iConv .u32 x15) fun x16 =>
 OH (iMkSl 116 2 [(.int .u32 (0))] h [(0, 1, x13), (1, 1, x16)]) fun x17 h_1 =>
 CallP P 83 [x17] h_1 fun x18 h_2 =>
 CallP P 82 [x11, x18] h_2 fun x19 h_3 =>
 OH (oStore 2 h_3 x2 x19) fun _ h_4 =>
 OP (iLoad true 2 h_4 x2) fun r0 =>
 K r0 h_4) := (CutP_def _ _ _ _).trans (by kernel_rfl)
def T46 (n0 : Value) (h : Heap) : Prop :=
 OH (iAlloc 81 [(.bool false), (.slice none 0 0)] h) fun x2 h_1 =>
 OP (iConv .u64 n0) fun x5 =>
 OP (iBin .lss n0 (.int .i64 (0))) fun x7 =>
 IfP x7
 (OP (iUn .neg x5) fun x9 =>
 p46z5 P K n0 x2 x9 h_1)
 (p46z5 P K n0 x2 x5 h_1)
theorem e46 (n0 : Value) (h : Heap) : iwpP P c46 (bodyP [.cell true 2 2] K) (frame0 [n0]) h = T46 P K n0 h := by kernel_rfl
theorem f46 {K : VK} {n0 : Value} {h : Heap} (H : T46 Tryz.prog K n0 h) : CallP Tryz.prog 46 [n0] h K :=
 callP_intro k46 (Nat.le_of_ble_eq_true rfl) ((e46 Tryz.prog K n0 h).mpr H)
/-! F48: (pommel/num.Int).Add -/
noncomputable def c48 : ICode := .seq (.ops none [⟨some 2, .e (.box 81 (.tmp 0))⟩,⟨some 3, .e (.box 81 (.tmp 1))⟩,⟨some 4, .e (.alloc 81 [(.bool false), (.slice none 0 0)])⟩])
 (.seq (.block 0 (.seq (.ops none [⟨some 6, .p (.fadr 0 (.tmp 2))⟩,⟨some 7, .l (.load false 1 (.tmp 6))⟩,⟨some 8, .p (.fadr 0 (.tmp 3))⟩,⟨some 9, .l (.load false 1 (.tmp 8))⟩,⟨some 10, .p (.eqb false (.tmp 7) (.tmp 9))⟩,gm 5 10])
 (.cond (.tmp 5) (.seq (.dops [(none, [⟨some 11, .p (.fadr 0 (.tmp 2)), 0⟩,⟨some 12, .l (.load false 1 (.tmp 11)), 1⟩,⟨some 13, .p (.fadr 1 (.tmp 2)), 0⟩,⟨some 14, .l (.load false 1 (.tmp 13)), 4⟩,⟨some 15, .p (.fadr 1 (.tmp 3)), 0⟩,⟨some 16, .l (.load false 1 (.tmp 15)), 16⟩,⟨some 17, .call 85 [(.tmp 14), (.tmp 16)], 60⟩,⟨some 18, .call 82 [(.tmp 12), (.tmp 17)], 127⟩,
 ⟨none, .e (.store 2 (.tmp 4) (.tmp 18)), 255⟩])])
 (.ret))
 (.seq (.ops none [⟨some 20, .p (.fadr 1 (.tmp 2))⟩,⟨some 21, .l (.load false 1 (.tmp 20))⟩,⟨some 22, .p (.fadr 1 (.tmp 3))⟩,⟨some 23, .l (.load false 1 (.tmp 22))⟩,⟨some 24, .call 86 [(.tmp 21), (.tmp 23)]⟩,⟨some 25, .p (.bin .geq (.tmp 24) (ci (0)))⟩,gm 19 25])
 (.cond (.tmp 19) (.seq (.dops [(none, [⟨some 26, .p (.fadr 0 (.tmp 2)), 0⟩,⟨some 27, .l (.load false 1 (.tmp 26)), 1⟩,⟨some 28, .p (.fadr 1 (.tmp 2)), 0⟩,⟨some 29, .l (.load false 1 (.tmp 28)), 4⟩,⟨some 30, .p (.fadr 1 (.tmp 3)), 0⟩,⟨some 31, .l (.load false 1 (.tmp 30)), 16⟩,⟨some 32, .call 87 [(.tmp 29), (.tmp 31)], 60⟩,⟨some 33, .call 82 [(.tmp 27), (.tmp 32)], 127⟩,
 ⟨none, .e (.store 2 (.tmp 4) (.tmp 33)), 255⟩])])
 (.ret))
 (.skip))))))
 (.seq (.dops [(none, [⟨some 34, .p (.fadr 0 (.tmp 3)), 0⟩,⟨some 35, .l (.load false 1 (.tmp 34)), 1⟩,⟨some 36, .p (.fadr 1 (.tmp 3)), 0⟩,⟨some 37, .l (.load false 1 (.tmp 36)), 4⟩,⟨some 38, .p (.fadr 1 (.tmp 2)), 0⟩,⟨some 39, .l (.load false 1 (.tmp 38)), 16⟩,⟨some 40, .call 87 [(.tmp 37), (.tmp 39)], 60⟩,⟨some 41, .call 82 [(.tmp 35), (.tmp 40)], 127⟩,
 ⟨none, .e (.store 2 (.tmp 4) (.tmp 41)), 255⟩])])
 (.ret)))
theorem k48 : compFn Tryz.prog 48 [[], [], [], [], [], [], []] = some (42, c48, [.cell true 2 4]) := by kernel_rfl
def T48 (a0 b1 : Value) (h : Heap) : Prop :=
 OH (iBox 81 h a0) fun a2 h_1 =>
 OH (iBox 81 h_1 b1) fun b3 h_2 =>
 OH (iAlloc 81 [(.bool false), (.slice none 0 0)] h_2) fun x4 h_3 =>
 OP (iFadr 0 a2) fun x6 =>
 OP (iLoad false 1 h_3 x6) fun x7 =>
 OP (iFadr 0 b3) fun x8 =>
 OP (iLoad false 1 h_3 x8) fun x9 =>
 OP (iEqb false x7 x9) fun x10 =>
 IfP x10
 (OP (iFadr 0 a2) fun x11 =>
 OP (iLoad false 1 h_3 x11) fun x12 =>
 (True) ∧
 OP (iFadr 1 a2) fun x13 =>
 OP (iLoad false 1 h_3 x13) fun x14 =>
 (True) ∧
 OP (iFadr 1 b3) fun x15 =>
 OP (iLoad false 1 h_3 x15) fun x16 =>
 (True) ∧
 CallP P 85 [x14, x16] h_3 fun x17 h_4 =>
 (iLoad false 1 h_4 x11 = some x12 ∧ True) ∧
 CallP P 82 [x12, x17] h_4 fun x18 h_5 =>
 (True) ∧
 OH (oStore 2 h_5 x4 x18) fun _ h_6 =>
 (True) ∧
 OP (iLoad true 2 h_6 x4) fun r0 =>
 K r0 h_6)
 (OP (iFadr 1 a2) fun x20 =>
 OP (iLoad false 1 h_3 x20) fun x21 =>
 OP (iFadr 1 b3) fun x22 =>
 OP (iLoad false 1 h_3 x22) fun x23 =>
 CallP P 86 [x21, x23] h_3 fun x24 h_4 =>
 OP (iBin .geq x24 (.int .i64 (0))) fun x25 =>
 IfP x25
 (OP (iFadr 0 a2) fun x26 =>
 OP (iLoad false 1 h_4 x26) fun x27 =>
 (True) ∧
 OP (iFadr 1 a2) fun x28 =>
 OP (iLoad false 1 h_4 x28) fun x29 =>
 (True) ∧
 OP (iFadr 1 b3) fun x30 =>
 OP (iLoad false 1 h_4 x30) fun x31 =>
 (True) ∧
 CallP P 87 [x29, x31] h_4 fun x32 h_5 =>
 (iLoad false 1 h_5 x26 = some x27 ∧ True) ∧
 CallP P 82 [x27, x32] h_5 fun x33 h_6 =>
 (True) ∧
 OH (oStore 2 h_6 x4 x33) fun _ h_7 =>
 (True) ∧
 OP (iLoad true 2 h_7 x4) fun r0 =>
 K r0 h_7)
 (OP (iFadr 0 b3) fun x34 =>
 OP (iLoad false 1 h_4 x34) fun x35 =>
 (True) ∧
 OP (iFadr 1 b3) fun x36 =>
 OP (iLoad false 1 h_4 x36) fun x37 =>
 (True) ∧
 OP (iFadr 1 a2) fun x38 =>
 OP (iLoad false 1 h_4 x38) fun x39 =>
 (True) ∧
 CallP P 87 [x37, x39] h_4 fun x40 h_5 =>
 (iLoad false 1 h_5 x34 = some x35 ∧ True) ∧
 CallP P 82 [x35, x40] h_5 fun x41 h_6 =>
 (True) ∧
 OH (oStore 2 h_6 x4 x41) fun _ h_7 =>
 (True) ∧
 OP (iLoad true 2 h_7 x4) fun r0 =>
 K r0 h_7))
theorem e48 (a0 b1 : Value) (h : Heap) : iwpP P c48 (bodyP [.cell true 2 4] K) (frame0 [a0, b1]) h = T48 P K a0 b1 h := by kernel_rfl
theorem f48 {K : VK} {a0 b1 : Value} {h : Heap} (H : T48 Tryz.prog K a0 b1 h) : CallP Tryz.prog 48 [a0, b1] h K :=
 callP_intro k48 (Nat.le_of_ble_eq_true rfl) ((e48 Tryz.prog K a0 b1 h).mpr H)
/-! F49: pommel/num.FromInt -/
noncomputable def c49 : ICode := .seq (.ops none [⟨some 1, .e (.box 81 (.tmp 0))⟩,⟨some 2, .e (.alloc 86 [(.bool false), (.slice none 0 0), (.bool false), (.slice none 0 0)])⟩])
 (.seq (.dops [(none, [⟨some 3, .l (.load true 2 (.tmp 1)), 0⟩,⟨some 4, .call 46 [(ci (1))], 0⟩,⟨some 5, .p (.build [(.bool false), (.slice none 0 0), (.bool false), (.slice none 0 0)] [(0, 2, (.tmp 3)), (2, 2, (.tmp 4))]), 3⟩,
 ⟨none, .e (.store 4 (.tmp 2) (.tmp 5)), 7⟩])])
 (.ret))
theorem k49 : compFn Tryz.prog 49 [[], []] = some (6, c49, [.cell true 4 2]) := by kernel_rfl
def T49 (n0 : Value) (h : Heap) : Prop :=
 OH (iBox 81 h n0) fun n1 h_1 =>
 OH (iAlloc 86 [(.bool false), (.slice none 0 0), (.bool false), (.slice none 0 0)] h_1) fun x2 h_2 =>
 OP (iLoad true 2 h_2 n1) fun x3 =>
 (True) ∧
 CallP P 46 [(.int .i64 (1))] h_2 fun x4 h_3 =>
 (iLoad true 2 h_3 n1 = some x3 ∧ True) ∧
 OP (iBuild [(.bool false), (.slice none 0 0), (.bool false), (.slice none 0 0)] [(0, 2, x3), (2, 2, x4)]) fun x5 =>
 OH (oStore 4 h_3 x2 x5) fun _ h_4 =>
 (True) ∧
 OP (iLoad true 4 h_4 x2) fun r0 =>
 K r0 h_4
theorem e49 (n0 : Value) (h : Heap) : iwpP P c49 (bodyP [.cell true 4 2] K) (frame0 [n0]) h = T49 P K n0 h := by kernel_rfl
theorem f49 {K : VK} {n0 : Value} {h : Heap} (H : T49 Tryz.prog K n0 h) : CallP Tryz.prog 49 [n0] h K :=
 callP_intro k49 (Nat.le_of_ble_eq_true rfl) ((e49 Tryz.prog K n0 h).mpr H)
/-! F82: pommel/num.made -/
noncomputable def c82z6 : ICode := .ops none [⟨some 10, .p (.pick (.tmp 6) (.tmp 9) (.const (.bool false)))⟩,gm 11 1,⟨some 12, .p (.build [(.bool false), (.slice none 0 0)] [(0, 1, (.tmp 10)), (1, 1, (.tmp 11))])⟩,
 ⟨none, .e (.store 2 (.tmp 4) (.tmp 12))⟩]
noncomputable def c82z4 : ICode := .seq (.ops (some (6, true)) [gm 7 1,⟨some 8, .p (.lenSl (.tmp 7))⟩,⟨some 9, .p (.bin .gtr (.tmp 8) (ci (0)))⟩])
 (.cut [1, 4, 6, 9] c82z6)
noncomputable def c82z2 : ICode := .ret
noncomputable def c82 : ICode := .seq (.ops none [⟨some 4, .e (.alloc 81 [(.bool false), (.slice none 0 0)])⟩])
 (.seq (.seq (.ops none [gm 5 0,gm 6 5])
 (.cut [1, 4, 6] c82z4)) c82z2)
theorem k82 : compFn Tryz.prog 82 [[], [1, 4, 6], [1, 4, 6, 9], []] = some (13, c82, [.cell true 2 4]) := by kernel_rfl
def K82z0 (_P : Program) (K : VK) : Kont := bodyP [.cell true 2 4] K
def K82z2 : Kont := thenK (iwpP P c82z2 (K82z0 P K)) (K82z0 P K)
def p82z4 (mag1 x4 x6 : Value) (h : Heap) : Prop := CutP (iwpP P c82z4 (K82z2 P K)) [1, 4, 6] [mag1, x4, x6] h
def p82z6 (mag1 x4 x6 x9 : Value) (h : Heap) : Prop := CutP (iwpP P c82z6 (K82z2 P K)) [1, 4, 6, 9] [mag1, x4, x6, x9] h
theorem q82z6 (mag1 x4 x6 x9 : Value) (h : Heap) : p82z6 P K mag1 x4 x6 x9 h =
 (OP (iPick x6 x9 (.bool false)) fun x10 =>
 OP (iBuild [(.bool false), (.slice none 0 0)] [(0, 1, x10), (1, 1, mag1)]) fun x12 =>
 OH (oStore 2 h x4 x12) fun _ h_1 =>
 OP (iLoad true 2 h_1 x4) fun r0 =>
 K r0 h_1) := (CutP_def _ _ _ _).trans (by kernel_rfl)
theorem q82z4 (mag1 x4 x6 : Value) (h : Heap) : p82z4 P K mag1 x4 x6 h =
 (GdP x6 true
 (OP (iLenSl mag1) fun x8 =>
 OP (iBin .gtr x8 (.int .i64 (0))) fun x9 =>
 p82z6 P K mag1 x4 x6 x9 h)
 (p82z6 P K mag1 x4 x6 undef h)) := (CutP_def _ _ _ _).trans (by kernel_rfl)
def T82 (neg0 mag1 : Value) (h : Heap) : Prop :=
 OH (iAlloc 81 [(.bool false), (.slice none 0 0)] h) fun x4 h_1 =>
 p82z4 P K mag1 x4 neg0 h_1
theorem e82 (neg0 mag1 : Value) (h : Heap) : iwpP P c82 (bodyP [.cell true 2 4] K) (frame0 [neg0, mag1]) h = T82 P K neg0 mag1 h := by kernel_rfl
theorem f82 {K : VK} {neg0 mag1 : Value} {h : Heap} (H : T82 Tryz.prog K neg0 mag1 h) : CallP Tryz.prog 82 [neg0, mag1] h K :=
 callP_intro k82 (Nat.le_of_ble_eq_true rfl) ((e82 Tryz.prog K neg0 mag1 h).mpr H)
/-! F83: pommel/num.trim -/
noncomputable def c83z10 : ICode := .ops none [⟨some 14, .p (.pick (.tmp 6) (.tmp 13) (.const (.bool false)))⟩]
noncomputable def c83z8 : ICode := .seq (.ops (some (6, true)) [gm 7 0,gm 8 0,⟨some 9, .p (.lenSl (.tmp 8))⟩,⟨some 10, .p (.bin .sub (.tmp 9) (ci (1)))⟩,⟨some 11, .p (.adrSl 1 (.tmp 7) (.tmp 10))⟩,⟨some 12, .l (.load false 1 (.tmp 11))⟩,⟨some 13, .p (.bin .eql (.tmp 12) (.const (.int .u32 (0))))⟩])
 (.cut [0, 6, 13] c83z10)
noncomputable def c83z6 : ICode := .cond (.tmp 14) (.skip)
 (.exit 0)
noncomputable def c83z5 : ICode := .block 1 (.ops none [gm 15 0,gm 16 0,⟨some 17, .p (.lenSl (.tmp 16))⟩,⟨some 18, .p (.bin .sub (.tmp 17) (ci (1)))⟩,⟨some 19, .p (.slSl 116 1 (.tmp 15) none (some (.tmp 18)))⟩,gm 0 19])
noncomputable def c83z4 : ICode := .seq (.seq (.seq (.ops none [gm 3 0,⟨some 4, .p (.lenSl (.tmp 3))⟩,⟨some 5, .p (.bin .gtr (.tmp 4) (ci (0)))⟩,gm 6 5])
 (.cut [0, 6] c83z8)) c83z6) c83z5
noncomputable def c83z12 : ICode := .seq (.ops none [gm 20 0,gm 2 20])
 (.ret)
noncomputable def c83z2 : ICode := .cut [0] c83z12
noncomputable def c83 : ICode := .seq (.ops none [⟨some 2, .p (.mv (.const (.slice none 0 0)))⟩])
 (.seq (.block 0 (.loop [] [0] c83z4)) c83z2)
theorem k83 : compFn Tryz.prog 83 [[], [], [0], [0, 6], [0, 6, 13], [], [], [0], []] = some (21, c83, [.tmp 2]) := by kernel_rfl
def K83z0 (_P : Program) (K : VK) : Kont := bodyP [.tmp 2] K
def K83z2 : Kont := thenK (iwpP P c83z2 (K83z0 P K)) (K83z0 P K)
def K83z3 : Kont := inBlockK 0 (K83z2 P K)
def K83z4 (L1 : LK) : Kont := thenK (fun f' h'' => (([] : List Nat).map f' : List Value) = [] ∧ L1 (([0] : List Nat).map f') h'') (K83z3 P K)
def K83z5 (L1 : LK) : Kont := thenK (iwpP P c83z5 (K83z4 P K L1)) (K83z4 P K L1)
def K83z6 (L1 : LK) : Kont := thenK (iwpP P c83z6 (K83z5 P K L1)) (K83z5 P K L1)
def p83z4 (L1 : LK) (xs : List Value) (h : Heap) : Prop := CutP (iwpP P c83z4 (K83z4 P K L1)) ([] ++ [0]) ([] ++ xs) h
def p83z8 (x0 x6 : Value) (L1 : LK) (h : Heap) : Prop := CutP (iwpP P c83z8 (K83z6 P K L1)) [0, 6] [x0, x6] h
def p83z10 (x0 x6 x13 : Value) (L1 : LK) (h : Heap) : Prop := CutP (iwpP P c83z10 (K83z6 P K L1)) [0, 6, 13] [x0, x6, x13] h
def p83z12 (x0 : Value) (h : Heap) : Prop := CutP (iwpP P c83z12 (K83z0 P K)) [0] [x0] h
theorem q83z10 (x0 x6 x13 : Value) (L1 : LK) (h : Heap) : p83z10 P K x0 x6 x13 L1 h =
 (OP (iPick x6 x13 (.bool false)) fun x14 =>
 IfP x14
 (OP (iLenSl x0) fun x17 =>
 OP (iBin .sub x17 (.int .i64 (1))) fun x18 =>
 OP (iSlSl 116 1 x0 none (some x18)) fun x19 =>
 ([] : List Value) = [] ∧ L1 [x19] h)
 (p83z12 P K x0 h)) := (CutP_def _ _ _ _).trans (by kernel_rfl)
theorem q83z8 (x0 x6 : Value) (L1 : LK) (h : Heap) : p83z8 P K x0 x6 L1 h =
 (GdP x6 true
 (OP (iLenSl x0) fun x9 =>
 OP (iBin .sub x9 (.int .i64 (1))) fun x10 =>
 OP (iAdrSl 1 x0 x10) fun x11 =>
 OP (iLoad false 1 h x11) fun x12 =>
 OP (iBin .eql x12 (.int .u32 (0))) fun x13 =>
 p83z10 P K x0 x6 x13 L1 h)
 (p83z10 P K x0 x6 undef L1 h)) := (CutP_def _ _ _ _).trans (by kernel_rfl)
theorem q83z4 (L1 : LK) (x0 : Value) (h : Heap) : p83z4 P K L1 [x0] h =
 (OP (iLenSl x0) fun x4 =>
 OP (iBin .gtr x4 (.int .i64 (0))) fun x5 =>
 p83z8 P K x0 x5 L1 h) := (CutP_def _ _ _ _).trans (by kernel_rfl)
theorem q83z12 (x0 : Value) (h : Heap) : p83z12 P K x0 h =
 (K x0 h) := (CutP_def _ _ _ _).trans (by kernel_rfl)
def T83 (x0 : Value) (h : Heap) : Prop :=
 LoopP [x0] h fun L1 xs hx =>
 p83z4 P K L1 xs hx
theorem e83 (x0 : Value) (h : Heap) : iwpP P c83 (bodyP [.tmp 2] K) (frame0 [x0]) h = T83 P K x0 h := by kernel_rfl
theorem f83 {K : VK} {x0 : Value} {h : Heap} (H : T83 Tryz.prog K x0 h) : CallP Tryz.prog 83 [x0] h K :=
 callP_intro k83 (Nat.le_of_ble_eq_true rfl) ((e83 Tryz.prog K x0 h).mpr H)
/-! F85: pommel/num.plus -/
noncomputable def c85z19 : ICode := .ops none [gm 34 5,gm 35 7,gm 36 0,gm 37 7,⟨some 38, .p (.adrSl 1 (.tmp 36) (.tmp 37))⟩,⟨some 39, .l (.load false 1 (.tmp 38))⟩,gm 40 8,gm 41 6,⟨some 42, .call 114 [(.tmp 39), (.tmp 40), (.tmp 41)]⟩,gm 33 42,⟨some 43, .p (.ext (.tmp 33) 0)⟩,⟨some 44, .p (.ext (.tmp 33) 1)⟩,⟨some 45, .p (.adrSl 1 (.tmp 34) (.tmp 35))⟩,
 ⟨none, .e (.store 1 (.tmp 45) (.tmp 43))⟩,gm 6 44]
noncomputable def c85z20 : ICode := .ops none [⟨some 46, .p (.bin .add (.tmp 22) (ci (1)))⟩,gm 22 46]
noncomputable def c85z13 : ICode := .cut [0, 1, 5, 6, 21, 22] c85z20
noncomputable def c85z10 : ICode := .seq (.ops none [⟨some 23, .p (.bin .lss (.tmp 22) (.tmp 21))⟩])
 (.seq (.cond (.tmp 23) (.skip)
 (.exit 0))
 (.seq (.block 1 (.seq (.ops none [gm 24 22,gm 7 24])
 (.seq (.ops none [⟨some 8, .p (.mv (.const (.int .u32 (0))))⟩])
 (.seq (.seq (.ops none [gm 25 7,gm 26 1,⟨some 27, .p (.lenSl (.tmp 26))⟩,⟨some 28, .p (.bin .lss (.tmp 25) (.tmp 27))⟩])
 (.cond (.tmp 28) (.ops none [gm 29 1,gm 30 7,⟨some 31, .p (.adrSl 1 (.tmp 29) (.tmp 30))⟩,⟨some 32, .l (.load false 1 (.tmp 31))⟩,gm 8 32])
 (.skip)))
 (.cut [0, 1, 5, 6, 7, 8, 21, 22] c85z19))))) c85z13))
noncomputable def c85z21 : ICode := .seq (.ops none [gm 47 5,gm 48 0,⟨some 49, .p (.lenSl (.tmp 48))⟩,gm 50 6,⟨some 51, .p (.adrSl 1 (.tmp 47) (.tmp 49))⟩,
 ⟨none, .e (.store 1 (.tmp 51) (.tmp 50))⟩])
 (.seq (.ops none [gm 52 5,⟨some 53, .call 83 [(.tmp 52)]⟩,gm 4 53])
 (.ret))
noncomputable def c85z7 : ICode := .cut [0, 5, 6] c85z21
noncomputable def c85z4 : ICode := .seq (.ops none [gm 16 0,⟨some 17, .p (.lenSl (.tmp 16))⟩,⟨some 18, .p (.bin .add (.tmp 17) (ci (1)))⟩,⟨some 19, .e (.make 116 4 [(.int .u32 (0))] (.tmp 18) (.tmp 18))⟩,gm 5 19])
 (.seq (.ops none [⟨some 6, .p (.mv (.const (.int .u32 (0))))⟩])
 (.seq (.seq (.ops none [gm 20 0,⟨some 21, .p (.lenSl (.tmp 20))⟩,⟨some 22, .p (.mv (ci (0)))⟩])
 (.block 0 (.loop [0, 1, 5, 21] [6, 22] c85z10))) c85z7))
noncomputable def c85 : ICode := .seq (.ops none [⟨some 4, .p (.mv (.const (.slice none 0 0)))⟩])
 (.seq (.seq (.ops none [gm 9 0,⟨some 10, .p (.lenSl (.tmp 9))⟩,gm 11 1,⟨some 12, .p (.lenSl (.tmp 11))⟩,⟨some 13, .p (.bin .lss (.tmp 10) (.tmp 12))⟩])
 (.cond (.tmp 13) (.ops none [gm 14 1,gm 15 0,gm 0 14,gm 1 15])
 (.skip)))
 (.cut [0, 1] c85z4))
theorem k85 : compFn Tryz.prog 85 [[], [], [0, 1], [], [], [], [0, 1, 5, 21], [6, 22], [], [], [], [], [], [0, 1, 5, 6, 7, 8, 21, 22], [0, 1, 5, 6, 21, 22], [0, 5, 6], [], []] = some (54, c85, [.tmp 4]) := by kernel_rfl
def K85z0 (_P : Program) (K : VK) : Kont := bodyP [.tmp 4] K
def K85z7 : Kont := thenK (iwpP P c85z7 (K85z0 P K)) (K85z0 P K)
def K85z9 : Kont := inBlockK 0 (K85z7 P K)
def K85z10 (a0 b1 out5 x21 : Value) (L1 : LK) : Kont := thenK (fun f' h'' => (([0, 1, 5, 21] : List Nat).map f' : List Value) = [a0, b1, out5, x21] ∧ L1 (([6, 22] : List Nat).map f') h'') (K85z9 P K)
def K85z13 (a0 b1 out5 x21 : Value) (L1 : LK) : Kont := thenK (iwpP P c85z13 (K85z10 P K a0 b1 out5 x21 L1)) (K85z10 P K a0 b1 out5 x21 L1)
def K85z14 (a0 b1 out5 x21 : Value) (L1 : LK) : Kont := inBlockK 1 (K85z13 P K a0 b1 out5 x21 L1)
def p85z4 (a0 b1 : Value) (h : Heap) : Prop := CutP (iwpP P c85z4 (K85z0 P K)) [0, 1] [a0, b1] h
def p85z10 (a0 b1 out5 x21 : Value) (L1 : LK) (xs : List Value) (h : Heap) : Prop := CutP (iwpP P c85z10 (K85z10 P K a0 b1 out5 x21 L1)) ([0, 1, 5, 21] ++ [6, 22]) ([a0, b1, out5, x21] ++ xs) h
def p85z19 (a0 b1 out5 carry6 i7 y8 x21 x22 : Value) (L1 : LK) (h : Heap) : Prop := CutP (iwpP P c85z19 (K85z14 P K a0 b1 out5 x21 L1)) [0, 1, 5, 6, 7, 8, 21, 22] [a0, b1, out5, carry6, i7, y8, x21, x22] h
def p85z20 (a0 b1 out5 carry6 x21 x22 : Value) (L1 : LK) (h : Heap) : Prop := CutP (iwpP P c85z20 (K85z10 P K a0 b1 out5 x21 L1)) [0, 1, 5, 6, 21, 22] [a0, b1, out5, carry6, x21, x22] h
def p85z21 (a0 out5 carry6 : Value) (h : Heap) : Prop := CutP (iwpP P c85z21 (K85z0 P K)) [0, 5, 6] [a0, out5, carry6] h
theorem q85z19 (a0 b1 out5 carry6 i7 y8 x21 x22 : Value) (L1 : LK) (h : Heap) : p85z19 P K a0 b1 out5 carry6 i7 y8 x21 x22 L1 h =
 (OP (iAdrSl 1 a0 i7) fun x38 =>
 OP (iLoad false 1 h x38) fun x39 =>
 CallP P 114 [x39, y8, carry6] h fun x42 h_1 =>
 OP (iExt 0 x42) fun x43 =>
 OP (iExt 1 x42) fun x44 =>
 OP (iAdrSl 1 out5 i7) fun x45 =>
 OH (oStore 1 h_1 x45 x43) fun _ h_2 =>
 p85z20 P K a0 b1 out5 x44 x21 x22 L1 h_2) := (CutP_def _ _ _ _).trans (by kernel_rfl)
theorem q85z20 (a0 b1 out5 carry6 x21 x22 : Value) (L1 : LK) (h : Heap) : p85z20 P K a0 b1 out5 carry6 x21 x22 L1 h =
 (OP (iBin .add x22 (.int .i64 (1))) fun x46 =>
 ([a0, b1, out5, x21] : List Value) = [a0, b1, out5, x21] ∧ L1 [carry6, x46] h) := (CutP_def _ _ _ _).trans (by kernel_rfl)
theorem q85z10 (a0 b1 out5 x21 : Value) (L1 : LK) (carry6 x22 : Value) (h : Heap) : p85z10 P K a0 b1 out5 x21 L1 [carry6, x22] h =
 (OP (iBin .lss x22 x21) fun x23 =>
 IfP x23
 (OP (iLenSl b1) fun x27 =>
 OP (iBin .lss x22 x27) fun x28 =>
 IfP x28
 (OP (iAdrSl 1 b1 x22) fun x31 =>
 OP (iLoad false 1 h x31) fun x32 =>
 p85z19 P K a0 b1 out5 carry6 x22 x32 x21 x22 L1 h)
 (p85z19 P K a0 b1 out5 carry6 x22 (.int .u32 (0)) x21 x22 L1 h))
 (p85z21 P K a0 out5 carry6 h)) := (CutP_def _ _ _ _).trans (by kernel_rfl)
theorem q85z21 (a0 out5 carry6 : Value) (h : Heap) : p85z21 P K a0 out5 carry6 h =
 (OP (iLenSl a0) fun x49 =>
 OP (iAdrSl 1 out5 x49) fun x51 =>
 OH (oStore 1 h x51 carry6) fun _ h_1 =>
 CallP P 83 [out5] h_1 fun x53 h_2 =>
 K x53 h_2) := (CutP_def _ _ _ _).trans (by kernel_rfl)
theorem q85z4 (a0 b1 : Value) (h : Heap) : p85z4 P K a0 b1 h =
 (OP (iLenSl a0) fun x17 =>
 OP (iBin .add x17 (.int .i64 (1))) fun x18 =>
 OH (iMake 116 4 [(.int .u32 (0))] h x18 x18) fun x19 h_1 =>
 OP (iLenSl a0) fun x21 =>
 LoopP [(.int .u32 (0)), (.int .i64 (0))] h_1 fun L1 xs hx =>
 p85z10 P K a0 b1 x19 x21 L1 xs hx) := (CutP_def _ _ _ _).trans (by kernel_rfl)
def T85 (a0 b1 : Value) (h : Heap) : Prop :=
 OP (iLenSl a0) fun x10 =>
 OP (iLenSl b1) fun x12 =>
 OP (iBin .lss x10 x12) fun x13 =>
 IfP x13
 (p85z4 P K b1 a0 h)
 (p85z4 P K a0 b1 h)
theorem e85 (a0 b1 : Value) (h : Heap) : iwpP P c85 (bodyP [.tmp 4] K) (frame0 [a0, b1]) h = T85 P K a0 b1 h := by kernel_rfl
theorem f85 {K : VK} {a0 b1 : Value} {h : Heap} (H : T85 Tryz.prog K a0 b1 h) : CallP Tryz.prog 85 [a0, b1] h K :=
 callP_intro k85 (Nat.le_of_ble_eq_true rfl) ((e85 Tryz.prog K a0 b1 h).mpr H)
/-! F86: pommel/num.compare -/
noncomputable def c86z11 : ICode := .seq (.seq (.ops none [gm 19 5,⟨some 20, .p (.bin .geq (.tmp 19) (ci (0)))⟩])
 (.cond (.tmp 20) (.skip)
 (.exit 0)))
 (.seq (.block 1 (.seq (.dops [(none, [gd 23 0 0,gd 24 5 0,⟨some 25, .p (.adrSl 1 (.tmp 23) (.tmp 24)), 3⟩,⟨some 26, .l (.load false 1 (.tmp 25)), 7⟩,gd 27 1 0,gd 28 5 0,⟨some 29, .p (.adrSl 1 (.tmp 27) (.tmp 28)), 48⟩,⟨some 30, .l (.load false 1 (.tmp 29)), 112⟩,⟨some 31, .p (.bin .neq (.tmp 26) (.tmp 30)), 255⟩])])
 (.cond (.tmp 31) (.seq (.seq (.dops [(none, [gd 32 0 0,gd 33 5 0,⟨some 34, .p (.adrSl 1 (.tmp 32) (.tmp 33)), 3⟩,⟨some 35, .l (.load false 1 (.tmp 34)), 7⟩,gd 36 1 0,gd 37 5 0,⟨some 38, .p (.adrSl 1 (.tmp 36) (.tmp 37)), 48⟩,⟨some 39, .l (.load false 1 (.tmp 38)), 112⟩,⟨some 40, .p (.bin .lss (.tmp 35) (.tmp 39)), 255⟩])])
 (.cond (.tmp 40) (.seq (.ops none [⟨some 4, .p (.mv (ci (-1)))⟩])
 (.ret))
 (.skip)))
 (.seq (.ops none [⟨some 4, .p (.mv (ci (1)))⟩])
 (.ret)))
 (.skip))))
 (.ops none [gm 21 5,⟨some 22, .p (.bin .sub (.tmp 21) (ci (1)))⟩,gm 5 22]))
noncomputable def c86z8 : ICode := .seq (.ops none [⟨some 4, .p (.mv (ci (0)))⟩])
 (.ret)
noncomputable def c86 : ICode := .seq (.ops none [⟨some 4, .p (.mv (ci (0)))⟩])
 (.seq (.seq (.ops none [gm 6 0,⟨some 7, .p (.lenSl (.tmp 6))⟩,gm 8 1,⟨some 9, .p (.lenSl (.tmp 8))⟩,⟨some 10, .p (.bin .neq (.tmp 7) (.tmp 9))⟩])
 (.cond (.tmp 10) (.seq (.seq (.ops none [gm 11 0,⟨some 12, .p (.lenSl (.tmp 11))⟩,gm 13 1,⟨some 14, .p (.lenSl (.tmp 13))⟩,⟨some 15, .p (.bin .lss (.tmp 12) (.tmp 14))⟩])
 (.cond (.tmp 15) (.seq (.ops none [⟨some 4, .p (.mv (ci (-1)))⟩])
 (.ret))
 (.skip)))
 (.seq (.ops none [⟨some 4, .p (.mv (ci (1)))⟩])
 (.ret)))
 (.skip)))
 (.seq (.seq (.ops none [gm 16 0,⟨some 17, .p (.lenSl (.tmp 16))⟩,⟨some 18, .p (.bin .sub (.tmp 17) (ci (1)))⟩,gm 5 18])
 (.block 0 (.loop [0, 1] [5] c86z11))) c86z8))
theorem k86 : compFn Tryz.prog 86 [[], [], [], [], [], [], [], [], [0, 1], [5], [], [], [], [], [], [], [], [], [], []] = some (41, c86, [.tmp 4]) := by kernel_rfl
def K86z0 (_P : Program) (K : VK) : Kont := bodyP [.tmp 4] K
def K86z8 : Kont := thenK (iwpP P c86z8 (K86z0 P K)) (K86z0 P K)
def K86z10 : Kont := inBlockK 0 (K86z8 P K)
def K86z11 (a0 b1 : Value) (L1 : LK) : Kont := thenK (fun f' h'' => (([0, 1] : List Nat).map f' : List Value) = [a0, b1] ∧ L1 (([5] : List Nat).map f') h'') (K86z10 P K)
def p86z11 (a0 b1 : Value) (L1 : LK) (xs : List Value) (h : Heap) : Prop := CutP (iwpP P c86z11 (K86z11 P K a0 b1 L1)) ([0, 1] ++ [5]) ([a0, b1] ++ xs) h
theorem q86z11 (a0 b1 : Value) (L1 : LK) (i5 : Value) (h : Heap) : p86z11 P K a0 b1 L1 [i5] h =
 (OP (iBin .geq i5 (.int .i64 (0))) fun x20 =>
 IfP x20
 (OP (iAdrSl 1 a0 i5) fun x25 =>
 OP (iLoad false 1 h x25) fun x26 =>
 (True) ∧
 OP (iAdrSl 1 b1 i5) fun x29 =>
 OP (iLoad false 1 h x29) fun x30 =>
 (True) ∧
 OP (iBin .neq x26 x30) fun x31 =>
 IfP x31
 (OP (iAdrSl 1 a0 i5) fun x34 =>
 OP (iLoad false 1 h x34) fun x35 =>
 (True) ∧
 OP (iAdrSl 1 b1 i5) fun x38 =>
 OP (iLoad false 1 h x38) fun x39 =>
 (True) ∧
 OP (iBin .lss x35 x39) fun x40 =>
 IfP x40
 (K (.int .i64 (-1)) h)
 (K (.int .i64 (1)) h))
 (OP (iBin .sub i5 (.int .i64 (1))) fun x22 =>
 ([a0, b1] : List Value) = [a0, b1] ∧ L1 [x22] h))
 (K (.int .i64 (0)) h)) := (CutP_def _ _ _ _).trans (by kernel_rfl)
def T86 (a0 b1 : Value) (h : Heap) : Prop :=
 OP (iLenSl a0) fun x7 =>
 OP (iLenSl b1) fun x9 =>
 OP (iBin .neq x7 x9) fun x10 =>
 IfP x10
 (OP (iLenSl a0) fun x12 =>
 OP (iLenSl b1) fun x14 =>
 OP (iBin .lss x12 x14) fun x15 =>
 IfP x15
 (K (.int .i64 (-1)) h)
 (K (.int .i64 (1)) h))
 (OP (iLenSl a0) fun x17 =>
 OP (iBin .sub x17 (.int .i64 (1))) fun x18 =>
 LoopP [x18] h fun L1 xs hx =>
 p86z11 P K a0 b1 L1 xs hx)
theorem e86 (a0 b1 : Value) (h : Heap) : iwpP P c86 (bodyP [.tmp 4] K) (frame0 [a0, b1]) h = T86 P K a0 b1 h := by kernel_rfl
theorem f86 {K : VK} {a0 b1 : Value} {h : Heap} (H : T86 Tryz.prog K a0 b1 h) : CallP Tryz.prog 86 [a0, b1] h K :=
 callP_intro k86 (Nat.le_of_ble_eq_true rfl) ((e86 Tryz.prog K a0 b1 h).mpr H)
/-! F87: pommel/num.minus -/
noncomputable def c87z16 : ICode := .ops none [gm 26 5,gm 27 7,gm 28 0,gm 29 7,⟨some 30, .p (.adrSl 1 (.tmp 28) (.tmp 29))⟩,⟨some 31, .l (.load false 1 (.tmp 30))⟩,gm 32 8,gm 33 6,⟨some 34, .call 115 [(.tmp 31), (.tmp 32), (.tmp 33)]⟩,gm 25 34,⟨some 35, .p (.ext (.tmp 25) 0)⟩,⟨some 36, .p (.ext (.tmp 25) 1)⟩,⟨some 37, .p (.adrSl 1 (.tmp 26) (.tmp 27))⟩,
 ⟨none, .e (.store 1 (.tmp 37) (.tmp 35))⟩,gm 6 36]
noncomputable def c87z17 : ICode := .ops none [⟨some 38, .p (.bin .add (.tmp 14) (ci (1)))⟩,gm 14 38]
noncomputable def c87z10 : ICode := .cut [0, 1, 5, 6, 13, 14] c87z17
noncomputable def c87z7 : ICode := .seq (.ops none [⟨some 15, .p (.bin .lss (.tmp 14) (.tmp 13))⟩])
 (.seq (.cond (.tmp 15) (.skip)
 (.exit 0))
 (.seq (.block 1 (.seq (.ops none [gm 16 14,gm 7 16])
 (.seq (.ops none [⟨some 8, .p (.mv (.const (.int .u32 (0))))⟩])
 (.seq (.seq (.ops none [gm 17 7,gm 18 1,⟨some 19, .p (.lenSl (.tmp 18))⟩,⟨some 20, .p (.bin .lss (.tmp 17) (.tmp 19))⟩])
 (.cond (.tmp 20) (.ops none [gm 21 1,gm 22 7,⟨some 23, .p (.adrSl 1 (.tmp 21) (.tmp 22))⟩,⟨some 24, .l (.load false 1 (.tmp 23))⟩,gm 8 24])
 (.skip)))
 (.cut [0, 1, 5, 6, 7, 8, 13, 14] c87z16))))) c87z10))
noncomputable def c87z18 : ICode := .seq (.ops none [gm 39 5,⟨some 40, .call 83 [(.tmp 39)]⟩,gm 4 40])
 (.ret)
noncomputable def c87z4 : ICode := .cut [5] c87z18
noncomputable def c87 : ICode := .seq (.ops none [⟨some 4, .p (.mv (.const (.slice none 0 0)))⟩])
 (.seq (.ops none [gm 9 0,⟨some 10, .p (.lenSl (.tmp 9))⟩,⟨some 11, .e (.make 116 4 [(.int .u32 (0))] (.tmp 10) (.tmp 10))⟩,gm 5 11])
 (.seq (.ops none [⟨some 6, .p (.mv (.const (.int .u32 (0))))⟩])
 (.seq (.seq (.ops none [gm 12 0,⟨some 13, .p (.lenSl (.tmp 12))⟩,⟨some 14, .p (.mv (ci (0)))⟩])
 (.block 0 (.loop [0, 1, 5, 13] [6, 14] c87z7))) c87z4)))
theorem k87 : compFn Tryz.prog 87 [[], [], [], [], [0, 1, 5, 13], [6, 14], [], [], [], [], [], [0, 1, 5, 6, 7, 8, 13, 14], [0, 1, 5, 6, 13, 14], [5], []] = some (41, c87, [.tmp 4]) := by kernel_rfl
def K87z0 (_P : Program) (K : VK) : Kont := bodyP [.tmp 4] K
def K87z4 : Kont := thenK (iwpP P c87z4 (K87z0 P K)) (K87z0 P K)
def K87z6 : Kont := inBlockK 0 (K87z4 P K)
def K87z7 (a0 b1 out5 x13 : Value) (L1 : LK) : Kont := thenK (fun f' h'' => (([0, 1, 5, 13] : List Nat).map f' : List Value) = [a0, b1, out5, x13] ∧ L1 (([6, 14] : List Nat).map f') h'') (K87z6 P K)
def K87z10 (a0 b1 out5 x13 : Value) (L1 : LK) : Kont := thenK (iwpP P c87z10 (K87z7 P K a0 b1 out5 x13 L1)) (K87z7 P K a0 b1 out5 x13 L1)
def K87z11 (a0 b1 out5 x13 : Value) (L1 : LK) : Kont := inBlockK 1 (K87z10 P K a0 b1 out5 x13 L1)
def p87z7 (a0 b1 out5 x13 : Value) (L1 : LK) (xs : List Value) (h : Heap) : Prop := CutP (iwpP P c87z7 (K87z7 P K a0 b1 out5 x13 L1)) ([0, 1, 5, 13] ++ [6, 14]) ([a0, b1, out5, x13] ++ xs) h
def p87z16 (a0 b1 out5 borrow6 i7 y8 x13 x14 : Value) (L1 : LK) (h : Heap) : Prop := CutP (iwpP P c87z16 (K87z11 P K a0 b1 out5 x13 L1)) [0, 1, 5, 6, 7, 8, 13, 14] [a0, b1, out5, borrow6, i7, y8, x13, x14] h
def p87z17 (a0 b1 out5 borrow6 x13 x14 : Value) (L1 : LK) (h : Heap) : Prop := CutP (iwpP P c87z17 (K87z7 P K a0 b1 out5 x13 L1)) [0, 1, 5, 6, 13, 14] [a0, b1, out5, borrow6, x13, x14] h
def p87z18 (out5 : Value) (h : Heap) : Prop := CutP (iwpP P c87z18 (K87z0 P K)) [5] [out5] h
theorem q87z16 (a0 b1 out5 borrow6 i7 y8 x13 x14 : Value) (L1 : LK) (h : Heap) : p87z16 P K a0 b1 out5 borrow6 i7 y8 x13 x14 L1 h =
 (OP (iAdrSl 1 a0 i7) fun x30 =>
 OP (iLoad false 1 h x30) fun x31 =>
 CallP P 115 [x31, y8, borrow6] h fun x34 h_1 =>
 OP (iExt 0 x34) fun x35 =>
 OP (iExt 1 x34) fun x36 =>
 OP (iAdrSl 1 out5 i7) fun x37 =>
 OH (oStore 1 h_1 x37 x35) fun _ h_2 =>
 p87z17 P K a0 b1 out5 x36 x13 x14 L1 h_2) := (CutP_def _ _ _ _).trans (by kernel_rfl)
theorem q87z17 (a0 b1 out5 borrow6 x13 x14 : Value) (L1 : LK) (h : Heap) : p87z17 P K a0 b1 out5 borrow6 x13 x14 L1 h =
 (OP (iBin .add x14 (.int .i64 (1))) fun x38 =>
 ([a0, b1, out5, x13] : List Value) = [a0, b1, out5, x13] ∧ L1 [borrow6, x38] h) := (CutP_def _ _ _ _).trans (by kernel_rfl)
theorem q87z7 (a0 b1 out5 x13 : Value) (L1 : LK) (borrow6 x14 : Value) (h : Heap) : p87z7 P K a0 b1 out5 x13 L1 [borrow6, x14] h =
 (OP (iBin .lss x14 x13) fun x15 =>
 IfP x15
 (OP (iLenSl b1) fun x19 =>
 OP (iBin .lss x14 x19) fun x20 =>
 IfP x20
 (OP (iAdrSl 1 b1 x14) fun x23 =>
 OP (iLoad false 1 h x23) fun x24 =>
 p87z16 P K a0 b1 out5 borrow6 x14 x24 x13 x14 L1 h)
 (p87z16 P K a0 b1 out5 borrow6 x14 (.int .u32 (0)) x13 x14 L1 h))
 (p87z18 P K out5 h)) := (CutP_def _ _ _ _).trans (by kernel_rfl)
theorem q87z18 (out5 : Value) (h : Heap) : p87z18 P K out5 h =
 (CallP P 83 [out5] h fun x40 h_1 =>
 K x40 h_1) := (CutP_def _ _ _ _).trans (by kernel_rfl)
def T87 (a0 b1 : Value) (h : Heap) : Prop :=
 OP (iLenSl a0) fun x10 =>
 OH (iMake 116 4 [(.int .u32 (0))] h x10 x10) fun x11 h_1 =>
 OP (iLenSl a0) fun x13 =>
 LoopP [(.int .u32 (0)), (.int .i64 (0))] h_1 fun L1 xs hx =>
 p87z7 P K a0 b1 x11 x13 L1 xs hx
theorem e87 (a0 b1 : Value) (h : Heap) : iwpP P c87 (bodyP [.tmp 4] K) (frame0 [a0, b1]) h = T87 P K a0 b1 h := by kernel_rfl
theorem f87 {K : VK} {a0 b1 : Value} {h : Heap} (H : T87 Tryz.prog K a0 b1 h) : CallP Tryz.prog 87 [a0, b1] h K :=
 callP_intro k87 (Nat.le_of_ble_eq_true rfl) ((e87 Tryz.prog K a0 b1 h).mpr H)
/-! F105: (pommel/num.Int).Mul -/
/-! F114: math/bits.Add32 -/
noncomputable def c114 : ICode := .seq (.ops none [⟨some 6, .p (.mv (.const (.int .u32 (0))))⟩,⟨some 7, .p (.mv (.const (.int .u32 (0))))⟩])
 (.seq (.ops none [gm 9 0,⟨some 10, .p (.conv .u64 (.tmp 9))⟩,gm 11 1,⟨some 12, .p (.conv .u64 (.tmp 11))⟩,⟨some 13, .p (.bin .add (.tmp 10) (.tmp 12))⟩,gm 14 2,⟨some 15, .p (.conv .u64 (.tmp 14))⟩,⟨some 16, .p (.bin .add (.tmp 13) (.tmp 15))⟩,gm 8 16])
 (.seq (.ops none [gm 17 8,⟨some 18, .p (.conv .u32 (.tmp 17))⟩,gm 6 18])
 (.seq (.ops none [gm 19 8,⟨some 20, .p (.bin .shr (.tmp 19) (.const (.int .u64 (32))))⟩,⟨some 21, .p (.conv .u32 (.tmp 20))⟩,gm 7 21])
 (.ret))))
theorem k114 : compFn Tryz.prog 114 [[], [], [], []] = some (22, c114, [.tmp 6, .tmp 7]) := by kernel_rfl
def T114 (P : Program) (K : VK) (x0 y1 carry2 : Value) (h : Heap) : Prop :=
 OP (iConv .u64 x0) fun x10 =>
 OP (iConv .u64 y1) fun x12 =>
 OP (iBin .add x10 x12) fun x13 =>
 OP (iConv .u64 carry2) fun x15 =>
 OP (iBin .add x13 x15) fun x16 =>
 OP (iConv .u32 x16) fun x18 =>
 OP (iBin .shr x16 (.int .u64 (32))) fun x20 =>
 OP (iConv .u32 x20) fun x21 =>
 K (.tuple #[x18, x21]) h
theorem e114 (x0 y1 carry2 : Value) (h : Heap) : iwpP P c114 (bodyP [.tmp 6, .tmp 7] K) (frame0 [x0, y1, carry2]) h = T114 P K x0 y1 carry2 h := by kernel_rfl
theorem f114 {K : VK} {x0 y1 carry2 : Value} {h : Heap} (H : T114 Tryz.prog K x0 y1 carry2 h) : CallP Tryz.prog 114 [x0, y1, carry2] h K :=
 callP_intro k114 (Nat.le_of_ble_eq_true rfl) ((e114 Tryz.prog K x0 y1 carry2 h).mpr H)
/-! F115: math/bits.Sub32 -/
noncomputable def c115 : ICode := .seq (.ops none [⟨some 6, .p (.mv (.const (.int .u32 (0))))⟩,⟨some 7, .p (.mv (.const (.int .u32 (0))))⟩])
 (.seq (.ops none [gm 8 0,gm 9 1,⟨some 10, .p (.bin .sub (.tmp 8) (.tmp 9))⟩,gm 11 2,⟨some 12, .p (.bin .sub (.tmp 10) (.tmp 11))⟩,gm 6 12])
 (.seq (.ops none [gm 13 0,⟨some 14, .p (.un .xor (.tmp 13))⟩,gm 15 1,⟨some 16, .p (.bin .and (.tmp 14) (.tmp 15))⟩,gm 17 0,gm 18 1,⟨some 19, .p (.bin .xor (.tmp 17) (.tmp 18))⟩,⟨some 20, .p (.un .xor (.tmp 19))⟩,gm 21 6,⟨some 22, .p (.bin .and (.tmp 20) (.tmp 21))⟩,⟨some 23, .p (.bin .or (.tmp 16) (.tmp 22))⟩,⟨some 24, .p (.bin .shr (.tmp 23) (.const (.int .u64 (31))))⟩,gm 7 24])
 (.ret)))
theorem k115 : compFn Tryz.prog 115 [[], [], []] = some (25, c115, [.tmp 6, .tmp 7]) := by kernel_rfl
def T115 (P : Program) (K : VK) (x0 y1 borrow2 : Value) (h : Heap) : Prop :=
 OP (iBin .sub x0 y1) fun x10 =>
 OP (iBin .sub x10 borrow2) fun x12 =>
 OP (iUn .xor x0) fun x14 =>
 OP (iBin .and x14 y1) fun x16 =>
 OP (iBin .xor x0 y1) fun x19 =>
 OP (iUn .xor x19) fun x20 =>
 OP (iBin .and x20 x12) fun x22 =>
 OP (iBin .or x16 x22) fun x23 =>
 OP (iBin .shr x23 (.int .u64 (31))) fun x24 =>
 K (.tuple #[x12, x24]) h
theorem e115 (x0 y1 borrow2 : Value) (h : Heap) : iwpP P c115 (bodyP [.tmp 6, .tmp 7] K) (frame0 [x0, y1, borrow2]) h = T115 P K x0 y1 borrow2 h := by kernel_rfl
theorem f115 {K : VK} {x0 y1 borrow2 : Value} {h : Heap} (H : T115 Tryz.prog K x0 y1 borrow2 h) : CallP Tryz.prog 115 [x0, y1, borrow2] h K :=
 callP_intro k115 (Nat.le_of_ble_eq_true rfl) ((e115 Tryz.prog K x0 y1 borrow2 h).mpr H)
/-! F116: pommel/num.byWord -/
noncomputable def c116z7 : ICode := .seq (.seq (.ops none [gm 16 8,⟨some 17, .p (.bin .geq (.tmp 16) (ci (0)))⟩])
 (.cond (.tmp 17) (.skip)
 (.exit 0)))
 (.seq (.block 1 (.seq (.ops none [gm 20 7,⟨some 21, .p (.bin .shl (.tmp 20) (.const (.int .u64 (32))))⟩,gm 22 0,gm 23 8,⟨some 24, .p (.adrSl 1 (.tmp 22) (.tmp 23))⟩,⟨some 25, .l (.load false 1 (.tmp 24))⟩,⟨some 26, .p (.conv .u64 (.tmp 25))⟩,⟨some 27, .p (.bin .or (.tmp 21) (.tmp 26))⟩,gm 9 27])
 (.dops [(none, [gd 28 6 0,gd 29 8 0,gd 30 9 0,gd 31 1 0,⟨some 32, .p (.conv .u64 (.tmp 31)), 8⟩,⟨some 33, .p (.bin .quo (.tmp 30) (.tmp 32)), 28⟩,⟨some 34, .p (.conv .u32 (.tmp 33)), 60⟩,gd 35 9 0,gd 36 1 0,⟨some 37, .p (.conv .u64 (.tmp 36)), 256⟩,⟨some 38, .p (.bin .rem (.tmp 35) (.tmp 37)), 896⟩,⟨some 39, .p (.adrSl 1 (.tmp 28) (.tmp 29)), 127⟩,
 ⟨none, .e (.store 1 (.tmp 39) (.tmp 34)), 2175⟩,gd 7 38 8191])])))
 (.ops none [gm 18 8,⟨some 19, .p (.bin .sub (.tmp 18) (ci (1)))⟩,gm 8 19]))
noncomputable def c116z13 : ICode := .seq (.ops none [gm 40 6,⟨some 41, .call 83 [(.tmp 40)]⟩,gm 42 7,⟨some 43, .p (.conv .u32 (.tmp 42))⟩,gm 4 41,gm 5 43])
 (.ret)
noncomputable def c116z4 : ICode := .cut [6, 7] c116z13
noncomputable def c116 : ICode := .seq (.ops none [⟨some 4, .p (.mv (.const (.slice none 0 0)))⟩,⟨some 5, .p (.mv (.const (.int .u32 (0))))⟩])
 (.seq (.ops none [gm 10 0,⟨some 11, .p (.lenSl (.tmp 10))⟩,⟨some 12, .e (.make 116 4 [(.int .u32 (0))] (.tmp 11) (.tmp 11))⟩,gm 6 12])
 (.seq (.ops none [⟨some 7, .p (.mv (.const (.int .u64 (0))))⟩])
 (.seq (.seq (.ops none [gm 13 0,⟨some 14, .p (.lenSl (.tmp 13))⟩,⟨some 15, .p (.bin .sub (.tmp 14) (ci (1)))⟩,gm 8 15])
 (.block 0 (.loop [0, 1, 6] [7, 8] c116z7))) c116z4)))
theorem k116 : compFn Tryz.prog 116 [[], [], [], [], [0, 1, 6], [7, 8], [], [], [], [], [6, 7], []] = some (44, c116, [.tmp 4, .tmp 5]) := by kernel_rfl
def K116z0 (_P : Program) (K : VK) : Kont := bodyP [.tmp 4, .tmp 5] K
def K116z4 : Kont := thenK (iwpP P c116z4 (K116z0 P K)) (K116z0 P K)
def K116z6 : Kont := inBlockK 0 (K116z4 P K)
def K116z7 (a0 w1 out6 : Value) (L1 : LK) : Kont := thenK (fun f' h'' => (([0, 1, 6] : List Nat).map f' : List Value) = [a0, w1, out6] ∧ L1 (([7, 8] : List Nat).map f') h'') (K116z6 P K)
def p116z7 (a0 w1 out6 : Value) (L1 : LK) (xs : List Value) (h : Heap) : Prop := CutP (iwpP P c116z7 (K116z7 P K a0 w1 out6 L1)) ([0, 1, 6] ++ [7, 8]) ([a0, w1, out6] ++ xs) h
def p116z13 (out6 rest7 : Value) (h : Heap) : Prop := CutP (iwpP P c116z13 (K116z0 P K)) [6, 7] [out6, rest7] h
theorem q116z7 (a0 w1 out6 : Value) (L1 : LK) (rest7 i8 : Value) (h : Heap) : p116z7 P K a0 w1 out6 L1 [rest7, i8] h =
 (OP (iBin .geq i8 (.int .i64 (0))) fun x17 =>
 IfP x17
 (OP (iBin .shl rest7 (.int .u64 (32))) fun x21 =>
 OP (iAdrSl 1 a0 i8) fun x24 =>
 OP (iLoad false 1 h x24) fun x25 =>
 OP (iConv .u64 x25) fun x26 =>
 OP (iBin .or x21 x26) fun x27 =>
 OP (iConv .u64 w1) fun x32 =>
 OP (iBin .quo x27 x32) fun x33 =>
 OP (iConv .u32 x33) fun x34 =>
 OP (iConv .u64 w1) fun x37 =>
 OP (iBin .rem x27 x37) fun x38 =>
 OP (iAdrSl 1 out6 i8) fun x39 =>
 OH (oStore 1 h x39 x34) fun _ h_1 =>
 (True) ∧
 OP (iBin .sub i8 (.int .i64 (1))) fun x19 =>
 ([a0, w1, out6] : List Value) = [a0, w1, out6] ∧ L1 [x38, x19] h_1)
 (p116z13 P K out6 rest7 h)) := (CutP_def _ _ _ _).trans (by kernel_rfl)
theorem q116z13 (out6 rest7 : Value) (h : Heap) : p116z13 P K out6 rest7 h =
 (CallP P 83 [out6] h fun x41 h_1 =>
 OP (iConv .u32 rest7) fun x43 =>
 K (.tuple #[x41, x43]) h_1) := (CutP_def _ _ _ _).trans (by kernel_rfl)
def T116 (a0 w1 : Value) (h : Heap) : Prop :=
 OP (iLenSl a0) fun x11 =>
 OH (iMake 116 4 [(.int .u32 (0))] h x11 x11) fun x12 h_1 =>
 OP (iLenSl a0) fun x14 =>
 OP (iBin .sub x14 (.int .i64 (1))) fun x15 =>
 LoopP [(.int .u64 (0)), x15] h_1 fun L1 xs hx =>
 p116z7 P K a0 w1 x12 L1 xs hx
theorem e116 (a0 w1 : Value) (h : Heap) : iwpP P c116 (bodyP [.tmp 4, .tmp 5] K) (frame0 [a0, w1]) h = T116 P K a0 w1 h := by kernel_rfl
theorem f116 {K : VK} {a0 w1 : Value} {h : Heap} (H : T116 Tryz.prog K a0 w1 h) : CallP Tryz.prog 116 [a0, w1] h K :=
 callP_intro k116 (Nat.le_of_ble_eq_true rfl) ((e116 Tryz.prog K a0 w1 h).mpr H)
/-! F117: slices.Reverse[[]byte,byte] -/
noncomputable def c117z3 : ICode := .seq (.seq (.ops none [gm 7 2,gm 8 3,⟨some 9, .p (.bin .lss (.tmp 7) (.tmp 8))⟩])
 (.cond (.tmp 9) (.skip)
 (.exit 0)))
 (.seq (.block 1 (.dops [(none, [gd 14 0 0,gd 15 2 0,gd 16 0 0,gd 17 3 0,gd 18 0 0,gd 19 3 0,⟨some 20, .p (.adrSl 1 (.tmp 18) (.tmp 19)), 48⟩,⟨some 21, .l (.load false 1 (.tmp 20)), 112⟩,gd 22 0 0,gd 23 2 0,⟨some 24, .p (.adrSl 1 (.tmp 22) (.tmp 23)), 768⟩,⟨some 25, .l (.load false 1 (.tmp 24)), 1792⟩,⟨some 26, .p (.adrSl 1 (.tmp 14) (.tmp 15)), 4083⟩,
 ⟨none, .e (.store 1 (.tmp 26) (.tmp 21)), 8179⟩,⟨some 27, .p (.adrSl 1 (.tmp 16) (.tmp 17)), 16383⟩,
 ⟨none, .e (.store 1 (.tmp 27) (.tmp 25)), 32767⟩])]))
 (.ops none [gm 10 2,⟨some 11, .p (.bin .add (.tmp 10) (ci (1)))⟩,gm 12 3,⟨some 13, .p (.bin .sub (.tmp 12) (ci (1)))⟩,gm 2 11,gm 3 13]))
noncomputable def c117 : ICode := .seq (.ops none [gm 4 0,⟨some 5, .p (.lenSl (.tmp 4))⟩,⟨some 6, .p (.bin .sub (.tmp 5) (ci (1)))⟩,⟨some 2, .p (.mv (ci (0)))⟩,gm 3 6])
 (.block 0 (.loop [0] [2, 3] c117z3))
theorem k117 : compFn Tryz.prog 117 [[], [0], [2, 3], [], [], []] = some (28, c117, []) := by kernel_rfl
def K117z0 (_P : Program) (K : VK) : Kont := bodyP [] K
def K117z2 : Kont := inBlockK 0 (K117z0 P K)
def K117z3 (s0 : Value) (L1 : LK) : Kont := thenK (fun f' h'' => (([0] : List Nat).map f' : List Value) = [s0] ∧ L1 (([2, 3] : List Nat).map f') h'') (K117z2 P K)
def p117z3 (s0 : Value) (L1 : LK) (xs : List Value) (h : Heap) : Prop := CutP (iwpP P c117z3 (K117z3 P K s0 L1)) ([0] ++ [2, 3]) ([s0] ++ xs) h
theorem q117z3 (s0 : Value) (L1 : LK) (i2 j3 : Value) (h : Heap) : p117z3 P K s0 L1 [i2, j3] h =
 (OP (iBin .lss i2 j3) fun x9 =>
 IfP x9
 (OP (iAdrSl 1 s0 j3) fun x20 =>
 OP (iLoad false 1 h x20) fun x21 =>
 (True) ∧
 OP (iAdrSl 1 s0 i2) fun x24 =>
 OP (iLoad false 1 h x24) fun x25 =>
 (True) ∧
 OP (iAdrSl 1 s0 i2) fun x26 =>
 OH (oStore 1 h x26 x21) fun _ h_1 =>
 (True) ∧
 OP (iAdrSl 1 s0 j3) fun x27 =>
 OH (oStore 1 h_1 x27 x25) fun _ h_2 =>
 (True) ∧
 OP (iBin .add i2 (.int .i64 (1))) fun x11 =>
 OP (iBin .sub j3 (.int .i64 (1))) fun x13 =>
 ([s0] : List Value) = [s0] ∧ L1 [x11, x13] h_2)
 (K (.tuple #[]) h)) := (CutP_def _ _ _ _).trans (by kernel_rfl)
def T117 (s0 : Value) (h : Heap) : Prop :=
 OP (iLenSl s0) fun x5 =>
 OP (iBin .sub x5 (.int .i64 (1))) fun x6 =>
 LoopP [(.int .i64 (0)), x6] h fun L1 xs hx =>
 p117z3 P K s0 L1 xs hx
theorem e117 (s0 : Value) (h : Heap) : iwpP P c117 (bodyP [] K) (frame0 [s0]) h = T117 P K s0 h := by kernel_rfl
theorem f117 {K : VK} {s0 : Value} {h : Heap} (H : T117 Tryz.prog K s0 h) : CallP Tryz.prog 117 [s0] h K :=
 callP_intro k117 (Nat.le_of_ble_eq_true rfl) ((e117 Tryz.prog K s0 h).mpr H)
/-! F120: (pommel/num.Int).Neg -/
/-! F122: (pommel/num.Int).Cmp -/
/-! F124: pommel/num.times -/
/-! F148: (pommel/num.Int).Sub -/
/-! F149: (pommel/num.Int).Sign -/
end Go.Proofs.YthplaillblmgfaaGreatDoor

namespace Go.Proofs.YthplaillblmgfaaGreatDoor
open Go.Sim
variable (P : Program) (K : VK)
/-! F50: (pommel/num.Rat).Num -/
noncomputable def c50z8 : ICode := .seq (.seq (.ops none [⟨some 18, .l (.load true 4 (.tmp 1))⟩,⟨some 19, .call 89 [(.tmp 18)]⟩])
 (.cond (.tmp 19) (.seq (.ops none [gm 20 4,gm 2 20,⟨some 3, .p (.mv (ci (0)))⟩])
 (.ret))
 (.skip)))
 (.seq (.ops none [⟨some 21, .p (.fadr 2 (.tmp 1))⟩,⟨some 22, .p (.fadr 1 (.tmp 21))⟩,⟨some 23, .l (.load false 1 (.tmp 22))⟩,⟨some 24, .call 88 [(.tmp 23)]⟩,gm 5 24])
 (.seq (.seq (.ops none [gm 25 5,⟨some 26, .p (.lenS (.tmp 25))⟩,⟨some 27, .p (.bin .gtr (.tmp 26) (ci (4000)))⟩])
 (.cond (.tmp 27) (.seq (.ops none [⟨some 2, .p (.mv (.const (.string ⟨#[]⟩)))⟩,⟨some 3, .p (.mv (ci (4)))⟩])
 (.ret))
 (.skip)))
 (.seq (.ops none [gm 28 4,⟨some 29, .p (.bin .add (.tmp 28) (.const (.string ⟨#[47]⟩)))⟩,gm 30 5,⟨some 31, .p (.bin .add (.tmp 29) (.tmp 30))⟩,gm 2 31,⟨some 3, .p (.mv (ci (0)))⟩])
 (.ret))))
noncomputable def c50 : ICode := .seq (.ops none [⟨some 1, .e (.box 86 (.tmp 0))⟩,⟨some 2, .p (.mv (.const (.string ⟨#[]⟩)))⟩,⟨some 3, .p (.mv (ci (0)))⟩])
 (.seq (.ops none [⟨some 6, .p (.fadr 0 (.tmp 1))⟩,⟨some 7, .p (.fadr 1 (.tmp 6))⟩,⟨some 8, .l (.load false 1 (.tmp 7))⟩,⟨some 9, .call 88 [(.tmp 8)]⟩,gm 4 9])
 (.seq (.seq (.ops none [gm 10 4,⟨some 11, .p (.lenS (.tmp 10))⟩,⟨some 12, .p (.bin .gtr (.tmp 11) (ci (4000)))⟩])
 (.cond (.tmp 12) (.seq (.ops none [⟨some 2, .p (.mv (.const (.string ⟨#[]⟩)))⟩,⟨some 3, .p (.mv (ci (4)))⟩])
 (.ret))
 (.skip)))
 (.seq (.seq (.ops none [⟨some 13, .p (.fadr 0 (.tmp 1))⟩,⟨some 14, .p (.fadr 0 (.tmp 13))⟩,⟨some 15, .l (.load false 1 (.tmp 14))⟩])
 (.cond (.tmp 15) (.ops none [gm 16 4,⟨some 17, .p (.bin .add (.const (.string ⟨#[45]⟩)) (.tmp 16))⟩,gm 4 17])
 (.skip)))
 (.cut [1, 4] c50z8))))
theorem k50 : compFn Tryz.prog 50 [[], [], [], [], [], [], [1, 4], [], [], [], [], [], [], [], []] = some (32, c50, [.tmp 2, .tmp 3]) := by kernel_rfl
def K50z0 (_P : Program) (K : VK) : Kont := bodyP [.tmp 2, .tmp 3] K
def p50z8 (a1 s4 : Value) (h : Heap) : Prop := CutP (iwpP P c50z8 (K50z0 P K)) [1, 4] [a1, s4] h
theorem q50z8 (a1 s4 : Value) (h : Heap) : p50z8 P K a1 s4 h =
 (OP (iLoad true 4 h a1) fun x18 =>
 CallP P 89 [x18] h fun x19 h_1 =>
 IfP x19
 (K (.tuple #[s4, (.int .i64 (0))]) h_1)
 (OP (iFadr 2 a1) fun x21 =>
 OP (iFadr 1 x21) fun x22 =>
 OP (iLoad false 1 h_1 x22) fun x23 =>
 CallP P 88 [x23] h_1 fun x24 h_2 =>
 OP (iLenS x24) fun x26 =>
 OP (iBin .gtr x26 (.int .i64 (4000))) fun x27 =>
 IfP x27
 (K (.tuple #[(.string ⟨#[]⟩), (.int .i64 (4))]) h_2)
 (OP (iBin .add s4 (.string ⟨#[47]⟩)) fun x29 =>
 OP (iBin .add x29 x24) fun x31 =>
 K (.tuple #[x31, (.int .i64 (0))]) h_2))) := (CutP_def _ _ _ _).trans (by kernel_rfl)
def T50 (a0 : Value) (h : Heap) : Prop :=
 OH (iBox 86 h a0) fun a1 h_1 =>
 OP (iFadr 0 a1) fun x6 =>
 OP (iFadr 1 x6) fun x7 =>
 OP (iLoad false 1 h_1 x7) fun x8 =>
 CallP P 88 [x8] h_1 fun x9 h_2 =>
 OP (iLenS x9) fun x11 =>
 OP (iBin .gtr x11 (.int .i64 (4000))) fun x12 =>
 IfP x12
 (K (.tuple #[(.string ⟨#[]⟩), (.int .i64 (4))]) h_2)
 (OP (iFadr 0 a1) fun x13 =>
 OP (iFadr 0 x13) fun x14 =>
 OP (iLoad false 1 h_2 x14) fun x15 =>
 IfP x15
 (OP (iBin .add (.string ⟨#[45]⟩) x9) fun x17 =>
 p50z8 P K a1 x17 h_2)
 (p50z8 P K a1 x9 h_2))
theorem e50 (a0 : Value) (h : Heap) : iwpP P c50 (bodyP [.tmp 2, .tmp 3] K) (frame0 [a0]) h = T50 P K a0 h := by kernel_rfl
theorem f50 {K : VK} {a0 : Value} {h : Heap} (H : T50 Tryz.prog K a0 h) : CallP Tryz.prog 50 [a0] h K :=
 callP_intro k50 (Nat.le_of_ble_eq_true rfl) ((e50 Tryz.prog K a0 h).mpr H)
/-! F67: pommel/num.Whole -/
/-! F68: (pommel/num.Rat).Div -/
/-! F88: pommel/num.text -/
noncomputable def c88z26 : ICode := .ops none [⟨some 28, .p (.pick (.tmp 20) (.tmp 27) (.const (.bool false)))⟩]
noncomputable def c88z24 : ICode := .seq (.ops (some (20, true)) [⟨some 27, .p (.pick (.tmp 24) (.const (.bool true)) (.tmp 26))⟩])
 (.cut [3, 4, 5, 6, 20, 27] c88z26)
noncomputable def c88z22 : ICode := .seq (.ops (some (24, false)) [gm 25 5,⟨some 26, .p (.bin .gtr (.tmp 25) (.const (.int .u32 (0))))⟩])
 (.cut [3, 4, 5, 6, 20, 24, 26] c88z24)
noncomputable def c88z20 : ICode := .seq (.ops (some (20, true)) [gm 21 4,⟨some 22, .p (.lenSl (.tmp 21))⟩,⟨some 23, .p (.bin .gtr (.tmp 22) (ci (0)))⟩,gm 24 23])
 (.cut [3, 4, 5, 6, 20, 24] c88z22)
noncomputable def c88z18 : ICode := .cond (.tmp 28) (.skip)
 (.exit 2)
noncomputable def c88z17 : ICode := .seq (.block 3 (.seq (.ops none [gm 31 3,gm 32 5,⟨some 33, .p (.bin .rem (.tmp 32) (.const (.int .u32 (10))))⟩,⟨some 34, .p (.bin .add (.const (.int .u32 (48))) (.tmp 33))⟩,⟨some 35, .p (.conv .u8 (.tmp 34))⟩,⟨some 36, .e (.mkSl 5 1 [(.int .u8 (0))] [(0, 1, (.tmp 35))])⟩,⟨some 37, .e (.app 5 1 1 (.tmp 31) (.tmp 36))⟩,gm 3 37])
 (.ops none [gm 38 5,⟨some 39, .p (.bin .quo (.tmp 38) (.const (.int .u32 (10))))⟩,gm 5 39])))
 (.ops none [gm 29 6,⟨some 30, .p (.bin .add (.tmp 29) (ci (1)))⟩,gm 6 30])
noncomputable def c88z16 : ICode := .seq (.seq (.seq (.ops none [gm 18 6,⟨some 19, .p (.bin .lss (.tmp 18) (ci (9)))⟩,gm 20 19])
 (.cut [3, 4, 5, 6, 20] c88z20)) c88z18) c88z17
noncomputable def c88z30 : ICode := .ops none [gm 40 4,gm 0 40]
noncomputable def c88z13 : ICode := .cut [3, 4] c88z30
noncomputable def c88z8 : ICode := .seq (.seq (.ops none [gm 10 0,⟨some 11, .p (.lenSl (.tmp 10))⟩,⟨some 12, .p (.bin .gtr (.tmp 11) (ci (0)))⟩])
 (.cond (.tmp 12) (.skip)
 (.exit 0)))
 (.block 1 (.seq (.ops none [gm 14 0,⟨some 15, .call 116 [(.tmp 14), (.const (.int .u32 (1000000000)))]⟩,gm 13 15,⟨some 16, .p (.ext (.tmp 13) 0)⟩,⟨some 17, .p (.ext (.tmp 13) 1)⟩,gm 4 16,gm 5 17])
 (.seq (.seq (.ops none [⟨some 6, .p (.mv (ci (0)))⟩])
 (.block 2 (.loop [4] [3, 5, 6] c88z16))) c88z13)))
noncomputable def c88z31 : ICode := .seq (.ops none [gm 41 3,⟨some 42, .call 117 [(.tmp 41)]⟩])
 (.seq (.ops none [gm 43 3,⟨some 44, .l (.b2s (.tmp 43))⟩,gm 2 44])
 (.ret))
noncomputable def c88z6 : ICode := .cut [3] c88z31
noncomputable def c88 : ICode := .seq (.ops none [⟨some 2, .p (.mv (.const (.string ⟨#[]⟩)))⟩])
 (.seq (.seq (.ops none [gm 7 0,⟨some 8, .p (.lenSl (.tmp 7))⟩,⟨some 9, .p (.bin .eql (.tmp 8) (ci (0)))⟩])
 (.cond (.tmp 9) (.seq (.ops none [⟨some 2, .p (.mv (.const (.string ⟨#[48]⟩)))⟩])
 (.ret))
 (.skip)))
 (.seq (.ops none [⟨some 3, .p (.mv (.const (.slice none 0 0)))⟩])
 (.seq (.block 0 (.loop [] [0, 3] c88z8)) c88z6)))
theorem k88 : compFn Tryz.prog 88 [[], [], [], [], [], [], [0, 3], [], [], [], [], [4], [3, 5, 6], [3, 4, 5, 6, 20], [3, 4, 5, 6, 20, 24], [3, 4, 5, 6, 20, 24, 26], [3, 4, 5, 6, 20, 27], [], [], [], [], [3, 4], [3], [], []] = some (45, c88, [.tmp 2]) := by kernel_rfl
def K88z0 (_P : Program) (K : VK) : Kont := bodyP [.tmp 2] K
def K88z6 : Kont := thenK (iwpP P c88z6 (K88z0 P K)) (K88z0 P K)
def K88z7 : Kont := inBlockK 0 (K88z6 P K)
def K88z8 (L1 : LK) : Kont := thenK (fun f' h'' => (([] : List Nat).map f' : List Value) = [] ∧ L1 (([0, 3] : List Nat).map f') h'') (K88z7 P K)
def K88z11 (L1 : LK) : Kont := inBlockK 1 (K88z8 P K L1)
def K88z13 (L1 : LK) : Kont := thenK (iwpP P c88z13 (K88z11 P K L1)) (K88z11 P K L1)
def K88z15 (L1 : LK) : Kont := inBlockK 2 (K88z13 P K L1)
def K88z16 (q4 : Value) (L1 L2 : LK) : Kont := thenK (fun f' h'' => (([4] : List Nat).map f' : List Value) = [q4] ∧ L2 (([3, 5, 6] : List Nat).map f') h'') (K88z15 P K L1)
def K88z17 (q4 : Value) (L1 L2 : LK) : Kont := thenK (iwpP P c88z17 (K88z16 P K q4 L1 L2)) (K88z16 P K q4 L1 L2)
def K88z18 (q4 : Value) (L1 L2 : LK) : Kont := thenK (iwpP P c88z18 (K88z17 P K q4 L1 L2)) (K88z17 P K q4 L1 L2)
def p88z8 (L1 : LK) (xs : List Value) (h : Heap) : Prop := CutP (iwpP P c88z8 (K88z8 P K L1)) ([] ++ [0, 3]) ([] ++ xs) h
def p88z16 (q4 : Value) (L1 L2 : LK) (xs : List Value) (h : Heap) : Prop := CutP (iwpP P c88z16 (K88z16 P K q4 L1 L2)) ([4] ++ [3, 5, 6]) ([q4] ++ xs) h
def p88z20 (b3 q4 r5 i6 x20 : Value) (L1 L2 : LK) (h : Heap) : Prop := CutP (iwpP P c88z20 (K88z18 P K q4 L1 L2)) [3, 4, 5, 6, 20] [b3, q4, r5, i6, x20] h
def p88z22 (b3 q4 r5 i6 x20 x24 : Value) (L1 L2 : LK) (h : Heap) : Prop := CutP (iwpP P c88z22 (K88z18 P K q4 L1 L2)) [3, 4, 5, 6, 20, 24] [b3, q4, r5, i6, x20, x24] h
def p88z24 (b3 q4 r5 i6 x20 x24 x26 : Value) (L1 L2 : LK) (h : Heap) : Prop := CutP (iwpP P c88z24 (K88z18 P K q4 L1 L2)) [3, 4, 5, 6, 20, 24, 26] [b3, q4, r5, i6, x20, x24, x26] h
def p88z26 (b3 q4 r5 i6 x20 x27 : Value) (L1 L2 : LK) (h : Heap) : Prop := CutP (iwpP P c88z26 (K88z18 P K q4 L1 L2)) [3, 4, 5, 6, 20, 27] [b3, q4, r5, i6, x20, x27] h
def p88z30 (b3 q4 : Value) (L1 : LK) (h : Heap) : Prop := CutP (iwpP P c88z30 (K88z11 P K L1)) [3, 4] [b3, q4] h
def p88z31 (b3 : Value) (h : Heap) : Prop := CutP (iwpP P c88z31 (K88z0 P K)) [3] [b3] h
theorem q88z26 (b3 q4 r5 i6 x20 x27 : Value) (L1 L2 : LK) (h : Heap) : p88z26 P K b3 q4 r5 i6 x20 x27 L1 L2 h =
 (OP (iPick x20 x27 (.bool false)) fun x28 =>
 IfP x28
 (OP (iBin .rem r5 (.int .u32 (10))) fun x33 =>
 OP (iBin .add (.int .u32 (48)) x33) fun x34 =>
 OP (iConv .u8 x34) fun x35 =>
 OH (iMkSl 5 1 [(.int .u8 (0))] h [(0, 1, x35)]) fun x36 h_1 =>
 OH (iApp 5 1 1 h_1 b3 x36) fun x37 h_2 =>
 OP (iBin .quo r5 (.int .u32 (10))) fun x39 =>
 OP (iBin .add i6 (.int .i64 (1))) fun x30 =>
 ([q4] : List Value) = [q4] ∧ L2 [x37, x39, x30] h_2)
 (p88z30 P K b3 q4 L1 h)) := (CutP_def _ _ _ _).trans (by kernel_rfl)
theorem q88z24 (b3 q4 r5 i6 x20 x24 x26 : Value) (L1 L2 : LK) (h : Heap) : p88z24 P K b3 q4 r5 i6 x20 x24 x26 L1 L2 h =
 (GdP x20 true
 (OP (iPick x24 (.bool true) x26) fun x27 =>
 p88z26 P K b3 q4 r5 i6 x20 x27 L1 L2 h)
 (p88z26 P K b3 q4 r5 i6 x20 undef L1 L2 h)) := (CutP_def _ _ _ _).trans (by kernel_rfl)
theorem q88z22 (b3 q4 r5 i6 x20 x24 : Value) (L1 L2 : LK) (h : Heap) : p88z22 P K b3 q4 r5 i6 x20 x24 L1 L2 h =
 (GdP x24 false
 (OP (iBin .gtr r5 (.int .u32 (0))) fun x26 =>
 p88z24 P K b3 q4 r5 i6 x20 x24 x26 L1 L2 h)
 (p88z24 P K b3 q4 r5 i6 x20 x24 undef L1 L2 h)) := (CutP_def _ _ _ _).trans (by kernel_rfl)
theorem q88z20 (b3 q4 r5 i6 x20 : Value) (L1 L2 : LK) (h : Heap) : p88z20 P K b3 q4 r5 i6 x20 L1 L2 h =
 (GdP x20 true
 (OP (iLenSl q4) fun x22 =>
 OP (iBin .gtr x22 (.int .i64 (0))) fun x23 =>
 p88z22 P K b3 q4 r5 i6 x20 x23 L1 L2 h)
 (p88z22 P K b3 q4 r5 i6 x20 undef L1 L2 h)) := (CutP_def _ _ _ _).trans (by kernel_rfl)
theorem q88z16 (q4 : Value) (L1 L2 : LK) (b3 r5 i6 : Value) (h : Heap) : p88z16 P K q4 L1 L2 [b3, r5, i6] h =
 (OP (iBin .lss i6 (.int .i64 (9))) fun x19 =>
 p88z20 P K b3 q4 r5 i6 x19 L1 L2 h) := (CutP_def _ _ _ _).trans (by kernel_rfl)
theorem q88z30 (b3 q4 : Value) (L1 : LK) (h : Heap) : p88z30 P K b3 q4 L1 h =
 (([] : List Value) = [] ∧ L1 [q4, b3] h) := (CutP_def _ _ _ _).trans (by kernel_rfl)
theorem q88z8 (L1 : LK) (x0 b3 : Value) (h : Heap) : p88z8 P K L1 [x0, b3] h =
 (OP (iLenSl x0) fun x11 =>
 OP (iBin .gtr x11 (.int .i64 (0))) fun x12 =>
 IfP x12
 (CallP P 116 [x0, (.int .u32 (1000000000))] h fun x15 h_1 =>
 OP (iExt 0 x15) fun x16 =>
 OP (iExt 1 x15) fun x17 =>
 LoopP [b3, x17, (.int .i64 (0))] h_1 fun L2 xs hx =>
 p88z16 P K x16 L1 L2 xs hx)
 (p88z31 P K b3 h)) := (CutP_def _ _ _ _).trans (by kernel_rfl)
theorem q88z31 (b3 : Value) (h : Heap) : p88z31 P K b3 h =
 (CallP P 117 [b3] h fun x42 h_1 =>
 OP (iB2s h_1 b3) fun x44 =>
 K x44 h_1) := (CutP_def _ _ _ _).trans (by kernel_rfl)
def T88 (x0 : Value) (h : Heap) : Prop :=
 OP (iLenSl x0) fun x8 =>
 OP (iBin .eql x8 (.int .i64 (0))) fun x9 =>
 IfP x9
 (K (.string ⟨#[48]⟩) h)
 (LoopP [x0, (.slice none 0 0)] h fun L1 xs hx =>
 p88z8 P K L1 xs hx)
theorem e88 (x0 : Value) (h : Heap) : iwpP P c88 (bodyP [.tmp 2] K) (frame0 [x0]) h = T88 P K x0 h := by kernel_rfl
theorem f88 {K : VK} {x0 : Value} {h : Heap} (H : T88 Tryz.prog K x0 h) : CallP Tryz.prog 88 [x0] h K :=
 callP_intro k88 (Nat.le_of_ble_eq_true rfl) ((e88 Tryz.prog K x0 h).mpr H)
/-! F89: (pommel/num.Rat).Integer -/
noncomputable def c89z6 : ICode := .ops none [⟨some 15, .p (.pick (.tmp 8) (.tmp 14) (.const (.bool false)))⟩,gm 2 15]
noncomputable def c89z4 : ICode := .seq (.ops (some (8, true)) [⟨some 9, .p (.fadr 2 (.tmp 1))⟩,⟨some 10, .p (.fadr 1 (.tmp 9))⟩,⟨some 11, .l (.load false 1 (.tmp 10))⟩,⟨some 12, .p (.adrSl 1 (.tmp 11) (ci (0)))⟩,⟨some 13, .l (.load false 1 (.tmp 12))⟩,⟨some 14, .p (.bin .eql (.tmp 13) (.const (.int .u32 (1))))⟩])
 (.cut [8, 14] c89z6)
noncomputable def c89z2 : ICode := .ret
noncomputable def c89 : ICode := .seq (.ops none [⟨some 1, .e (.box 86 (.tmp 0))⟩,⟨some 2, .p (.mv (.const (.bool false)))⟩])
 (.seq (.seq (.ops none [⟨some 3, .p (.fadr 2 (.tmp 1))⟩,⟨some 4, .p (.fadr 1 (.tmp 3))⟩,⟨some 5, .l (.load false 1 (.tmp 4))⟩,⟨some 6, .p (.lenSl (.tmp 5))⟩,⟨some 7, .p (.bin .eql (.tmp 6) (ci (1)))⟩,gm 8 7])
 (.cut [1, 8] c89z4)) c89z2)
theorem k89 : compFn Tryz.prog 89 [[], [1, 8], [8, 14], []] = some (16, c89, [.tmp 2]) := by kernel_rfl
def K89z0 (_P : Program) (K : VK) : Kont := bodyP [.tmp 2] K
def K89z2 : Kont := thenK (iwpP P c89z2 (K89z0 P K)) (K89z0 P K)
def p89z4 (a1 x8 : Value) (h : Heap) : Prop := CutP (iwpP P c89z4 (K89z2 P K)) [1, 8] [a1, x8] h
def p89z6 (x8 x14 : Value) (h : Heap) : Prop := CutP (iwpP P c89z6 (K89z2 P K)) [8, 14] [x8, x14] h
theorem q89z6 (x8 x14 : Value) (h : Heap) : p89z6 P K x8 x14 h =
 (OP (iPick x8 x14 (.bool false)) fun x15 =>
 K x15 h) := (CutP_def _ _ _ _).trans (by kernel_rfl)
theorem q89z4 (a1 x8 : Value) (h : Heap) : p89z4 P K a1 x8 h =
 (GdP x8 true
 (OP (iFadr 2 a1) fun x9 =>
 OP (iFadr 1 x9) fun x10 =>
 OP (iLoad false 1 h x10) fun x11 =>
 OP (iAdrSl 1 x11 (.int .i64 (0))) fun x12 =>
 OP (iLoad false 1 h x12) fun x13 =>
 OP (iBin .eql x13 (.int .u32 (1))) fun x14 =>
 p89z6 P K x8 x14 h)
 (p89z6 P K x8 undef h)) := (CutP_def _ _ _ _).trans (by kernel_rfl)
def T89 (a0 : Value) (h : Heap) : Prop :=
 OH (iBox 86 h a0) fun a1 h_1 =>
 OP (iFadr 2 a1) fun x3 =>
 OP (iFadr 1 x3) fun x4 =>
 OP (iLoad false 1 h_1 x4) fun x5 =>
 OP (iLenSl x5) fun x6 =>
 OP (iBin .eql x6 (.int .i64 (1))) fun x7 =>
 p89z4 P K a1 x7 h_1
theorem e89 (a0 : Value) (h : Heap) : iwpP P c89 (bodyP [.tmp 2] K) (frame0 [a0]) h = T89 P K a0 h := by kernel_rfl
theorem f89 {K : VK} {a0 : Value} {h : Heap} (H : T89 Tryz.prog K a0 h) : CallP Tryz.prog 89 [a0] h K :=
 callP_intro k89 (Nat.le_of_ble_eq_true rfl) ((e89 Tryz.prog K a0 h).mpr H)
/-! F104: pommel/num.Ratio -/
/-! F121: (pommel/num.Int).Gcd -/
/-! F123: (pommel/num.Int).Quo -/
/-! F147: pommel/num.part -/
end Go.Proofs.YthplaillblmgfaaGreatDoor

namespace Go.Proofs.YthplaillblmgfaaGreatDoor
open Go.Sim

/-- Beyond this no number is followed. -/
def bigW : Nat := 4294967296 ^ 100

theorem lt_bigW {n : Nat} (h : n < 4294967296 ^ 20) : n < bigW := Nat.lt_of_lt_of_le h (Nat.pow_le_pow_right (by decide) (by decide))

theorem canW_len {xs : List Nat} (h : Canon 4294967296 xs) (hv : val 4294967296 xs < bigW) : xs.length ≤ 100 := h.len (by decide) hv

/-- Digits in memory: a slice of the first cells of an object, or nil. -/
def DS (e : TypeId) (k : IntKind) (h : Heap) (v : Value) (xs : List Nat) : Prop :=
  (v = .slice none 0 0 ∧ xs = []) ∨ ∃ i, v = sl e i 0 xs.length ∧ (xs = [] ∨ ∃ rest, objCells h i = some (xs.map (fun d : Nat => Value.int k (d : Int)) ++ rest))

theorem DS.mono {e : TypeId} {k : IntKind} {h h' : Heap} {v : Value} {xs : List Nat} (x : EX h h') (p : DS e k h v xs) : DS e k h' v xs :=
  p.imp id fun ⟨i, a, b⟩ => ⟨i, a, b.imp id fun ⟨r, c⟩ => ⟨r, x.cells c⟩⟩

theorem DS.len {e : TypeId} {k : IntKind} {h : Heap} {v : Value} {xs : List Nat} (p : DS e k h v xs) : iLenSl v = some (I xs.length) := by
  rcases p with ⟨rfl, rfl⟩ | ⟨i, rfl, _⟩ <;> rfl

theorem DS.get {e : TypeId} {k : IntKind} {h : Heap} {v : Value} {xs : List Nat} (p : DS e k h v xs) {j : Nat} (hj : j < xs.length) : ∃ i, iAdrSl 1 v (I j) = some (pt i j) ∧ iLoad false 1 h (pt i j) = some (.int k (xs[j] : Int)) := by
  rcases p with ⟨_, rfl⟩ | ⟨i, rfl, hc⟩
  · simp at hj
  · obtain ⟨r, hc⟩ := hc.resolve_left (by rintro rfl; simp at hj)
    refine ⟨i, adr_sl hj, ?_⟩
    have : (xs.map (fun d : Nat => Value.int k (d : Int)) ++ r)[j]? = some (.int k (xs[j] : Int)) := by rw [List.getElem?_append_left (by simpa using hj)]; simp [hj]
    simp [iLoad, hc, iPart, this]

theorem DS.nil (e : TypeId) (k : IntKind) (h : Heap) : DS e k h (.slice none 0 0) [] := .inl ⟨rfl, rfl⟩

theorem DS.one {e : TypeId} {k : IntKind} {h : Heap} {v : Value} {xs : List Nat} (p : DS e k h v xs) : noTuple v = true ∧ vcells v = [v] := by
  rcases p with ⟨rfl, _⟩ | ⟨i, rfl, _⟩ <;> exact ⟨rfl, rfl⟩

/-- The same without the last digit. -/
theorem DS.pop {e : TypeId} {k : IntKind} {h : Heap} {v : Value} {xs : List Nat} (p : DS e k h v xs) {n : Nat} (hn : n ≤ xs.length) : ∃ v', iSlSl e 1 v none (some (I n)) = some v' ∧ DS e k h v' (xs.take n) := by
  rcases p with ⟨rfl, rfl⟩ | ⟨i, rfl, hc⟩
  · simp at hn; subst hn
    exact ⟨_, rfl, .inl ⟨rfl, rfl⟩⟩
  · refine ⟨sl e i 0 n, ?_, .inr ⟨i, by rw [List.length_take, Nat.min_eq_left hn], ?_⟩⟩
    · simp [iSlSl, sl, iBounds, natOf, hn]
    · rcases hc with rfl | ⟨r, hc⟩
      · left; simp
      · right
        refine ⟨(xs.drop n).map (fun d : Nat => Value.int k (d : Int)) ++ r, ?_⟩
        rw [hc, ← List.append_assoc, ← List.map_append, List.take_append_drop]

/-- A number's size. -/
def MagV (h : Heap) (v : Value) (n : Nat) : Prop := ∃ xs, DS 116 .u32 h v xs ∧ Canon 4294967296 xs ∧ val 4294967296 xs = n

theorem MagV.mono {h h' : Heap} {v : Value} {n : Nat} (x : EX h h') (p : MagV h v n) : MagV h' v n := let ⟨xs, a, b, c⟩ := p; ⟨xs, a.mono x, b, c⟩

theorem C83 {h : Heap} {K : Value → Heap → Prop} {v : Value} {xs : List Nat} (p : DS 116 .u32 h v xs) (hl : Lim 4294967296 xs) (hs : xs.length ≤ 1000) (hk : ∀ v', MagV h v' (val 4294967296 xs) → K v' h) : CallP Tryz.prog 83 [v] h K := by
  refine f83 ?_
  refine loopL (σ := Value × List Nat) (fun p => [p.1]) (fun _ => h) (fun q => DS 116 .u32 h q.1 q.2 ∧ Lim 4294967296 q.2 ∧ val 4294967296 q.2 = val 4294967296 xs ∧ q.2.length ≤ 1000) (fun q => q.2.length) (v, xs) rfl rfl ⟨p, hl, rfl, hs⟩ ?_
  rintro ⟨v, ys⟩ ⟨p, hl, hv, hs⟩ L hL
  simp only at p hl hv hs hL ⊢
  rw [q83z4]
  have done : Canon 4294967296 ys → p83z12 Tryz.prog K v h := by
    intro hc
    rw [q83z12]
    exact hk v ⟨ys, p, hc, hv⟩
  simp only [p.len, OP_some, bin_gtr]
  by_cases h0 : ys.length = 0
  · have : ys = [] := List.length_eq_zero_iff.1 h0
    rw [decide_eq_false (show ¬ (0 : Int) < (ys.length : Int) by omega)]
    simp only [q83z8, GdP_ft, q83z10, iPick_f, OP_some, IfP_false]
    exact done (by rw [this]; exact Canon.nil 4294967296)
  · rw [decide_eq_true (show (0 : Int) < (ys.length : Int) by omega)]
    have e1 : IntKind.wrap .i64 ((ys.length : Int) - 1) = ((ys.length - 1 : Nat) : Int) := by rw [wrap64 (by omega) (by omega)]; omega
    obtain ⟨i, g1, g2⟩ := p.get (j := ys.length - 1) (by omega)
    simp only [q83z8, GdP_tt, p.len, OP_some, bin_sub, e1, g1, g2, bin_eql, q83z10, iPick_t, IfP_dec]
    refine ⟨fun hz => ?_, fun hz => ?_⟩
    · obtain ⟨v', h1, h2⟩ := p.pop (n := ys.length - 1) (by omega)
      simp only [h1, OP_some, true_and]
      have hsplit : ys = ys.take (ys.length - 1) ++ [0] := by
        have := List.take_succ_eq_append_getElem (l := ys) (i := ys.length - 1) (by omega)
        rw [show ys.length - 1 + 1 = ys.length by omega, List.take_length] at this
        have hz' : ys[ys.length - 1] = 0 := by omega
        rw [hz'] at this
        exact this
      refine hL (v', ys.take (ys.length - 1)) ⟨h2, hl.mono fun y hy => List.mem_of_mem_take hy, ?_, by rw [List.length_take]; omega⟩ (by simp; omega)
      rw [← hv]
      conv => rhs; rw [hsplit]
      rw [val_append]
      simp [val]
    · exact done (can_of_last hl fun h1 hc => hz (by rw [hc]; rfl))

/-- Fresh digits at the end of the heap. -/
abbrev hd (h : Heap) (os : List Nat) : Heap := h ++ [.arr 116 (os.map fun d : Nat => Value.int .u32 (d : Int))]

theorem make_hd {h : Heap} {n : Nat} (hn : n ≤ 1000) : iMake 116 4 [.int .u32 0] h (I n) (I n) = some (sl 116 h.length 0 n, hd h (List.replicate n 0)) := by
  have hz : ∀ m, zrep [Value.int .u32 0] m = (List.replicate m 0).map fun d : Nat => Value.int .u32 (d : Int) := by
    intro m
    induction m with
    | zero => rfl
    | succ m ih =>
      have : zrep [Value.int .u32 0] (m + 1) = Value.int .u32 0 :: zrep [Value.int .u32 0] m := by simp [zrep, List.replicate_succ]
      rw [this, ih, List.replicate_succ]; rfl
  simp only [iMake]
  rw [if_pos ⟨by omega, by omega, by omega, by omega⟩, Int.toNat_natCast, hz]

theorem hd_get (h : Heap) (os : List Nat) : (hd h os)[h.length]? = some (.arr 116 (os.map fun d : Nat => Value.int .u32 (d : Int))) := by simp [hd]

theorem hd_store {h : Heap} {os : List Nat} {j : Nat} (d : Nat) (hj : j < os.length) : oStore 1 (hd h os) (pt h.length j) (.int .u32 (d : Int)) = some (undef, hd h (os.set j d)) := by
  rw [store_at (hd_get h os) (by simpa using hj) rfl rfl]
  simp [hd, List.map_set]

theorem hd_DS (h : Heap) (os : List Nat) : DS 116 .u32 (hd h os) (sl 116 h.length 0 os.length) os := .inr ⟨h.length, rfl, .inr ⟨[], by simp [objCells, hd]⟩⟩

theorem hd_EX (h : Heap) (os : List Nat) : EX h (hd h os) := EX.append _ _

theorem wrapU64 {n : Int} (h1 : 0 ≤ n) (h2 : n < 18446744073709551616) : IntKind.wrap .u64 n = n := by
  have e : IntKind.wrap .u64 n = n % 18446744073709551616 := by simp [IntKind.wrap, IntKind.bits, IntKind.signed]
  rw [e]; omega
theorem wrapU32e (n : Int) : IntKind.wrap .u32 n = n % 4294967296 := by simp [IntKind.wrap, IntKind.bits, IntKind.signed]
theorem wrapU32 {n : Int} (h1 : 0 ≤ n) (h2 : n < 4294967296) : IntKind.wrap .u32 n = n := by rw [wrapU32e]; omega

theorem shr32 (s : Nat) : iBin .shr (.int .u64 (s : Int)) (.int .u64 32) = some (.int .u64 ((s / 4294967296 : Nat) : Int)) := by
  simp only [iBin, iShift]
  rw [if_neg (by omega)]
  have : (min (32 : Int).toNat IntKind.u64.bits) = 32 := rfl
  rw [this]
  have e2 : (2 : Int) ^ 32 = 4294967296 := by decide
  rw [e2, Int.fdiv_eq_ediv_of_nonneg _ (by omega)]
  congr 2

theorem C114 {x y c : Nat} {h : Heap} {K : Value → Heap → Prop} (hx : x < 4294967296) (hy : y < 4294967296) (hc : c ≤ 1) (hk : K (.tuple #[.int .u32 (((x + y + c) % 4294967296 : Nat) : Int), .int .u32 (((x + y + c) / 4294967296 : Nat) : Int)]) h) :
    CallP Tryz.prog 114 [.int .u32 (x : Int), .int .u32 (y : Int), .int .u32 (c : Int)] h K := by
  refine f114 ?_
  have e1 : IntKind.wrap .u64 ((x : Int) + (y : Int)) = ((x + y : Nat) : Int) := by rw [wrapU64 (by omega) (by omega)]; omega
  have e2 : IntKind.wrap .u64 (((x + y : Nat) : Int) + (c : Int)) = ((x + y + c : Nat) : Int) := by rw [wrapU64 (by omega) (by omega)]; omega
  have e3 : IntKind.wrap .u32 ((x + y + c : Nat) : Int) = (((x + y + c) % 4294967296 : Nat) : Int) := by rw [wrapU32e]; omega
  simp only [T114, conv_int, OP_some, bin_add]
  rw [wrapU64 (n := (x : Int)) (by omega) (by omega), wrapU64 (n := (y : Int)) (by omega) (by omega), e1, wrapU64 (n := (c : Int)) (by omega) (by omega), e2]
  simp only [shr32, OP_some, conv_int, e3]
  rw [wrapU32 (by omega) (by omega)]
  exact hk

/-- A sum, digit by digit. -/
theorem C85s {va vb : Value} {xs ys : List Nat} {h : Heap} {K : Value → Heap → Prop} (hx : DS 116 .u32 h va xs) (hy : DS 116 .u32 h vb ys) (lx : Lim 4294967296 xs) (ly : Lim 4294967296 ys) (hle : ys.length ≤ xs.length) (hlen : xs.length ≤ 200)
    (hk : ∀ v h', EX h h' → MagV h' v (val 4294967296 xs + val 4294967296 ys) → K v h') : p85z4 Tryz.prog K va vb h := by
  rw [q85z4]
  simp only [hx.len, OP_some, bin_add, inc xs.length (by omega), make_hd (show xs.length + 1 ≤ 1000 by omega), OH_some]
  have hW : 0 < 4294967296 := by decide
  refine loopL (σ := Nat × Nat × List Nat) (fun p => [.int .u32 (p.1 : Int), I p.2.1]) (fun p => hd h p.2.2)
    (fun p => p.2.1 ≤ xs.length ∧ p.1 ≤ 1 ∧ p.2.2.length = xs.length + 1 ∧ Lim 4294967296 p.2.2 ∧ (∀ j (hj : j < p.2.2.length), p.2.1 ≤ j → p.2.2[j] = 0) ∧ val 4294967296 p.2.2 + 4294967296 ^ p.2.1 * p.1 = val 4294967296 (xs.take p.2.1) + val 4294967296 (ys.take p.2.1)) (fun p => xs.length - p.2.1)
    (0, 0, List.replicate (xs.length + 1) 0) rfl rfl ⟨by simp, by simp, by simp, Lim.zeros hW _, by simp, by simp [val_zeros, val]⟩ ?_
  rintro ⟨c, i, os⟩ ⟨hi, hc, hol, hlim, hz, hval⟩ L hL
  simp only at hi hc hol hlim hz hval hL ⊢
  rw [q85z10]
  have hx' := hx.mono (hd_EX h os)
  have hy' := hy.mono (hd_EX h os)
  simp only [bin_lss, OP_some, IfP_dec]
  refine ⟨fun hlt => ?_, fun hge => ?_⟩
  · have hil : i < xs.length := by omega
    obtain ⟨ia, a1, a2⟩ := hx'.get hil
    have hxl : xs[i] < 4294967296 := lx _ (List.getElem_mem hil)
    have go : ∀ y : Nat, y < 4294967296 → val 4294967296 (ys.take (i + 1)) = val 4294967296 (ys.take i) + 4294967296 ^ i * y → p85z19 Tryz.prog K va vb (sl 116 h.length 0 (xs.length + 1)) (.int .u32 (c : Int)) (I i) (.int .u32 (y : Int)) (I xs.length) (I i) L (hd h os) := by
      intro y hyl hyv
      rw [q85z19]
      simp only [a1, OP_some, a2]
      refine C114 hxl hyl hc ?_
      simp only [ext_tuple, pair0, pair1, OP_some, adr_sl (show i < xs.length + 1 by omega)]
      rw [hd_store _ (by omega)]
      simp only [OH_some, q85z20, bin_add, OP_some, inc i (by omega), true_and]
      have hmod : (xs[i] + y + c) % 4294967296 < 4294967296 := Nat.mod_lt _ hW
      have hdiv : (xs[i] + y + c) / 4294967296 ≤ 1 := by omega
      refine hL ((xs[i] + y + c) / 4294967296, i + 1, os.set i ((xs[i] + y + c) % 4294967296)) ⟨by show i + 1 ≤ xs.length; omega, hdiv, by show (os.set i _).length = _; rw [List.length_set]; exact hol, hlim.set hmod i, ?_, ?_⟩ (by show xs.length - (i + 1) < xs.length - i; omega)
      · intro j hj hij
        show (os.set i _)[j] = 0
        have hij' : i ≠ j := by have : i + 1 ≤ j := hij; omega
        rw [List.getElem_set_ne hij']
        exact hz j (by simpa using hj) (by have : i + 1 ≤ j := hij; omega)
      · show val 4294967296 (os.set i _) + 4294967296 ^ (i + 1) * _ = val 4294967296 (xs.take (i + 1)) + val 4294967296 (ys.take (i + 1))
        have h1 := val_set 4294967296 os i ((xs[i] + y + c) % 4294967296) (by omega)
        rw [hz i (by omega) (Nat.le_refl _)] at h1
        rw [val_take_succ 4294967296 xs hil, hyv, Nat.pow_succ]
        have h2 := Nat.mod_add_div (xs[i] + y + c) 4294967296
        generalize (xs[i] + y + c) % 4294967296 = m at *
        generalize (xs[i] + y + c) / 4294967296 = q at *
        generalize 4294967296 ^ i = P at *
        generalize hWW : 4294967296 = w at *
        grind
    simp only [hy'.len, OP_some, bin_lss, IfP_dec]
    refine ⟨fun hly => ?_, fun hgy => ?_⟩
    · have hiy : i < ys.length := by omega
      obtain ⟨ib, b1, b2⟩ := hy'.get hiy
      simp only [b1, OP_some, b2]
      exact go _ (ly _ (List.getElem_mem hiy)) (val_take_succ 4294967296 ys hiy)
    · have := go 0 (by decide) (by rw [List.take_of_length_le (by omega), List.take_of_length_le (by omega)]; simp)
      simpa using this
  · have : i = xs.length := by omega
    subst this
    rw [q85z21]
    simp only [hx'.len, OP_some, adr_sl (show xs.length < xs.length + 1 by omega)]
    rw [hd_store _ (by omega)]
    simp only [OH_some]
    have h1 := val_set 4294967296 os xs.length c (by omega)
    rw [hz xs.length (by omega) (Nat.le_refl _)] at h1
    have hv : val 4294967296 (os.set xs.length c) = val 4294967296 xs + val 4294967296 ys := by
      rw [List.take_length, List.take_of_length_le hle] at hval
      omega
    have hcW : c < 4294967296 := Nat.lt_of_le_of_lt hc (by decide)
    have e : sl 116 h.length 0 (xs.length + 1) = sl 116 h.length 0 (os.set xs.length c).length := by rw [List.length_set, hol]
    rw [e]
    refine C83 (hd_DS h _) (hlim.set hcW _) (by rw [List.length_set]; omega) ?_
    intro v' hm
    rw [hv] at hm
    exact hk v' _ (hd_EX h _) hm

theorem C85 {va vb : Value} {a b : Nat} {h : Heap} {K : Value → Heap → Prop} (ha : MagV h va a) (hb : MagV h vb b) (la : a < bigW) (lb : b < bigW) (hk : ∀ v h', EX h h' → MagV h' v (a + b) → K v h') : CallP Tryz.prog 85 [va, vb] h K := by
  obtain ⟨xs, dx, cx, rfl⟩ := ha
  obtain ⟨ys, dy, cy, rfl⟩ := hb
  have l1 := canW_len cx la
  have l2 := canW_len cy lb
  refine f85 ?_
  simp only [T85, dx.len, dy.len, OP_some, bin_lss, IfP_dec]
  refine ⟨fun hlt => ?_, fun hge => ?_⟩
  · refine C85s dy dx cy.1 cx.1 (by omega) (by omega) ?_
    rw [Nat.add_comm (val 4294967296 ys)]
    exact hk
  · exact C85s dx dy cx.1 cy.1 (by omega) (by omega) hk

end Go.Proofs.YthplaillblmgfaaGreatDoor


namespace Go.Proofs.YthplaillblmgfaaGreatDoor
open Go.Sim

theorem bv_of (X : BitVec 32) : BitVec.ofInt IntKind.u32.bits (X.toNat : Int) = X := by
  show BitVec.ofInt 32 (X.toNat : Int) = X
  rw [BitVec.ofInt_natCast, BitVec.ofNat_toNat, BitVec.setWidth_eq]

theorem bv_lt (X : BitVec 32) : X.toNat < 4294967296 := X.isLt

theorem and32 (X Y : BitVec 32) : iBin .and (.int .u32 (X.toNat : Int)) (.int .u32 (Y.toNat : Int)) = some (.int .u32 ((X &&& Y).toNat : Int)) := by
  have h := bv_lt (X &&& Y)
  have e : (BitVec.ofInt IntKind.u32.bits (X.toNat : Int) &&& BitVec.ofInt IntKind.u32.bits (Y.toNat : Int)).toNat = (X &&& Y).toNat := by rw [bv_of, bv_of]; rfl
  simp only [iBin, iInt, if_true]
  rw [e, wrapU32 (by omega) (by omega)]

theorem or32 (X Y : BitVec 32) : iBin .or (.int .u32 (X.toNat : Int)) (.int .u32 (Y.toNat : Int)) = some (.int .u32 ((X ||| Y).toNat : Int)) := by
  have h := bv_lt (X ||| Y)
  have e : (BitVec.ofInt IntKind.u32.bits (X.toNat : Int) ||| BitVec.ofInt IntKind.u32.bits (Y.toNat : Int)).toNat = (X ||| Y).toNat := by rw [bv_of, bv_of]; rfl
  simp only [iBin, iInt, if_true]
  rw [e, wrapU32 (by omega) (by omega)]

theorem xor32 (X Y : BitVec 32) : iBin .xor (.int .u32 (X.toNat : Int)) (.int .u32 (Y.toNat : Int)) = some (.int .u32 ((X ^^^ Y).toNat : Int)) := by
  have h := bv_lt (X ^^^ Y)
  have e : (BitVec.ofInt IntKind.u32.bits (X.toNat : Int) ^^^ BitVec.ofInt IntKind.u32.bits (Y.toNat : Int)).toNat = (X ^^^ Y).toNat := by rw [bv_of, bv_of]; rfl
  simp only [iBin, iInt, if_true]
  rw [e, wrapU32 (by omega) (by omega)]

theorem not32 (X : BitVec 32) : iUn .xor (.int .u32 (X.toNat : Int)) = some (.int .u32 ((~~~X).toNat : Int)) := by
  have h := bv_lt (~~~X)
  have e : (BitVec.ofInt IntKind.u32.bits (if IntKind.u32.signed = true then -1 else IntKind.u32.max) ^^^ BitVec.ofInt IntKind.u32.bits (X.toNat : Int)).toNat = (~~~X).toNat := by
    rw [bv_of]
    show (BitVec.ofInt 32 4294967295 ^^^ X).toNat = _
    rw [show BitVec.ofInt 32 4294967295 = BitVec.allOnes 32 from by decide, BitVec.allOnes_xor]
  simp only [iUn]
  rw [e, wrapU32 (by omega) (by omega)]

theorem top32 (Z : BitVec 32) : iBin .shr (.int .u32 (Z.toNat : Int)) (.int .u64 31) = some (.int .u32 ((if Z.msb then 1 else 0 : Nat) : Int)) := by
  have h := bv_lt Z
  simp only [iBin, iShift]
  rw [if_neg (by omega)]
  have : (min (31 : Int).toNat IntKind.u32.bits) = 31 := rfl
  rw [this]
  have e2 : (2 : Int) ^ 31 = 2147483648 := by decide
  rw [e2, Int.fdiv_eq_ediv_of_nonneg _ (by omega), BitVec.msb_eq_decide]
  congr 2
  by_cases hz : 2 ^ 31 ≤ Z.toNat
  · simp [hz]; omega
  · simp [hz]; omega

theorem C115 {x y b : Nat} {h : Heap} {K : Value → Heap → Prop} (hx : x < 4294967296) (hy : y < 4294967296) (hb : b ≤ 1) (hk : K (.tuple #[.int .u32 (((x + 4294967296 + 4294967296 - y - b) % 4294967296 : Nat) : Int), .int .u32 ((if x < y + b then 1 else 0 : Nat) : Int)]) h) :
    CallP Tryz.prog 115 [.int .u32 (x : Int), .int .u32 (y : Int), .int .u32 (b : Int)] h K := by
  refine f115 ?_
  obtain ⟨X, rfl⟩ : ∃ X : BitVec 32, x = X.toNat := ⟨BitVec.ofNat 32 x, by rw [BitVec.toNat_ofNat]; exact (Nat.mod_eq_of_lt hx).symm⟩
  obtain ⟨Y, rfl⟩ : ∃ Y : BitVec 32, y = Y.toNat := ⟨BitVec.ofNat 32 y, by rw [BitVec.toNat_ofNat]; exact (Nat.mod_eq_of_lt hy).symm⟩
  obtain ⟨D, hD⟩ : ∃ D : BitVec 32, D.toNat = (X.toNat + 4294967296 + 4294967296 - Y.toNat - b) % 4294967296 := ⟨BitVec.ofNat 32 _, by rw [BitVec.toNat_ofNat]⟩
  have e1 : IntKind.wrap .u32 (IntKind.wrap .u32 ((X.toNat : Int) - (Y.toNat : Int)) - (b : Int)) = (D.toNat : Int) := by
    rw [wrapU32e, wrapU32e, hD]; omega
  simp only [T115, bin_sub, OP_some, e1, not32, and32, xor32, or32, top32]
  rw [← hD] at hk
  have e2 : (if (~~~X &&& Y ||| ~~~(X ^^^ Y) &&& D).msb then 1 else 0 : Nat) = if X.toNat < Y.toNat + b then 1 else 0 := by
    rw [BitVec.msb_or, BitVec.msb_and, BitVec.msb_and, BitVec.msb_not, BitVec.msb_not, BitVec.msb_xor, BitVec.msb_eq_decide X, BitVec.msb_eq_decide Y, BitVec.msb_eq_decide D]
    by_cases c1 : 2 ^ (32 - 1) ≤ X.toNat <;> by_cases c2 : 2 ^ (32 - 1) ≤ Y.toNat <;> by_cases c3 : 2 ^ (32 - 1) ≤ D.toNat <;> simp [c1, c2, c3] <;> omega
  rw [e2]
  exact hk

theorem C87 {va vb : Value} {a b : Nat} {h : Heap} {K : Value → Heap → Prop} (ha : MagV h va a) (hb : MagV h vb b) (la : a < bigW) (hab : b ≤ a) (hk : ∀ v h', EX h h' → MagV h' v (a - b) → K v h') : CallP Tryz.prog 87 [va, vb] h K := by
  obtain ⟨xs, hx, cx, rfl⟩ := ha
  obtain ⟨ys, hy, cy, rfl⟩ := hb
  have l1 := canW_len cx la
  have l2 := canW_len cy (Nat.lt_of_le_of_lt hab la)
  have hle : ys.length ≤ xs.length := by
    apply Classical.byContradiction
    intro hc
    have := Canon.lt_of_len (by decide) cx cy (by omega)
    omega
  refine f87 ?_
  simp only [T87, hx.len, OP_some, make_hd (show xs.length ≤ 1000 by omega), OH_some]
  have hW : (0 : Nat) < 4294967296 := by decide
  refine loopL (σ := Nat × Nat × List Nat) (fun p => [.int .u32 (p.1 : Int), I p.2.1]) (fun p => hd h p.2.2)
    (fun p => p.2.1 ≤ xs.length ∧ p.1 ≤ 1 ∧ p.2.2.length = xs.length ∧ Lim 4294967296 p.2.2 ∧ (∀ j (hj : j < p.2.2.length), p.2.1 ≤ j → p.2.2[j] = 0) ∧ val 4294967296 p.2.2 + val 4294967296 (ys.take p.2.1) = val 4294967296 (xs.take p.2.1) + 4294967296 ^ p.2.1 * p.1) (fun p => xs.length - p.2.1)
    (0, 0, List.replicate xs.length 0) rfl rfl ⟨by simp, by simp, by simp, Lim.zeros hW _, by simp, by simp [val_zeros, val]⟩ ?_
  rintro ⟨c, i, os⟩ ⟨hi, hc, hol, hlim, hz, hval⟩ L hL
  simp only at hi hc hol hlim hz hval hL ⊢
  rw [q87z7]
  have hx' := hx.mono (hd_EX h os)
  have hy' := hy.mono (hd_EX h os)
  simp only [bin_lss, OP_some, IfP_dec]
  refine ⟨fun hlt => ?_, fun hge => ?_⟩
  · have hil : i < xs.length := by omega
    obtain ⟨ia, a1, a2⟩ := hx'.get hil
    have hxl : xs[i] < 4294967296 := cx.1 _ (List.getElem_mem hil)
    have go : ∀ y : Nat, y < 4294967296 → val 4294967296 (ys.take (i + 1)) = val 4294967296 (ys.take i) + 4294967296 ^ i * y → p87z16 Tryz.prog K va vb (sl 116 h.length 0 xs.length) (.int .u32 (c : Int)) (I i) (.int .u32 (y : Int)) (I xs.length) (I i) L (hd h os) := by
      intro y hyl hyv
      rw [q87z16]
      simp only [a1, OP_some, a2]
      refine C115 hxl hyl hc ?_
      simp only [ext_tuple, pair0, pair1, OP_some, adr_sl hil]
      rw [hd_store _ (by omega)]
      simp only [OH_some, q87z17, bin_add, OP_some, inc i (by omega), true_and]
      have hmod : (xs[i] + 4294967296 + 4294967296 - y - c) % 4294967296 < 4294967296 := Nat.mod_lt _ hW
      have hb1 : (if xs[i] < y + c then 1 else 0) ≤ 1 := by split <;> omega
      have hs : (xs[i] + 4294967296 + 4294967296 - y - c) % 4294967296 + y + c = xs[i] + 4294967296 * (if xs[i] < y + c then 1 else 0) := by
        split <;> omega
      refine hL ((if xs[i] < y + c then 1 else 0), i + 1, os.set i ((xs[i] + 4294967296 + 4294967296 - y - c) % 4294967296)) ⟨by show i + 1 ≤ xs.length; omega, hb1, by show (os.set i _).length = _; rw [List.length_set]; exact hol, hlim.set hmod i, ?_, ?_⟩ (by show xs.length - (i + 1) < xs.length - i; omega)
      · intro j hj hij
        show (os.set i _)[j] = 0
        have hij' : i ≠ j := by have : i + 1 ≤ j := hij; omega
        rw [List.getElem_set_ne hij']
        exact hz j (by simpa using hj) (by have : i + 1 ≤ j := hij; omega)
      · show val 4294967296 (os.set i _) + val 4294967296 (ys.take (i + 1)) = val 4294967296 (xs.take (i + 1)) + 4294967296 ^ (i + 1) * _
        have h1 := val_set 4294967296 os i ((xs[i] + 4294967296 + 4294967296 - y - c) % 4294967296) (by omega)
        rw [hz i (by omega) (Nat.le_refl _)] at h1
        rw [val_take_succ 4294967296 xs hil, hyv, Nat.pow_succ]
        generalize (xs[i] + 4294967296 + 4294967296 - y - c) % 4294967296 = m at *
        generalize (if xs[i] < y + c then 1 else 0) = q at *
        generalize 4294967296 ^ i = P at *
        generalize (4294967296 : Nat) = w at *
        grind
    simp only [hy'.len, OP_some, bin_lss, IfP_dec]
    refine ⟨fun hly => ?_, fun hgy => ?_⟩
    · have hiy : i < ys.length := by omega
      obtain ⟨ib, b1, b2⟩ := hy'.get hiy
      simp only [b1, OP_some, b2]
      exact go _ (cy.1 _ (List.getElem_mem hiy)) (val_take_succ 4294967296 ys hiy)
    · have := go 0 (by decide) (by rw [List.take_of_length_le (by omega), List.take_of_length_le (by omega)]; simp)
      simpa using this
  · have : i = xs.length := by omega
    subst this
    rw [q87z18]
    rw [List.take_length, List.take_of_length_le hle] at hval
    have hlt := val_lt hlim
    rw [hol] at hlt
    have hc0 : c = 0 := by
      apply Classical.byContradiction
      intro hne
      have : c = 1 := by omega
      subst this
      omega
    subst hc0
    have hv : val 4294967296 os = val 4294967296 xs - val 4294967296 ys := by omega
    have e : sl 116 h.length 0 xs.length = sl 116 h.length 0 os.length := by rw [hol]
    rw [e]
    refine C83 (hd_DS h _) hlim (by omega) ?_
    intro v' hm
    rw [hv] at hm
    exact hk v' _ (hd_EX h _) hm

def sgn (a b : Nat) : Int := if a < b then -1 else if b < a then 1 else 0

/-- The greater one by its first digit from above. -/
theorem val_lt_of_top {B : Nat} {xs ys : List Nat} (lx : Lim B xs) (ly : Lim B ys) (hl : xs.length = ys.length) {i : Nat} (hi : i < xs.length) (hd : xs.drop (i + 1) = ys.drop (i + 1)) (h : xs[i] < ys[i]'(by omega)) : val B xs < val B ys := by
  have e1 : xs = xs.take i ++ xs[i] :: xs.drop (i + 1) := by rw [← List.drop_eq_getElem_cons hi, List.take_append_drop]
  have e2 : ys = ys.take i ++ ys[i]'(by omega) :: ys.drop (i + 1) := by rw [← List.drop_eq_getElem_cons (by omega), List.take_append_drop]
  have v1 : val B xs = val B (xs.take i) + B ^ i * (xs[i] + B * val B (xs.drop (i + 1))) := by
    conv => lhs; rw [e1]
    rw [val_append, List.length_take, Nat.min_eq_left (by omega)]; rfl
  have v2 : val B ys = val B (ys.take i) + B ^ i * (ys[i]'(by omega) + B * val B (ys.drop (i + 1))) := by
    conv => lhs; rw [e2]
    rw [val_append, List.length_take, Nat.min_eq_left (by omega)]; rfl
  rw [v1, v2, hd]
  have h1 := val_lt (lx.mono (ys := xs.take i) fun y hy => List.mem_of_mem_take hy)
  rw [List.length_take, Nat.min_eq_left (by omega)] at h1
  have h2 : B ^ i * (xs[i] + 1 + B * val B (ys.drop (i + 1))) ≤ B ^ i * (ys[i]'(by omega) + B * val B (ys.drop (i + 1))) := Nat.mul_le_mul_left _ (by omega)
  generalize B ^ i = P at *
  generalize B * val B (ys.drop (i + 1)) = Q at *
  generalize val B (xs.take i) = u at *
  generalize val B (ys.take i) = v at *
  have h3 : P * (xs[i] + 1 + Q) = P * (xs[i] + Q) + P := by grind
  omega

theorem C86 {va vb : Value} {a b : Nat} {h : Heap} {K : Value → Heap → Prop} (ha : MagV h va a) (hb : MagV h vb b) (la : a < bigW) (lb : b < bigW) (hk : K (I (sgn a b)) h) : CallP Tryz.prog 86 [va, vb] h K := by
  obtain ⟨xs, hx, cx, rfl⟩ := ha
  obtain ⟨ys, hy, cy, rfl⟩ := hb
  have l1 := canW_len cx la
  have l2 := canW_len cy lb
  have less : val 4294967296 xs < val 4294967296 ys → K (.int .i64 (-1)) h := fun h1 => by unfold sgn at hk; rw [if_pos h1] at hk; exact hk
  have more : val 4294967296 ys < val 4294967296 xs → K (.int .i64 1) h := fun h1 => by unfold sgn at hk; rw [if_neg (by omega), if_pos h1] at hk; exact hk
  have same : val 4294967296 xs = val 4294967296 ys → K (.int .i64 0) h := fun h1 => by unfold sgn at hk; rw [if_neg (by omega), if_neg (by omega)] at hk; exact hk
  refine f86 ?_
  simp only [T86, hx.len, hy.len, OP_some, bin_neq, IfP_ndec, bin_lss, IfP_dec]
  refine ⟨fun hne => ⟨fun hlt => less (Canon.lt_of_len (by decide) cx cy (by omega)), fun hge => more (Canon.lt_of_len (by decide) cy cx (by omega))⟩, fun he => ?_⟩
  have he' : xs.length = ys.length := by omega
  simp only [bin_sub, OP_some]
  have e1 : IntKind.wrap .i64 ((xs.length : Int) - 1) = (xs.length : Int) - 1 := by rw [wrap64 (by omega) (by omega)]
  rw [e1]
  refine loopL (σ := Nat) (fun i => [I ((i : Int) - 1)]) (fun _ => h) (fun i => i ≤ xs.length ∧ xs.drop i = ys.drop i) (fun i => i) xs.length rfl rfl ⟨Nat.le_refl _, by rw [List.drop_length, he', List.drop_length]⟩ ?_
  rintro i ⟨hi, hdr⟩ L hL
  rw [q86z11]
  simp only [bin_geq, OP_some, IfP_dec]
  refine ⟨fun hge => ?_, fun hlt => ?_⟩
  · obtain ⟨j, rfl⟩ : ∃ j, i = j + 1 := ⟨i - 1, by omega⟩
    have ej : (((j + 1 : Nat) : Int) - 1) = (j : Int) := by omega
    rw [ej]
    obtain ⟨ia, a1, a2⟩ := hx.get (j := j) (by omega)
    obtain ⟨ib, b1, b2⟩ := hy.get (j := j) (by omega)
    simp only [a1, a2, b1, b2, OP_some, true_and, bin_neq, IfP_ndec, bin_lss, IfP_dec]
    refine ⟨fun hne => ⟨fun hlt => less (val_lt_of_top cx.1 cy.1 he' (i := j) (by omega) hdr (by omega)), fun hge => more (val_lt_of_top cy.1 cx.1 he'.symm (i := j) (by omega) hdr.symm (by omega))⟩, fun heq => ?_⟩
    simp only [bin_sub, OP_some]
    rw [wrap64 (by omega) (by omega)]
    refine hL j ⟨by omega, ?_⟩ (by omega)
    rw [List.drop_eq_getElem_cons (by omega), List.drop_eq_getElem_cons (show j < ys.length by omega), hdr]
    congr 1
    omega
  · have : i = 0 := by omega
    subst this
    rw [List.drop_zero, List.drop_zero] at hdr
    exact same (by rw [hdr])

end Go.Proofs.YthplaillblmgfaaGreatDoor


namespace Go.Proofs.YthplaillblmgfaaGreatDoor
open Go.Sim

/-! ### With a sign -/

/-- An integer: whether it is below 0, and its size. -/
def IntV (h : Heap) (val : Value) (z : Int) : Prop := ∃ v, val = .agg #[B (decide (z < 0)), v] ∧ MagV h v z.natAbs

theorem IntV.mono {h h' : Heap} {v : Value} {z : Int} (x : EX h h') (p : IntV h v z) : IntV h' v z := let ⟨w, a, b⟩ := p; ⟨w, a, b.mono x⟩

theorem MagV.len0 {h : Heap} {v : Value} {n : Nat} (p : MagV h v n) : ∃ l : Nat, iLenSl v = some (I l) ∧ (0 < l ↔ 0 < n) := by
  obtain ⟨xs, d, c, rfl⟩ := p
  refine ⟨xs.length, d.len, ?_⟩
  constructor
  · intro h0
    have := Canon.low (by decide) c (by rintro rfl; simp at h0)
    have : 0 < 4294967296 ^ (xs.length - 1) := Nat.pow_pos (by decide)
    omega
  · intro h0
    cases xs with
    | nil => simp [val] at h0
    | cons x xs => simp

/-- Nothing of a number is lost if an object that begins with a truth value is written. -/
theorem MagV.setB {h : Heap} {v : Value} {n j : Nat} {e : TypeId} {b : Bool} {r : List Value} (p : MagV h v n) (hj : h[j]? = some (.arr e (.bool b :: r))) (o : IObj) : MagV (h.set j o) v n := by
  obtain ⟨xs, d, c, hv⟩ := p
  refine ⟨xs, ?_, c, hv⟩
  rcases d with d | ⟨i, h1, h2⟩
  · exact .inl d
  · refine .inr ⟨i, h1, ?_⟩
    rcases h2 with h2 | ⟨rest, h2⟩
    · exact .inl h2
    · cases xs with
      | nil => exact .inl rfl
      | cons x xs =>
        right
        refine ⟨rest, ?_⟩
        have hne : j ≠ i := by
          rintro rfl
          unfold objCells at h2
          rw [hj] at h2
          simp at h2
        unfold objCells at h2 ⊢
        rw [List.getElem?_set_ne hne]
        exact h2

theorem IntV.setB {h : Heap} {v : Value} {z : Int} {j : Nat} {e : TypeId} {b : Bool} {r : List Value} (p : IntV h v z) (hj : h[j]? = some (.arr e (.bool b :: r))) (o : IObj) : IntV (h.set j o) v z :=
  let ⟨w, a, q⟩ := p; ⟨w, a, q.setB hj o⟩

theorem store2 {h : Heap} {i : Nat} {e : TypeId} {a b x y : Value} (hg : h[i]? = some (.arr e [a, b])) : oStore 2 h (pt i 0) (.agg #[x, y]) = some (undef, h.set i (.arr e [x, y])) := by
  simp [oStore, iStore, hg, noTuple, vcells, Value.cells, setAt]

theorem load2 {h : Heap} {i : Nat} {e : TypeId} {a b : Value} (hg : h[i]? = some (.arr e [a, b])) : iLoad true 2 h (pt i 0) = some (.agg #[a, b]) := by
  simp [iLoad, objCells, hg, iPart]

theorem set_get {h : Heap} {i : Nat} {o o' : IObj} (hg : h[i]? = some o') : (h.set i o)[i]? = some o := by
  rw [List.getElem?_set_self (List.getElem?_eq_some_iff.1 hg).1]

theorem C82 {v : Value} {n : Nat} {b : Bool} {h : Heap} {K : Value → Heap → Prop} (hm : MagV h v n) (hk : ∀ h', EX h h' → K (.agg #[B (b && decide (0 < n)), v]) h') : CallP Tryz.prog 82 [B b, v] h K := by
  refine f82 ?_
  have al : iAlloc 81 [(.bool false), (.slice none 0 0)] h = some (pt h.length 0, h ++ [.arr 81 [(.bool false), (.slice none 0 0)]]) := rfl
  simp only [T82, al, OH_some]
  obtain ⟨l, h1, h2⟩ := hm.len0
  have hg : (h ++ [IObj.arr 81 [(.bool false), (.slice none 0 0)]])[h.length]? = some (.arr 81 [(.bool false), (.slice none 0 0)]) := get_last
  have hx : EX h (h ++ [IObj.arr 81 [(.bool false), (.slice none 0 0)]]) := EX.append _ _
  have fin : p82z6 Tryz.prog K v (pt h.length 0) (B b) (B (decide (0 < l))) (h ++ [IObj.arr 81 [(.bool false), (.slice none 0 0)]]) ∧ (b = false → p82z6 Tryz.prog K v (pt h.length 0) (B b) undef (h ++ [IObj.arr 81 [(.bool false), (.slice none 0 0)]])) := by
    have one : ∀ c : Bool, c = (b && decide (0 < n)) → OP (iBuild [(.bool false), (.slice none 0 0)] [(0, 1, B c), (1, 1, v)]) fun x12 => OH (oStore 2 (h ++ [IObj.arr 81 [(.bool false), (.slice none 0 0)]]) (pt h.length 0) x12) fun _ h_1 => OP (iLoad true 2 h_1 (pt h.length 0)) fun r0 => K r0 h_1 := by
      rintro c rfl
      have eb : iBuild [(.bool false), (.slice none 0 0)] [(0, 1, B (b && decide (0 < n))), (1, 1, v)] = some (.agg #[B (b && decide (0 < n)), v]) := by
        obtain ⟨xs, d, _, _⟩ := hm
        rcases d with ⟨rfl, _⟩ | ⟨i, rfl, _⟩ <;> rfl
      simp only [eb, OP_some]
      rw [store2 hg]
      simp only [OH_some]
      rw [load2 (set_get hg)]
      simp only [OP_some]
      exact hk _ (hx.set (Nat.le_refl _) _)
    constructor
    · rw [q82z6]
      cases b with
      | true => simp only [iPick_t, OP_some]; exact one _ (by simp [h2])
      | false => simp only [iPick_f, OP_some]; exact one _ (by simp)
    · rintro rfl
      rw [q82z6]
      simp only [iPick_f, OP_some]
      exact one _ (by simp)
  rw [q82z4]
  have e0 : decide ((0 : Int) < (l : Int)) = decide (0 < l) := by
    by_cases h0 : 0 < l
    · simp [h0]
    · simp [h0]
  cases b with
  | true =>
    simp only [GdP_tt, h1, OP_some, bin_gtr, e0]
    exact fin.1
  | false =>
    simp only [GdP_ft]
    exact fin.2 rfl

end Go.Proofs.YthplaillblmgfaaGreatDoor


namespace Go.Proofs.YthplaillblmgfaaGreatDoor
open Go.Sim

theorem fin2 {h' : Heap} {j : Nat} {b0 v0 b v : Value} {K : Value → Heap → Prop} (hg : h'[j]? = some (.arr 81 [b0, v0])) (hk : K (.agg #[b, v]) (h'.set j (.arr 81 [b, v]))) :
    OH (oStore 2 h' (pt j 0) (.agg #[b, v])) fun _ h6 => OP (iLoad true 2 h6 (pt j 0)) fun r0 => K r0 h6 := by
  rw [store2 hg]
  simp only [OH_some]
  rw [load2 (set_get hg)]
  exact OP_some.2 hk

/-- Two integers boxed, and a place for the result. -/
structure Box2 (h : Heap) (va vb : Value) (sa sb : Bool) (h3 : Heap) : Prop where
  ex : EX h h3
  a0 : iLoad false 1 h3 (pt h.length 0) = some (B sa)
  a1 : iLoad false 1 h3 (pt h.length 1) = some va
  b0 : iLoad false 1 h3 (pt (h.length + 1) 0) = some (B sb)
  b1 : iLoad false 1 h3 (pt (h.length + 1) 1) = some vb
  a2 : iLoad true 2 h3 (pt h.length 0) = some (.agg #[B sa, va])
  b2 : iLoad true 2 h3 (pt (h.length + 1) 0) = some (.agg #[B sb, vb])
  out : h3[h.length + 2]? = some (.arr 81 [.bool false, .slice none 0 0])

theorem box2 {h : Heap} {va vb : Value} {sa sb : Bool} {K : Value → Value → Value → Heap → Prop} (hk : ∀ h3, Box2 h va vb sa sb h3 → K (pt h.length 0) (pt (h.length + 1) 0) (pt (h.length + 2) 0) h3) :
    OH (iBox 81 h (.agg #[B sa, va])) fun a2 h_1 => OH (iBox 81 h_1 (.agg #[B sb, vb])) fun b3 h_2 => OH (iAlloc 81 [(.bool false), (.slice none 0 0)] h_2) fun x4 h_3 => K a2 b3 x4 h_3 := by
  have e1 : ∀ (g : Heap) (s : Bool) (v : Value), iBox 81 g (.agg #[B s, v]) = some (pt g.length 0, g ++ [.arr 81 [B s, v]]) := fun _ _ _ => rfl
  have e2 : ∀ (g : Heap), iAlloc 81 [(.bool false), (.slice none 0 0)] g = some (pt g.length 0, g ++ [.arr 81 [(.bool false), (.slice none 0 0)]]) := fun _ => rfl
  simp only [e1, e2, OH_some, List.length_append, List.length_cons, List.length_nil]
  have g0 : (h ++ [IObj.arr 81 [B sa, va]] ++ [IObj.arr 81 [B sb, vb]] ++ [IObj.arr 81 [(.bool false), (.slice none 0 0)]])[h.length]? = some (.arr 81 [B sa, va]) := by simp
  have g1 : (h ++ [IObj.arr 81 [B sa, va]] ++ [IObj.arr 81 [B sb, vb]] ++ [IObj.arr 81 [(.bool false), (.slice none 0 0)]])[h.length + 1]? = some (.arr 81 [B sb, vb]) := by simp
  have g2 : (h ++ [IObj.arr 81 [B sa, va]] ++ [IObj.arr 81 [B sb, vb]] ++ [IObj.arr 81 [(.bool false), (.slice none 0 0)]])[h.length + 2]? = some (.arr 81 [(.bool false), (.slice none 0 0)]) := by simp
  refine hk _ ⟨((EX.append _ _).push _).push _, ?_, ?_, ?_, ?_, load2 g0, load2 g1, g2⟩
  · simp [iLoad, objCells, iPart]
  · simp [iLoad, objCells, iPart]
  · simp [iLoad, objCells, iPart]
  · simp [iLoad, objCells, iPart]

theorem C46 {n : Int} {h : Heap} {K : Value → Heap → Prop} (h1 : -9223372036854775808 ≤ n) (h2 : n < 9223372036854775808) (hk : ∀ r h', EX h h' → IntV h' r n → K r h') : CallP Tryz.prog 46 [I n] h K := by
  refine f46 ?_
  have e2 : iAlloc 81 [(.bool false), (.slice none 0 0)] h = some (pt h.length 0, h ++ [.arr 81 [(.bool false), (.slice none 0 0)]]) := rfl
  simp only [T46, e2, OH_some]
  have x1 : EX h (h ++ [IObj.arr 81 [(.bool false), (.slice none 0 0)]]) := EX.append _ _
  have g1 : (h ++ [IObj.arr 81 [(.bool false), (.slice none 0 0)]])[h.length]? = some (.arr 81 [(.bool false), (.slice none 0 0)]) := get_last
  generalize h ++ [IObj.arr 81 [(.bool false), (.slice none 0 0)]] = hA at x1 g1 ⊢
  have go : ∀ u : Nat, u = n.natAbs → p46z5 Tryz.prog K (I n) (pt h.length 0) (.int .u64 (u : Int)) hA := by
    intro u hu
    rw [q46z5]
    have ew : IntKind.wrap .u32 (u : Int) = ((u % 4294967296 : Nat) : Int) := by rw [wrapU32e]; omega
    simp only [bin_lss, OP_some, conv_int, shr32, ew]
    rw [wrapU32 (n := ((u / 4294967296 : Nat) : Int)) (by omega) (by omega)]
    have mk : iMkSl 116 2 [.int .u32 0] hA [(0, 1, .int .u32 ((u % 4294967296 : Nat) : Int)), (1, 1, .int .u32 ((u / 4294967296 : Nat) : Int))] = some (sl 116 hA.length 0 2, hd hA [u % 4294967296, u / 4294967296]) := rfl
    simp only [mk, OH_some]
    have hl : Lim 4294967296 [u % 4294967296, u / 4294967296] := by
      intro x hx
      simp at hx
      rcases hx with rfl | rfl <;> omega
    refine C83 (hd_DS hA [u % 4294967296, u / 4294967296]) hl (by simp) ?_
    intro v hv
    have hval : val 4294967296 [u % 4294967296, u / 4294967296] = n.natAbs := by simp [val]; omega
    rw [hval] at hv
    refine C82 hv ?_
    intro h' x'
    have xx := (hd_EX hA [u % 4294967296, u / 4294967296]).trans x'
    have g' := xx.get g1
    refine fin2 g' (hk _ _ ((x1.trans xx).set (Nat.le_refl _) _) ⟨v, ?_, (hv.mono x').setB g' _⟩)
    have : (decide (n < 0) && decide (0 < n.natAbs)) = decide (n < 0) := by
      by_cases hn : n < 0
      · simp [hn]; omega
      · simp [hn]
    rw [this]
  simp only [conv_int, OP_some, bin_lss, IfP_dec]
  refine ⟨fun hn => ?_, fun hn => ?_⟩
  · have e3 : iUn .neg (.int .u64 (IntKind.wrap .u64 n)) = some (.int .u64 ((n.natAbs : Nat) : Int)) := by
      have e : ∀ m : Int, IntKind.wrap .u64 m = m % 18446744073709551616 := fun m => by simp [IntKind.wrap, IntKind.bits, IntKind.signed]
      simp only [iUn]
      rw [e, e]
      congr 2
      omega
    simp only [e3, OP_some]
    exact go _ rfl
  · have : IntKind.wrap .u64 n = ((n.natAbs : Nat) : Int) := by rw [wrapU64 (by omega) (by omega)]; omega
    rw [this]
    exact go _ rfl

theorem C48 {va vb : Value} {a b : Int} {h : Heap} {K : Value → Heap → Prop} (ha : IntV h va a) (hb : IntV h vb b) (la : a.natAbs < bigW) (lb : b.natAbs < bigW) (hk : ∀ r h', EX h h' → IntV h' r (a + b) → K r h') : CallP Tryz.prog 48 [va, vb] h K := by
  obtain ⟨v, rfl, hv⟩ := ha
  obtain ⟨w, rfl, hw⟩ := hb
  refine f48 ?_
  unfold T48
  refine box2 ?_
  intro h3 x
  have hv3 := hv.mono x.ex
  have hw3 := hw.mono x.ex
  simp only [fadr_pt, Nat.add_zero, Nat.zero_add, OP_some, x.a0, x.a1, x.b0, x.b1, eqb_bool, Bool.false_eq_true, if_false]
  refine IfP_of (fun he => ?_) fun hne => ?_
  · have hs : decide (a < 0) = decide (b < 0) := by simpa using he
    have hs' : (a < 0 ↔ b < 0) := by simpa using hs
    simp only [true_and]
    refine C85 hv3 hw3 la lb ?_
    intro u h4 x4 hu
    refine ⟨⟨EX.load x4 x.a0, trivial⟩, ?_⟩
    refine C82 hu ?_
    intro h5 x5
    have g' := (x4.trans x5).get x.out
    refine fin2 g' (hk _ _ (((x.ex.trans x4).trans x5).set (by omega) _) ⟨u, ?_, ?_⟩)
    · have : (decide (a < 0) && decide (0 < a.natAbs + b.natAbs)) = decide (a + b < 0) := by
        by_cases h0 : a < 0
        · rw [decide_eq_true h0, decide_eq_true (show 0 < a.natAbs + b.natAbs by omega), decide_eq_true (show a + b < 0 by omega)]; rfl
        · rw [decide_eq_false h0, decide_eq_false (show ¬ a + b < 0 by omega)]; rfl
      rw [this]
    · have : (a + b).natAbs = a.natAbs + b.natAbs := by omega
      rw [this]
      exact (hu.mono x5).setB g' _
  · have hs : decide (a < 0) ≠ decide (b < 0) := by simpa using hne
    have hs' : ¬ (a < 0 ↔ b < 0) := fun h => hs (decide_eq_decide.2 h)
    refine C86 hv3 hw3 la lb ?_
    simp only [bin_geq, OP_some, IfP_dec]
    refine ⟨fun hge => ?_, fun hlt => ?_⟩
    · have hle : b.natAbs ≤ a.natAbs := by
        apply Classical.byContradiction
        intro hc
        unfold sgn at hge
        rw [if_pos (by omega)] at hge
        omega
      simp only [x.a0, x.a1, x.b1, OP_some, true_and]
      refine C87 hv3 hw3 la hle ?_
      intro u h4 x4 hu
      refine ⟨⟨EX.load x4 x.a0, trivial⟩, ?_⟩
      refine C82 hu ?_
      intro h5 x5
      have g' := (x4.trans x5).get x.out
      refine fin2 g' (hk _ _ (((x.ex.trans x4).trans x5).set (by omega) _) ⟨u, ?_, ?_⟩)
      · have : (decide (a < 0) && decide (0 < a.natAbs - b.natAbs)) = decide (a + b < 0) := by
          by_cases h0 : a < 0
          · by_cases h6 : 0 < a.natAbs - b.natAbs
            · rw [decide_eq_true h0, decide_eq_true h6, decide_eq_true (show a + b < 0 by omega)]; rfl
            · rw [decide_eq_true h0, decide_eq_false h6, decide_eq_false (show ¬ a + b < 0 by omega)]; rfl
          · rw [decide_eq_false h0, decide_eq_false (show ¬ a + b < 0 by omega)]; rfl
        rw [this]
      · have : (a + b).natAbs = a.natAbs - b.natAbs := by omega
        rw [this]
        exact (hu.mono x5).setB g' _
    · have hle : a.natAbs ≤ b.natAbs := by
        apply Classical.byContradiction
        intro hc
        unfold sgn at hlt
        rw [if_neg (by omega), if_pos (by omega)] at hlt
        omega
      simp only [x.b0, x.a1, x.b1, OP_some, true_and]
      refine C87 hw3 hv3 lb hle ?_
      intro u h4 x4 hu
      refine ⟨⟨EX.load x4 x.b0, trivial⟩, ?_⟩
      refine C82 hu ?_
      intro h5 x5
      have g' := (x4.trans x5).get x.out
      refine fin2 g' (hk _ _ (((x.ex.trans x4).trans x5).set (by omega) _) ⟨u, ?_, ?_⟩)
      · have : (decide (b < 0) && decide (0 < b.natAbs - a.natAbs)) = decide (a + b < 0) := by
          by_cases h0 : b < 0
          · by_cases h6 : 0 < b.natAbs - a.natAbs
            · rw [decide_eq_true h0, decide_eq_true h6, decide_eq_true (show a + b < 0 by omega)]; rfl
            · rw [decide_eq_true h0, decide_eq_false h6, decide_eq_false (show ¬ a + b < 0 by omega)]; rfl
          · rw [decide_eq_false h0, decide_eq_false (show ¬ a + b < 0 by omega)]; rfl
        rw [this]
      · have : (a + b).natAbs = b.natAbs - a.natAbs := by omega
        rw [this]
        exact (hu.mono x5).setB g' _

end Go.Proofs.YthplaillblmgfaaGreatDoor


namespace Go.Proofs.YthplaillblmgfaaGreatDoor
open Go.Sim

theorem shl32 {r : Nat} (hr : r < 4294967296) : iBin .shl (.int .u64 (r : Int)) (.int .u64 32) = some (.int .u64 ((r * 4294967296 : Nat) : Int)) := by
  simp only [iBin, iShift]
  rw [if_neg (by omega)]
  have : (min (32 : Int).toNat IntKind.u64.bits) = 32 := rfl
  rw [this]
  have e2 : (2 : Int) ^ 32 = 4294967296 := by decide
  rw [e2, wrapU64 (by omega) (by omega)]
  congr 2

theorem or64 {r x : Nat} (hr : r < 4294967296) (hx : x < 4294967296) : iBin .or (.int .u64 ((r * 4294967296 : Nat) : Int)) (.int .u64 (x : Int)) = some (.int .u64 ((r * 4294967296 + x : Nat) : Int)) := by
  have e : (BitVec.ofInt IntKind.u64.bits ((r * 4294967296 : Nat) : Int) ||| BitVec.ofInt IntKind.u64.bits (x : Int)).toNat = r * 4294967296 + x := by
    show (BitVec.ofInt 64 ((r * 4294967296 : Nat) : Int) ||| BitVec.ofInt 64 (x : Int)).toNat = _
    rw [BitVec.ofInt_natCast, BitVec.ofInt_natCast, BitVec.toNat_or, BitVec.toNat_ofNat, BitVec.toNat_ofNat, Nat.mod_eq_of_lt (by omega), Nat.mod_eq_of_lt (by omega)]
    have := Nat.two_pow_add_eq_or_of_lt (i := 32) (b := x) (by omega) r
    rw [Nat.mul_comm r]
    exact this.symm
  simp only [iBin, iInt, if_true]
  rw [e, wrapU64 (by omega) (by omega)]

theorem quo64 {a b : Nat} (hb : b ≠ 0) (ha : a < 18446744073709551616) : iBin .quo (.int .u64 (a : Int)) (.int .u64 (b : Int)) = some (.int .u64 ((a / b : Nat) : Int)) := by
  have h : ¬ ((b : Int) = 0) := by omega
  have h2 : a / b ≤ a := Nat.div_le_self _ _
  simp only [iBin, iInt, if_true, if_neg h]
  have e : (a : Int).tdiv (b : Int) = ((a / b : Nat) : Int) := rfl
  rw [e]
  generalize a / b = q at *
  rw [wrapU64 (by omega) (by omega)]

theorem C116 {va : Value} {a w : Nat} {h : Heap} {K : Value → Heap → Prop} (ha : MagV h va a) (la : a < bigW) (w0 : 0 < w) (wW : w < 4294967296) (hk : ∀ v h', EX h h' → MagV h' v (a / w) → K (.tuple #[v, .int .u32 ((a % w : Nat) : Int)]) h') :
    CallP Tryz.prog 116 [va, .int .u32 (w : Int)] h K := by
  obtain ⟨xs, hx, cx, rfl⟩ := ha
  have l1 := canW_len cx la
  have hW : (0 : Nat) < 4294967296 := by decide
  refine f116 ?_
  have e1 : IntKind.wrap .i64 ((xs.length : Int) - 1) = (xs.length : Int) - 1 := by rw [wrap64 (by omega) (by omega)]
  simp only [T116, hx.len, OP_some, make_hd (show xs.length ≤ 1000 by omega), OH_some, bin_sub, e1]
  refine loopL (σ := Nat × Nat × List Nat) (fun p => [.int .u64 (p.1 : Int), I ((p.2.1 : Int) - 1)]) (fun p => hd h p.2.2)
    (fun p => p.2.1 ≤ xs.length ∧ p.1 < w ∧ p.2.2.length = xs.length ∧ Lim 4294967296 p.2.2 ∧ val 4294967296 (xs.drop p.2.1) = w * val 4294967296 (p.2.2.drop p.2.1) + p.1) (fun p => p.2.1)
    (0, xs.length, List.replicate xs.length 0) rfl rfl ⟨Nat.le_refl _, w0, by simp, Lim.zeros hW _, by simp [val]⟩ ?_
  rintro ⟨r, i, os⟩ ⟨hi, hr, hol, hlim, hval⟩ L hL
  simp only at hi hr hol hlim hval hL ⊢
  rw [q116z7]
  have hx' := hx.mono (hd_EX h os)
  simp only [bin_geq, OP_some, IfP_dec]
  refine ⟨fun hge => ?_, fun hlt => ?_⟩
  · obtain ⟨j, rfl⟩ : ∃ j, i = j + 1 := ⟨i - 1, by omega⟩
    have ej : (((j + 1 : Nat) : Int) - 1) = (j : Int) := by omega
    rw [ej]
    obtain ⟨ia, a1, a2⟩ := hx'.get (j := j) (by omega)
    have hxl : xs[j]'(by omega) < 4294967296 := cx.1 _ (List.getElem_mem _)
    have hdx : xs.drop j = xs[j]'(by omega) :: xs.drop (j + 1) := List.drop_eq_getElem_cons (by omega)
    generalize xs[j]'(by omega) = x at a2 hxl hdx
    simp only [shl32 (show r < 4294967296 by omega), OP_some, a1, a2, conv_int]
    rw [wrapU64 (n := (x : Int)) (by omega) (by omega)]
    simp only [or64 (show r < 4294967296 by omega) hxl, OP_some, conv_int]
    rw [wrapU64 (n := (w : Int)) (by omega) (by omega)]
    have ht : r * 4294967296 + x < w * 4294967296 := by omega
    have hq : (r * 4294967296 + x) / w < 4294967296 := (Nat.div_lt_iff_lt_mul w0).2 (by omega)
    have hm := Nat.mod_lt (r * 4294967296 + x) w0
    have hdm := Nat.div_add_mod (r * 4294967296 + x) w
    rw [quo64 (by omega) (by omega), rem_nat _ _ _ (by omega)]
    generalize (r * 4294967296 + x) / w = q at *
    generalize (r * 4294967296 + x) % w = m at *
    simp only [OP_some, conv_int]
    rw [wrapU32 (n := (q : Int)) (by omega) (by omega), adr_sl (show j < xs.length by omega)]
    simp only [OP_some]
    rw [hd_store _ (by omega)]
    simp only [OH_some, bin_sub, OP_some, true_and]
    rw [wrap64 (n := (j : Int) - 1) (by omega) (by omega)]
    refine hL (m, j, os.set j q) ⟨by show j ≤ xs.length; omega, hm, by show (os.set _ _).length = _; rw [List.length_set]; exact hol, hlim.set hq _, ?_⟩ (by show j < j + 1; omega)
    show val 4294967296 (xs.drop j) = w * val 4294967296 ((os.set j q).drop j) + m
    have hdo : (os.set j q).drop j = q :: os.drop (j + 1) := by
      rw [List.drop_eq_getElem_cons (by rw [List.length_set]; omega), List.getElem_set_self, List.drop_set_of_lt (by omega)]
    rw [hdx, hdo]
    simp only [val]
    rw [hval]
    generalize val 4294967296 (os.drop (j + 1)) = Q at *
    generalize (4294967296 : Nat) = W at *
    clear hL hx hx' a1 a2 hval
    grind
  · have : i = 0 := by omega
    subst this
    rw [List.drop_zero, List.drop_zero] at hval
    rw [q116z13]
    have e : sl 116 h.length 0 xs.length = sl 116 h.length 0 os.length := by rw [hol]
    rw [e]
    refine C83 (hd_DS h _) hlim (by omega) ?_
    intro v' hm
    simp only [conv_int, OP_some]
    rw [wrapU32 (n := (r : Int)) (by omega) (by omega)]
    have h1 : val 4294967296 xs / w = val 4294967296 os := by
      rw [hval, Nat.mul_add_div w0, Nat.div_eq_of_lt hr, Nat.add_zero]
    have h2 : val 4294967296 xs % w = r := by
      rw [hval, Nat.mul_add_mod, Nat.mod_eq_of_lt hr]
    have := hk v' _ (hd_EX h os) (by rw [h1]; exact hm)
    rw [h2] at this
    exact this

theorem C117 {h : Heap} {id : Nat} {xs : List UInt8} {K : Value → Heap → Prop} (hget : h[id]? = some (.arr 5 (xs.map cv))) (hn : xs.length ≤ 100000) (hk : K (.tuple #[]) (hb h id xs.reverse)) : CallP Tryz.prog 117 [sl 5 id 0 xs.length] h K := by
  have hid := (List.getElem?_eq_some_iff.1 hget).1
  have e0 : h = hb h id xs := by
    apply List.ext_getElem?
    intro j
    by_cases hj : id = j
    · subst hj; rw [hb_get hid, hget]
    · rw [List.getElem?_set_ne hj]
  refine f117 ?_
  have e1 : iLenSl (sl 5 id 0 xs.length) = some (I xs.length) := rfl
  have e2 : IntKind.wrap .i64 ((xs.length : Int) - 1) = (xs.length : Int) - 1 := by rw [wrap64 (by omega) (by omega)]
  simp only [T117, e1, OP_some, bin_sub, e2]
  refine loopL (σ := Nat × List UInt8) (fun p => [I p.1, I ((xs.length : Int) - 1 - p.1)]) (fun p => hb h id p.2) (fun p => p.1 ≤ xs.length ∧ p.2.length = xs.length ∧ ∀ k (hk : k < p.2.length) (hk2 : k < xs.length), p.2[k] = if k < p.1 ∨ xs.length - p.1 ≤ k then xs[xs.length - 1 - k]'(by omega) else xs[k]) (fun p => xs.length - p.1)
    (0, xs) (by simp) e0.symm ⟨by simp, rfl, fun k h1 h2 => by simp; intro h3; omega⟩ ?_
  rintro ⟨i, ys⟩ ⟨hi, hl, hy⟩ L hL
  simp only at hi hl hy hL ⊢
  rw [q117z3]
  simp only [bin_lss, OP_some, IfP_dec]
  refine ⟨fun hlt => ?_, fun hge => ?_⟩
  · obtain ⟨j, hj⟩ : ∃ j : Nat, (xs.length : Int) - 1 - i = j := ⟨xs.length - 1 - i, by omega⟩
    rw [hj]
    have hjn : j = xs.length - 1 - i := by omega
    have a1 := adr_sl (id := id) (e := 5) (n := xs.length) (j := j) (by omega)
    have a2 := adr_sl (id := id) (e := 5) (n := xs.length) (j := i) (by omega)
    have g1 : ys[j]? = some (ys[j]'(by omega)) := List.getElem?_eq_getElem (by omega)
    have g2 : ys[i]? = some (ys[i]'(by omega)) := List.getElem?_eq_getElem (by omega)
    simp only [a1, a2, OP_some, hb_load hid g1, hb_load hid g2, true_and]
    rw [hb_store hid _ (by omega)]
    simp only [OH_some]
    rw [hb_store hid _ (by rw [List.length_set]; omega)]
    simp only [OH_some, bin_add, bin_sub, OP_some, inc i (by omega), true_and]
    have ej : IntKind.wrap .i64 ((j : Int) - 1) = (xs.length : Int) - 1 - ((i + 1 : Nat) : Int) := by rw [wrap64 (by omega) (by omega)]; omega
    rw [ej]
    refine hL (i + 1, (ys.set i (ys[j]'(by omega))).set j (ys[i]'(by omega))) ⟨by show i + 1 ≤ xs.length; omega, by simp [hl], ?_⟩ (by show xs.length - (i + 1) < xs.length - i; omega)
    intro k hk1 hk2
    show ((ys.set i (ys[j]'(by omega))).set j (ys[i]'(by omega)))[k] = if k < i + 1 ∨ xs.length - (i + 1) ≤ k then xs[xs.length - 1 - k]'(by omega) else xs[k]
    have hyi := hy i (by omega) (by omega)
    have hyj := hy j (by omega) (by omega)
    rw [if_neg (by omega)] at hyi hyj
    by_cases hkj : j = k
    · subst hkj
      rw [List.getElem_set_self, if_pos (by omega), hyi]
      congr 1; omega
    · rw [List.getElem_set_ne hkj]
      by_cases hki : i = k
      · subst hki
        rw [List.getElem_set_self, if_pos (by omega), hyj]
        congr 1
      · rw [List.getElem_set_ne hki, hy k (by omega) hk2]
        by_cases hc : k < i ∨ xs.length - i ≤ k
        · rw [if_pos hc, if_pos (by omega)]
        · rw [if_neg hc, if_neg (by omega)]
  · have : ys = xs.reverse := by
      apply List.ext_getElem (by simp [hl])
      intro k h1 h2
      rw [hy k h1 (by omega), List.getElem_reverse]
      split
      · rfl
      · congr 1; omega
    rw [this]
    exact hk

/-! ### Decimal digits -/

def dig10 (n : Nat) : List Nat := if h : n = 0 then [] else n % 10 :: dig10 (n / 10)
termination_by n
decreasing_by omega

theorem dig10_canon (n : Nat) : Canon 10 (dig10 n) ∧ val 10 (dig10 n) = n := by
  induction n using Nat.strongRecOn with
  | ind n ih =>
    rw [dig10]
    by_cases h : n = 0
    · subst h; exact ⟨Canon.nil 10, rfl⟩
    · rw [dif_neg h]
      obtain ⟨h1, h2⟩ := ih (n / 10) (by omega)
      refine ⟨⟨?_, ?_⟩, ?_⟩
      · intro x hx
        rcases List.mem_cons.1 hx with rfl | hx
        · omega
        · exact h1.1 x hx
      · cases hd : dig10 (n / 10) with
        | nil =>
          rw [hd] at h2
          simp [val] at h2
          simp
          omega
        | cons y ys =>
          rw [List.getLast?_cons_cons, ← hd]
          exact h1.2
      · simp only [val, h2]; omega

/-- A digit's character. -/
def dch (d : Nat) : UInt8 := UInt8.ofNat (48 + d)
theorem dch_toNat {d : Nat} (h : d < 10) : (dch d).toNat = 48 + d := by simp [dch, UInt8.toNat_ofNat']; omega

/-- A number in decimal digits. -/
def decS (n : Nat) : List UInt8 := if n = 0 then [48] else ((dig10 n).map dch).reverse

def k1000 : Nat := 1000
theorem bigW_10 : bigW ≤ 10 ^ k1000 := by decide +kernel

end Go.Proofs.YthplaillblmgfaaGreatDoor


namespace Go.Proofs.YthplaillblmgfaaGreatDoor
open Go.Sim

theorem cvd {d : Nat} (h : d < 10) : (.int .u8 ((48 + d : Nat) : Int) : Value) = cv (dch d) := by rw [cv, dch_toNat h]

theorem pow10_pos (k : Nat) : 0 < 10 ^ k := Nat.pow_pos (by decide)

theorem len_of_pow {b n m : Nat} (hm : 0 < m) (h : 10 ^ b * m ≤ n) (hn : n < bigW) : b < 1000 := by
  have h1 : 10 ^ b ≤ 10 ^ b * m := Nat.le_mul_of_pos_right _ hm
  show b < k1000
  have h2 : 10 ^ b < 10 ^ k1000 := Nat.lt_of_le_of_lt (Nat.le_trans h1 h) (Nat.lt_of_lt_of_le hn bigW_10)
  exact (Nat.pow_lt_pow_iff_right (by decide)).1 h2

/-- One byte more: numbers stay as they are. -/
theorem app1M {h0 hx : Heap} {v z : Value} {x : UInt8} {bs : List UInt8} {K : Value → Heap → Prop} (o : OwnS h0.length hx 5 v (bs.map cv)) (hex : EX h0 hx) (hl : bs.length ≤ 100000)
    (hk : ∀ v' hx', EX h0 hx' → OwnS h0.length hx' 5 v' ((bs ++ [x]).map cv) → (∀ q n, MagV hx q n → MagV hx' q n) → K v' hx') :
    OH (iMkSl 5 1 [z] hx [(0, 1, cv x)]) fun a h2 => OH (iApp 5 1 1 h2 v a) K := by
  refine app1p o (by simp; omega) (by simp [maxLen]; omega) rfl rfl ?_
  intro hA hx' _ hlen hkeep hnew
  simp only [OH_some]
  refine hk _ _ ⟨by have := hex.1; omega, fun j hj => ?_⟩ (.inr ⟨hx.length + 1, by have := hex.1; omega, by simp, by simpa using hnew⟩) ?_
  · rw [hkeep j (by have := hex.1; omega) fun n hv => ?_]
    · exact hex.2 j hj
    · have := (o.lt hv).1; omega
  · rintro q n ⟨xs, d, c, hv⟩
    refine ⟨xs, ?_, c, hv⟩
    rcases d with d | ⟨i, h1, h2⟩
    · exact .inl d
    · refine .inr ⟨i, h1, ?_⟩
      rcases h2 with h2 | ⟨r, h2⟩
      · exact .inl h2
      · cases xs with
        | nil => exact .inl rfl
        | cons y ys =>
          right
          refine ⟨r, ?_⟩
          have hil : i < hx.length := by
            apply Classical.byContradiction
            intro hc
            unfold objCells at h2
            rw [List.getElem?_eq_none (by omega)] at h2
            simp at h2
          unfold objCells at h2 ⊢
          rw [hkeep i hil fun n hvv => ?_]
          · exact h2
          · have hg := (o.lt hvv).2.2
            rw [hg] at h2
            cases bs with
            | nil => simp at h2
            | cons b bs => simp [cv] at h2

theorem C88 {va : Value} {n : Nat} {h : Heap} {K : Value → Heap → Prop} (ha : MagV h va n) (la : n < bigW) (hk : ∀ h', EX h h' → K (S (decS n)) h') : CallP Tryz.prog 88 [va] h K := by
  refine f88 ?_
  obtain ⟨l0, e0, e1⟩ := ha.len0
  simp only [T88, e0, OP_some, bin_eql, IfP_dec]
  refine ⟨fun hz => ?_, fun hnz => ?_⟩
  · have : n = 0 := by omega
    subst this
    exact hk h (EX.refl h)
  · have hn0 : 0 < n := by omega
    refine loopL (σ := Value × Nat × Value × List Nat × Heap) (fun p => [p.1, p.2.2.1]) (fun p => p.2.2.2.2)
      (fun p => EX h p.2.2.2.2 ∧ MagV p.2.2.2.2 p.1 p.2.1 ∧ OwnS h.length p.2.2.2.2 5 p.2.2.1 ((p.2.2.2.1.map dch).map cv) ∧ Lim 10 p.2.2.2.1 ∧ val 10 p.2.2.2.1 + 10 ^ p.2.2.2.1.length * p.2.1 = n ∧ (p.2.1 = 0 → Canon 10 p.2.2.2.1)) (fun p => p.2.1)
      (va, n, .slice none 0 0, [], h) rfl rfl ⟨EX.refl h, ha, .inl ⟨rfl, rfl⟩, fun x hx => by simp at hx, by simp [val], fun h0 => by have h0 : n = 0 := h0; omega⟩ ?_
    rintro ⟨v, m, bv, b, hx⟩ ⟨hex, hm, hown, hlim, hval, hcan⟩ L hL
    simp only at hex hm hown hlim hval hcan hL ⊢
    rw [q88z8]
    obtain ⟨l, f0, f1⟩ := hm.len0
    simp only [f0, OP_some, bin_gtr, IfP_dec]
    refine ⟨fun hlt => ?_, fun hge => ?_⟩
    · have hm0 : 0 < m := by omega
      have hmb : m < bigW := by
        refine Nat.lt_of_le_of_lt ?_ la
        have : m ≤ 10 ^ b.length * m := Nat.le_mul_of_pos_left _ (pow10_pos _)
        omega
      have hbl := len_of_pow (b := b.length) hm0 (by omega) la
      refine C116 hm hmb (w := 1000000000) (by decide) (by decide) ?_
      intro q h1 x1 hq
      simp only [ext_tuple, pair0, pair1, OP_some]
      have hown1 : OwnS h.length h1 5 bv ((b.map dch).map cv) := hown.keep fun d k hv hd => by
        have := (hown.lt hv).2.1
        exact x1.2 d this
      have hqlt : m / 1000000000 < m := Nat.div_lt_self hm0 (by decide)
      have hdm := Nat.div_add_mod m 1000000000
      have hr9 := Nat.mod_lt m (show 1000000000 > 0 by decide)
      generalize m / 1000000000 = qn at *
      generalize m % 1000000000 = r0 at *
      have hqq := hq
      refine loopL (σ := Value × List Nat × Nat × Nat × Heap) (fun p => [p.1, .int .u32 (p.2.2.1 : Int), I p.2.2.2.1]) (fun p => p.2.2.2.2)
        (fun p => EX h p.2.2.2.2 ∧ MagV p.2.2.2.2 q qn ∧ OwnS h.length p.2.2.2.2 5 p.1 ((p.2.1.map dch).map cv) ∧ Lim 10 p.2.1 ∧ p.2.2.2.1 ≤ 9 ∧ p.2.2.1 < 10 ^ (9 - p.2.2.2.1) ∧ p.2.1.length ≤ b.length + p.2.2.2.1 ∧ val 10 p.2.1 + 10 ^ p.2.1.length * (p.2.2.1 + 10 ^ (9 - p.2.2.2.1) * qn) = n ∧ (qn = 0 → p.2.2.1 = 0 → Canon 10 p.2.1)) (fun p => 9 - p.2.2.2.1)
        (bv, b, r0, 0, h1) rfl rfl ⟨hex.trans x1, hq, hown1, hlim, by simp, by simpa using hr9, by simp, ?_, ?_⟩ ?_
      · show val 10 b + 10 ^ b.length * (r0 + 10 ^ (9 - 0) * qn) = n
        have : r0 + 10 ^ (9 - 0) * qn = m := by
          show r0 + 1000000000 * qn = m
          omega
        rw [this]; exact hval
      · intro h1 h2
        have h1 : qn = 0 := h1
        have h2 : r0 = 0 := h2
        subst h1; subst h2
        omega
      rintro ⟨cv1, c, r, i, hy⟩ ⟨hey, hqy, howny, hlimc, hi, hr, hcl, hvalc, hcanc⟩ L2 hL2
      simp only at hey hqy howny hlimc hi hr hcl hvalc hcanc hL2 ⊢
      rw [q88z16]
      -- leaving
      have stop : r = 0 → (i = 9 ∨ qn = 0) → p88z30 Tryz.prog K cv1 q L hy := by
        intro hr0 hor
        rw [q88z30]
        refine ⟨rfl, hL (q, qn, cv1, c, hy) ⟨hey, hqy, howny, hlimc, ?_, fun h0 => hcanc h0 hr0⟩ hqlt⟩
        show val 10 c + 10 ^ c.length * qn = n
        rw [hr0, Nat.zero_add] at hvalc
        rcases hor with h9 | h0
        · subst h9; simpa using hvalc
        · subst h0; simpa using hvalc
      simp only [bin_lss, OP_some]
      by_cases hi9 : i < 9
      · rw [decide_eq_true (show (i : Int) < 9 by omega)]
        simp only [q88z20, GdP_tt]
        obtain ⟨l2, g0, g1⟩ := hqy.len0
        simp only [g0, OP_some, bin_gtr]
        -- one digit more
        have step : (0 < qn ∨ 0 < r) → IfP (B true)
            (OP (iBin .rem (.int .u32 (r : Int)) (.int .u32 (10))) fun x33 =>
            OP (iBin .add (.int .u32 (48)) x33) fun x34 =>
            OP (iConv .u8 x34) fun x35 =>
            OH (iMkSl 5 1 [(.int .u8 (0))] hy [(0, 1, x35)]) fun x36 h_1 =>
            OH (iApp 5 1 1 h_1 cv1 x36) fun x37 h_2 =>
            OP (iBin .quo (.int .u32 (r : Int)) (.int .u32 (10))) fun x39 =>
            OP (iBin .add (I i) (.int .i64 (1))) fun x30 =>
            True ∧ L2 [x37, x39, x30] h_2)
            (p88z30 Tryz.prog K cv1 q L hy) := by
          intro hor
          have hrW : r < 4294967296 := Nat.lt_of_lt_of_le hr (Nat.le_trans (Nat.pow_le_pow_right (by decide) (show 9 - i ≤ 9 by omega)) (by decide))
          have ed : IntKind.wrap .u32 ((48 : Int) + ((r % 10 : Nat) : Int)) = ((48 + r % 10 : Nat) : Int) := by rw [wrapU32 (by omega) (by omega)]; omega
          have eq10 : iBin .quo (.int .u32 (r : Int)) (.int .u32 10) = some (.int .u32 ((r / 10 : Nat) : Int)) := by
            have h10 : ¬ ((10 : Int) = 0) := by omega
            simp only [iBin, iInt, if_true, if_neg h10]
            have e : (r : Int).tdiv 10 = ((r / 10 : Nat) : Int) := rfl
            rw [e, wrapU32 (by omega) (by omega)]
          simp only [IfP_true]
          rw [show (.int .u32 10 : Value) = .int .u32 ((10 : Nat) : Int) from rfl, rem_nat _ _ _ (by decide)]
          simp only [OP_some, bin_add, ed, conv_int]
          rw [wrapU8 (by omega) (by omega), cvd (show r % 10 < 10 by omega)]
          refine app1M (x := dch (r % 10)) howny hey (by simp; omega) ?_
          intro v' hx' hex' hown' hkeep
          rw [show (.int .u32 ((10 : Nat) : Int) : Value) = .int .u32 10 from rfl, eq10]
          simp only [OP_some, inc i (by omega), true_and]
          have hq' : MagV hx' q qn := hkeep q qn hqy
          refine hL2 (v', c ++ [r % 10], r / 10, i + 1, hx') ⟨hex', hq', by simpa using hown', hlimc.append (fun x hx => by simp at hx; omega), by show i + 1 ≤ 9; omega, ?_, by show (c ++ [r % 10]).length ≤ b.length + (i + 1); simp; omega, ?_, ?_⟩ (by show 9 - (i + 1) < 9 - i; omega)
          · show r / 10 < 10 ^ (9 - (i + 1))
            rw [show 9 - i = (9 - (i + 1)) + 1 by omega, Nat.pow_succ] at hr
            exact (Nat.div_lt_iff_lt_mul (by decide)).2 hr
          · show val 10 (c ++ [r % 10]) + 10 ^ (c ++ [r % 10]).length * (r / 10 + 10 ^ (9 - (i + 1)) * qn) = n
            rw [val_append, List.length_append, List.length_singleton, Nat.pow_succ]
            rw [show 9 - i = (9 - (i + 1)) + 1 by omega, Nat.pow_succ] at hvalc
            have hdm := Nat.div_add_mod r 10
            simp only [val, Nat.mul_zero, Nat.add_zero]
            generalize r / 10 = r1 at *
            generalize r % 10 = d at *
            generalize 10 ^ c.length = P at *
            generalize 10 ^ (9 - (i + 1)) = Q at *
            generalize val 10 c = V at *
            clear hL hL2 hr hcanc hval stop
            subst hdm
            grind
          · intro h1 h2
            have h2 : r / 10 = 0 := h2
            refine can_of_last (hlimc.append (fun x hx => by simp at hx; omega)) ?_
            intro _
            have : 0 < r := by rcases hor with h | h; omega; exact h
            simp
            omega
        by_cases hq0 : 0 < qn
        · rw [decide_eq_true (show (0 : Int) < (l2 : Int) by omega)]
          simp only [q88z22, GdP_tf, q88z24, iPick_t, OP_some, GdP_tt, q88z26]
          exact step (.inl hq0)
        · rw [decide_eq_false (show ¬ (0 : Int) < (l2 : Int) by omega)]
          simp only [q88z22, GdP_ff, bin_gtr, OP_some]
          by_cases hr0 : 0 < r
          · rw [decide_eq_true (show (0 : Int) < (r : Int) by omega)]
            simp only [q88z24, GdP_tt, iPick_f, OP_some, q88z26, iPick_t]
            exact step (.inr hr0)
          · rw [decide_eq_false (show ¬ (0 : Int) < (r : Int) by omega)]
            simp only [q88z24, GdP_tt, iPick_f, OP_some, q88z26, iPick_t, IfP_false]
            exact stop (by omega) (.inr (by omega))
      · have : i = 9 := by omega
        subst this
        rw [decide_eq_false (show ¬ ((9 : Nat) : Int) < 9 by omega)]
        simp only [q88z20, GdP_ft, q88z22, GdP_undef, q88z24, q88z26, iPick_f, OP_some, IfP_false]
        exact stop (by simpa using hr) (.inl rfl)
    · have hm0 : m = 0 := by omega
      subst hm0
      have hc := hcan rfl
      rw [Nat.mul_zero, Nat.add_zero] at hval
      have hb : b = dig10 n := Canon.unique (by decide) hc (dig10_canon n).1 (by rw [hval, (dig10_canon n).2])
      have hbne : b ≠ [] := by rintro rfl; simp [val] at hval; omega
      have hbl : b.length ≤ 2000 := by
        have h1 := Canon.low (by decide) hc hbne
        have h2 := len_of_pow (b := b.length - 1) (m := 1) (n := n) (by decide) (by omega) la
        omega
      rw [q88z31]
      obtain ⟨id, hid, hv, hg⟩ : ∃ id, h.length ≤ id ∧ bv = sl 5 id 0 (b.map dch).length ∧ hx[id]? = some (.arr 5 ((b.map dch).map cv)) := by
        rcases hown with ⟨_, h0⟩ | ⟨id, h1, h2, h3⟩
        · exact absurd (by simpa using h0) hbne
        · exact ⟨id, h1, by simpa using h2, h3⟩
      rw [hv]
      refine C117 hg (by simp; omega) ?_
      have hidl := (List.getElem?_eq_some_iff.1 hg).1
      have b2 : iB2s (Go.Proofs.YthplaillblmgfaaGreatDoor.hb hx id (b.map dch).reverse) (sl 5 id 0 (b.map dch).length) = some (S (b.map dch).reverse) := by
        refine b2s (b := 0) (e := 5) (l := (b.map dch).reverse) (.inr ⟨id, Nat.zero_le _, by simp, ?_⟩)
        rw [hb_get hidl]
      simp only [b2, OP_some]
      have : (b.map dch).reverse = decS n := by unfold decS; rw [if_neg (by omega), hb]
      rw [this]
      exact hk _ (hex.set hid _)

end Go.Proofs.YthplaillblmgfaaGreatDoor

