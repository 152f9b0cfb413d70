/-
  The ideal machine is sound: code.
-/
import Derived.Test.YtjdlcokhlphmhaaSim18d
namespace Go.Sim

section
variable {P : Program} {N : Nat}

theorem ofl_append (f : Nat → Value) (ks ls : List Nat) (xs : List Value) (h : xs = ls.map f) : weaker (ofl (ks ++ ls) (ks.map f ++ xs)) f := by
  subst h
  rw [← List.map_append]
  exact ofl_weaker f (ks ++ ls)

theorem iwp_sound {out : Bool} : ∀ {c : Code} {hs hs' : Hints} {ic : ICode}, compCode P N c hs = some (ic, hs') → (out = true ∨ noRange c = true) → ∀ {K : Exit → (Nat → Value) → Heap → Prop} {f : Nat → Value} {h : Heap}, iwp P ic K f h →
    ∃ e f' h', Run P N out c f h e f' h' ∧ K e f' h' := by
  intro c
  induction c with
  | skip =>
    intro hs hs' ic hc ho K f h hi
    simp [compCode] at hc
    obtain ⟨rfl, _⟩ := hc
    exact ⟨.normal, f, h, fun S hS B ρ a w R => wpIn_skip ⟨rfl, ρ, R, Tr.refl R.heap⟩, hi⟩
  | region id ops draw =>
    intro hs hs' ic hc ho K f h hi
    cases draw with
    | true =>
      simp only [compCode] at hc
      split at hc
      · rename_i l hl
        split at hc
        · rename_i hlv
          simp at hc
          obtain ⟨rfl, _⟩ := hc
          have hi' := gdops_idops (dleaves_of hlv) hi
          rw [dflatG_groupsOf] at hi'
          obtain ⟨f', h', r1, r2⟩ := idops_sound (id := id) hl hi'
          exact ⟨.normal, f', h', r1, r2⟩
        · cases hc
      · cases hc
    | false =>
      simp only [compCode] at hc
      split at hc
      · rename_i l hl
        split at hc
        · rename_i hlv
          simp only [Option.some.injEq] at hc
          have he : ic = (rcode (groupsOf l) hs).1 := by rw [hc]
          subst he
          obtain ⟨f', h', r1, r2⟩ := rcode_sound (i := 0) (os := ops.toList) (ops := ops) (fun k o hk => by simpa using hk) (by rw [flatG_groupsOf]; exact hl) (leaves_of hlv) hi
          refine ⟨.normal, f', h', Run.region ?_, r2⟩
          rw [List.range_eq_range']
          simpa using r1
        · cases hc
      · cases hc
  | seq x y ihx ihy =>
    intro hs hs' ic hc ho K f h hi
    have hox : out = true ∨ noRange x = true := ho.imp id fun h => by simp only [noRange, Bool.and_eq_true] at h; exact h.1
    have hoy : out = true ∨ noRange y = true := ho.imp id fun h => by simp only [noRange, Bool.and_eq_true] at h; exact h.2
    have both : ∀ {a b : ICode} {h0 hs1 hs2 : Hints} {ls : List Nat}, compCode P N x hs = some (a, h0) → compCode P N y hs1 = some (b, hs2) → iwp P (.seq a (cutO ls b)) K f h → ∃ e f' h', Run P N out (.seq x y) f h e f' h' ∧ K e f' h' := by
      intro a b h0 hs1 hs2 ls ha hb hi
      obtain ⟨e, f₁, h₁, r1, r2⟩ := ihx ha hox hi
      by_cases he : e = .normal
      · subst he
        obtain ⟨f₂, hw, r3⟩ := cutO_iwp r2
        obtain ⟨e', f₃, h₃, s1, s2⟩ := ihy hb hoy r3
        exact ⟨e', f₃, h₃, r1.seq (s1.weaken hw), s2⟩
      · refine ⟨e, f₁, h₁, r1.seq_leave he, ?_⟩
        cases e <;> first | exact absurd rfl he | exact r2
    simp only [compCode] at hc
    split at hc
    · rename_i a h0 hs1 ha
      split at hc
      · rename_i b hs2 hb
        simp at hc
        obtain ⟨rfl, _⟩ := hc
        exact both ha hb hi
      · cases hc
    · rename_i a ha
      split at hc
      · rename_i b hs2 hb
        simp at hc
        obtain ⟨rfl, _⟩ := hc
        exact both (ls := []) ha hb hi
      · cases hc
    · cases hc
  | cond c x y ihx ihy =>
    intro hs hs' ic hc ho K f h hi
    have hox : out = true ∨ noRange x = true := ho.imp id fun h => by simp only [noRange, Bool.and_eq_true] at h; exact h.1
    have hoy : out = true ∨ noRange y = true := ho.imp id fun h => by simp only [noRange, Bool.and_eq_true] at h; exact h.2
    simp only [compCode] at hc
    split at hc
    · rename_i hok
      split at hc
      · rename_i a hs1 ha
        split at hc
        · rename_i b hs2 hb
          simp at hc
          obtain ⟨rfl, _⟩ := hc
          rw [iwp_cond] at hi
          simp only [condK] at hi
          split at hi
          · rename_i t ht
            cases t
            · simp at hi
              obtain ⟨e, f₁, h₁, r1, r2⟩ := ihy hb hoy hi
              exact ⟨e, f₁, h₁, Run.cond hok ht (by simpa using r1), r2⟩
            · simp at hi
              obtain ⟨e, f₁, h₁, r1, r2⟩ := ihx ha hox hi
              exact ⟨e, f₁, h₁, Run.cond hok ht (by simpa using r1), r2⟩
          · exact hi.elim
        · cases hc
      · cases hc
    · cases hc
  | block id c ih =>
    intro hs hs' ic hc ho K f h hi
    simp only [compCode] at hc
    split at hc
    · rename_i a hs1 ha
      simp at hc
      obtain ⟨rfl, _⟩ := hc
      obtain ⟨e, f₁, h₁, r1, r2⟩ := ih ha (ho.imp (fun h => h) fun h => h) hi
      refine ⟨_, f₁, h₁, r1.block, ?_⟩
      cases e with
      | exit i =>
        simp only [inBlockK] at r2 ⊢
        split <;> rename_i h
        · rw [if_pos h] at r2; exact r2
        · rw [if_neg h] at r2; exact r2
      | _ => exact r2
    · cases hc
  | loop c ih =>
    intro hs hs' ic hc ho K f h hi
    simp only [compCode] at hc
    split at hc
    · rename_i ks ls hs1
      split at hc
      · rename_i a hs2 ha
        simp at hc
        obtain ⟨rfl, _⟩ := hc
        obtain ⟨J, μ, h0, hround⟩ := hi
        have key : ∀ (n : Nat) (xs : List Value) (hh : Heap), μ xs hh = n → J xs hh → ∃ e f' h', LRun P N out c (ofl (ks ++ ls) (ks.map f ++ xs)) hh e f' h' ∧ K e f' h' := by
          intro n
          induction n using Nat.strongRecOn with
          | _ n ihn =>
            intro xs hh hn hJ
            obtain ⟨e, f₁, h₁, r1, r2⟩ := ih ha (ho.imp (fun h => h) fun h => h) (hround xs hh hJ)
            by_cases he : e = .normal
            · subst he
              obtain ⟨hk, hJ1, hlt⟩ := r2
              obtain ⟨e', f', h', s1, s2⟩ := ihn (μ (ls.map f₁) h₁) (by omega) (ls.map f₁) h₁ rfl hJ1
              refine ⟨e', f', h', LRun.next r1 (s1.weaken ?_), s2⟩
              rw [← hk]
              exact ofl_append f₁ ks ls _ rfl
            · refine ⟨e, f₁, h₁, LRun.leave he r1, ?_⟩
              cases e <;> first | exact absurd rfl he | exact r2
        obtain ⟨e, f', h', s1, s2⟩ := key _ (ls.map f) h rfl h0
        exact ⟨e, f', h', (s1.weaken (ofl_append f ks ls _ rfl)).run, s2⟩
      · cases hc
    · cases hc
  | exit id =>
    intro hs hs' ic hc ho K f h hi
    simp [compCode] at hc
    obtain ⟨rfl, _⟩ := hc
    exact ⟨.exit id, f, h, fun S hS B ρ a w R => wpIn_exit ⟨rfl, ρ, R, Tr.refl R.heap⟩, hi⟩
  | ret =>
    intro hs hs' ic hc ho K f h hi
    simp [compCode] at hc
    obtain ⟨rfl, _⟩ := hc
    exact ⟨.ret, f, h, fun S hS B ρ a w R => wpIn_ret ⟨rfl, ρ, R, Tr.refl R.heap⟩, hi⟩
  | rangeFunc g ps asg body =>
    intro hs hs' ic hc ho K f h hi
    have ho : out = true := ho.resolve_right (by simp [noRange])
    subst ho
    simp only [compCode] at hc
    split at hc
    · rename_i ls hs1
      split at hc
      · rename_i hk
        simp at hc
        obtain ⟨rfl, _⟩ := hc
        simp only [Bool.and_eq_true] at hk
        obtain ⟨h', r1, r2⟩ := range_sound hk.1 hi
        exact ⟨.normal, f, h', r1, r2⟩
      · cases hc
    · cases hc
  | _ => intro hs hs' ic hc; simp [compCode] at hc

end
end Go.Sim
