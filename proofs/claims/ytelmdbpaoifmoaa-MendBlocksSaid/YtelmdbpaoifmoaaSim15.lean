/-
  The ideal machine is sound: regions without open orders, code, calls.
-/
import Derived.Test.YtelmdbpaoifmoaaMgb
namespace Go.Sim

section
variable {P : Program} {N : Nat}

/-- Some operations of a region, in the text's order. -/
def ORun (P : Program) (N : Nat) (ops : Array Oper) (idx : List Nat) (f : Nat → Value) (h : Heap) (f' : Nat → Value) (h' : Heap) : Prop :=
  ∀ S B ρ a w, Rel P N B ρ f h a w → ∀ Q : Exit → Act → World → Prop, (∀ ρ' a' w', Rel P N B ρ' f' h' a' w' → Tr ρ h w ρ' h' w' → Q .normal a' w') → wpOpsIn (FR S) 0 P ops Q idx a w

theorem ORun.nil {ops : Array Oper} {f : Nat → Value} {h : Heap} : ORun P N ops [] f h f h := fun _ _ ρ a w R _ hq => hq ρ a w R (Tr.refl R.heap)

theorem Rel.putO {B : Nat} {ρ ρ' : RMap} {f : Nat → Value} {h h' : Heap} {a : Act} {w w' : World} (R : Rel P N B ρ f h a w) {d : Option Nat} (hd : d.all (· < N) = true) {v v' : Value} (T : Tr ρ h w ρ' h' w') (hv : VRel ρ' v v') (H : HRel P ρ' h' w') :
    Rel P N B ρ' (updO f d v) h' (a.put d v') w' := by
  cases d with
  | none => exact R.mono T H
  | some d => exact R.put (by simpa using hd) T hv H

theorem ORun.step {ops : Array Oper} {i : Nat} {idx : List Nat} {o : Oper} {f f' : Nat → Value} {h h₁ h' : Heap} {v : Value} (ho : ops[i]? = some o) (hd : o.dst.all (· < N) = true)
    (hw : ∀ B ρ a w, Rel P N B ρ f h a w → Region.wanted o (yielded ops a.tmps) = true) (hs : OpStep P N o f h v h₁) (hr : ORun P N ops idx (updO f o.dst v) h₁ f' h') : ORun P N ops (i :: idx) f h f' h' := by
  intro S B ρ a w R Q hq
  simp only [wpOpsIn, ho]
  rw [if_pos (hw B ρ a w R)]
  refine hs S B ρ a w R _ _ ?_
  intro ρ' v' w' hv H T
  exact hr S B ρ' _ w' (R.putO hd T hv H) Q fun ρ'' a'' w'' R'' T' => hq ρ'' a'' w'' R'' (T.trans T')

theorem ORun.pass {ops : Array Oper} {i : Nat} {idx : List Nat} {o : Oper} {f f' : Nat → Value} {h h' : Heap} (ho : ops[i]? = some o) (hd : o.dst.all (· < N) = true)
    (hw : ∀ B ρ a w, Rel P N B ρ f h a w → Region.wanted o (yielded ops a.tmps) = false) (hr : ORun P N ops idx (updO f o.dst undef) h f' h') : ORun P N ops (i :: idx) f h f' h' := by
  intro S B ρ a w R Q hq
  simp only [wpOpsIn, ho]
  rw [if_neg (by rw [hw B ρ a w R]; simp)]
  exact ⟨fun _ _ => trivial, hr S B ρ _ w (R.putO hd (Tr.refl R.heap) (VRel.undef _) R.heap) Q hq⟩

/-- The slot of a guard is known. -/
def gOk (g : Option (Nat × Bool)) (f : Nat → Value) : Prop :=
  match g with
  | none => True
  | some (s, _) => isBot (f s) = false

theorem isB_rel {ρ : RMap} {v v' : Value} (h : VRel ρ v v') (hb : isBot v = false) (b : Bool) : isB v' b = isB v b := by
  cases h <;> first | rfl | simp [isBot] at hb

theorem guardK_cases {v : Value} {b : Bool} {A B : Prop} (h : guardK v b A B) : isBot v = false ∧ ((isB v b = true ∧ A) ∨ (isB v b = false ∧ B)) := by
  unfold guardK at h
  split at h
  · rename_i c
    refine ⟨rfl, ?_⟩
    split at h
    · rename_i hc; exact .inl ⟨hc, h⟩
    · rename_i hc; exact .inr ⟨by simpa [isB] using hc, h⟩
  · exact h.elim
  · rename_i x h1 h2
    have e1 : isBot v = false := by
      cases v <;> first | rfl | exact absurd rfl (h2 _ _ _)
    have e2 : isB v b = false := by
      cases v <;> first | rfl | exact absurd rfl (h1 _)
    exact ⟨e1, .inr ⟨e2, h⟩⟩

theorem wanted_eq {ops : Array Oper} {o : Oper} {g : Option (Nat × Bool)} (hg : compGuard N ops o.guard = some g) {B : Nat} {ρ : RMap} {f : Nat → Value} {h : Heap} {a : Act} {w : World} (R : Rel P N B ρ f h a w) (hb : gOk g f) :
    Region.wanted o (yielded ops a.tmps) = wantB g f := by
  unfold compGuard at hg
  unfold Region.wanted
  cases hgu : o.guard with
  | none => rw [hgu] at hg; simp at hg; subst hg; rfl
  | some jb =>
    obtain ⟨j, b⟩ := jb
    rw [hgu] at hg
    simp only at hg ⊢
    split at hg
    · rename_i s hs
      split at hg
      · rename_i hlt
        simp at hg; subst hg
        simp only [wantB]
        have hr := R.tmp s
        have hsz : s < a.tmps.size := by rw [R.size]; exact hlt
        have hget : a.tmps[s]? = some (a.tmps.getD s Go.undef) := by simp [Array.getD, hsz]
        rw [← isB_rel hr hb b]
        unfold yielded
        rw [hs]
        simp only [Option.bind_some, hget]
        generalize a.tmps.getD s Go.undef = u
        cases u <;> simp [isB]
      · cases hg
    · cases hg

/-- Less is known of a frame. -/
def weaker (f' f : Nat → Value) : Prop := ∀ t, f' t = f t ∨ f' t = bot

theorem Rel.weaken {B : Nat} {ρ : RMap} {f f' : Nat → Value} {h : Heap} {a : Act} {w : World} (R : Rel P N B ρ f h a w) (hw : weaker f' f) : Rel P N B ρ f' h a w :=
  ⟨R.size, R.defers, fun t => (hw t).elim (fun e => by rw [e]; exact R.tmp t) (fun e => by rw [e]; exact .any _), R.heap⟩

theorem ofl_weaker (f : Nat → Value) : ∀ ls : List Nat, weaker (ofl ls (ls.map f)) f
  | [], t => .inr rfl
  | l :: ls, t => by
    simp only [List.map_cons, ofl_cons]
    by_cases h : t = l
    · subst h; simp
    · rw [if_neg h]; exact ofl_weaker f ls t

theorem ORun.weaken {ops : Array Oper} {idx : List Nat} {f f₁ f' : Nat → Value} {h h' : Heap} (hw : weaker f₁ f) (hr : ORun P N ops idx f₁ h f' h') : ORun P N ops idx f h f' h' :=
  fun S B ρ a w R => hr S B ρ a w (R.weaken hw)

theorem Run.weaken {b : Bool} {c : Code} {f f₁ f' : Nat → Value} {h h' : Heap} {e : Exit} (hw : weaker f₁ f) (hr : Run P N b c f₁ h e f' h') : Run P N b c f h e f' h' :=
  fun S hS B ρ a w R => hr S hS B ρ a w (R.weaken hw)

theorem wpOpsIn_append {S : Option Nat} {ops : Array Oper} {Q : Exit → Act → World → Prop} : ∀ {i j : List Nat} {a : Act} {w : World}, wpOpsIn (FR S) 0 P ops (fun e a w => match e with | .normal => wpOpsIn (FR S) 0 P ops Q j a w | e => Q e a w) i a w → wpOpsIn (FR S) 0 P ops Q (i ++ j) a w
  | [], j, a, w, h => h
  | i :: is, j, a, w, h => by
    simp only [List.cons_append, wpOpsIn] at h ⊢
    cases ho : ops[i]? with
    | none => rw [ho] at h; exact wpOpsIn_append h
    | some o =>
      rw [ho] at h
      simp only at h ⊢
      split at h
      · rename_i hw
        rw [if_pos hw]
        obtain ⟨h0, h⟩ := h
        refine ⟨h0, ?_⟩
        generalize (o.semAt (FR S).round a.eval).run P w = r at h ⊢
        cases r with
        | ok x w' =>
          cases x <;> simp only [Oper.uponIn] at h ⊢
          · exact wpOpsIn_append h
          · exact wpOpsIn_append h
          · refine ⟨h.1, h.2.mono ?_⟩
            rintro e w'' hR
            cases e with
            | returned v => exact wpOpsIn_append hR
            | panicked chain => exact hR
            | outgrown => exact hR
          · refine ⟨h.1, h.2.mono ?_⟩
            rintro e w'' hR
            cases e with
            | returned v => exact wpOpsIn_append hR
            | panicked chain => exact hR
            | outgrown => exact hR
          · exact wpOpsIn_append h
          · refine ⟨h.1, h.2.mono ?_⟩
            rintro v w'' hR
            exact wpOpsIn_append hR
        | halt x w' =>
          cases x <;> simp only [Oper.uponIn] at h ⊢
          exact h
      · rename_i hw
        rw [if_neg hw]
        exact ⟨h.1, wpOpsIn_append h.2⟩

theorem ORun.append {ops : Array Oper} {i j : List Nat} {f f₁ f' : Nat → Value} {h h₁ h' : Heap} (a : ORun P N ops i f h f₁ h₁) (b : ORun P N ops j f₁ h₁ f' h') : ORun P N ops (i ++ j) f h f' h' := by
  intro S B ρ ac w R Q hq
  refine wpOpsIn_append (a S B ρ ac w R _ ?_)
  intro ρ' a' w' R' T
  exact b S B ρ' a' w' R' Q fun ρ'' a'' w'' R'' T' => hq ρ'' a'' w'' R'' (T.trans T')

theorem compOper_inv {ops : Array Oper} {o : Oper} {x : IOper} (h : compOper P N ops o = some x) :
    o.op.operands.all opdOk = true ∧ o.dst.all (· < N) = true ∧ compOp P o.op = some x.op ∧ compGuard N ops o.guard = some x.guard ∧ x.dst = o.dst := by
  unfold compOper at h
  split at h
  · rename_i hc
    simp only [Bool.and_eq_true] at hc
    split at h
    · rename_i op g h1 h2
      simp at h; subst h
      exact ⟨hc.1, hc.2, h1, h2, rfl⟩
    · cases h
  · cases h

theorem compList_inv {ops : Array Oper} {o : Oper} {os : List Oper} {l : List IOper} (h : compList P N ops (o :: os) = some l) : ∃ x xs, compOper P N ops o = some x ∧ compList P N ops os = some xs ∧ l = x :: xs := by
  simp only [compList] at h
  split at h
  · rename_i x xs h1 h2
    simp at h
    exact ⟨x, xs, h1, h2, h.symm⟩
  · cases h

/-- Operations in the text's order. -/
theorem iops_sound {ops : Array Oper} : ∀ {os : List Oper} {l : List IOper} {i : Nat} {K : (Nat → Value) → Heap → Prop} {f : Nat → Value} {h : Heap}, (∀ (k : Nat) (o : Oper), os[k]? = some o → ops[i + k]? = some o) → compList P N ops os = some l → iops P l K f h →
    ∃ f' h', ORun P N ops (List.range' i os.length) f h f' h' ∧ K f' h'
  | [], l, i, K, f, h, _, hc, hi => by
    simp [compList] at hc
    subst hc
    exact ⟨f, h, ORun.nil, hi⟩
  | o :: os, l, i, K, f, h, hops, hc, hi => by
    obtain ⟨x, xs, h1, h2, rfl⟩ := compList_inv hc
    obtain ⟨q1, q2, q3, q4, q5⟩ := compOper_inv h1
    have ho : ops[i]? = some o := hops 0 o rfl
    have hops' : ∀ (k : Nat) (o' : Oper), os[k]? = some o' → ops[i + 1 + k]? = some o' := by
      intro k o' hk
      have := hops (k + 1) o' (by simpa using hk)
      rw [show i + (k + 1) = i + 1 + k by omega] at this
      exact this
    have go : ∀ (_ : gOk x.guard f) (_ : wantB x.guard f = true), stepK P x.op f h (fun v h' => iops P xs K (updO f x.dst v) h') →
        ∃ f' h', ORun P N ops (List.range' i (o :: os).length) f h f' h' ∧ K f' h' := by
      intro hb hw hs
      obtain ⟨v, h', hst, hk⟩ := opStep_of (N := N) q3 q1 hs
      obtain ⟨f'', h'', r1, r2⟩ := iops_sound hops' h2 hk
      refine ⟨f'', h'', ?_, r2⟩
      rw [List.length_cons, List.range'_succ]
      rw [q5] at r1
      exact ORun.step ho q2 (fun B ρ a w R => by rw [wanted_eq q4 R hb, hw]) hst r1
    have skip : ∀ (_ : gOk x.guard f) (_ : wantB x.guard f = false), iops P xs K (updO f x.dst undef) h →
        ∃ f' h', ORun P N ops (List.range' i (o :: os).length) f h f' h' ∧ K f' h' := by
      intro hb hw hs
      obtain ⟨f'', h'', r1, r2⟩ := iops_sound hops' h2 hs
      refine ⟨f'', h'', ?_, r2⟩
      rw [List.length_cons, List.range'_succ]
      rw [q5] at r1
      exact ORun.pass ho q2 (fun B ρ a w R => by rw [wanted_eq q4 R hb, hw]) r1
    simp only [iops] at hi
    split at hi
    · rename_i hgu
      exact go (by rw [hgu]; trivial) (by rw [hgu]; rfl) hi
    · rename_i s b hgu
      obtain ⟨e1, e2⟩ := guardK_cases hi
      rcases e2 with ⟨e2, e3⟩ | ⟨e2, e3⟩
      · exact go (by rw [hgu]; exact e1) (by rw [hgu]; exact e2) e3
      · exact skip (by rw [hgu]; exact e1) (by rw [hgu]; exact e2) e3

def flat1 (g : Option (Nat × Bool)) (l : List GOper) : List IOper := l.map fun o => ⟨o.dst, o.op, g⟩

def flatG : List (Option (Nat × Bool) × List GOper) → List IOper
  | [] => []
  | (g, l) :: gs => flat1 g l ++ flatG gs

theorem flatG_groupsOf : ∀ os : List IOper, flatG (groupsOf os) = os
  | [] => rfl
  | o :: os => by
    have ih := flatG_groupsOf os
    simp only [groupsOf]
    cases hg : groupsOf os with
    | nil =>
      rw [hg] at ih
      simp only [flatG] at ih
      subst ih
      simp [flatG, flat1]
    | cons a gs =>
      obtain ⟨g, l⟩ := a
      rw [hg] at ih
      simp only
      split
      · rename_i he
        simp only [flatG, flat1, List.map_cons, List.cons_append] at ih ⊢
        rw [ih, ← he]
      · simp only [flatG, flat1, List.map_cons, List.map_nil, List.cons_append, List.nil_append] at ih ⊢
        rw [ih]

theorem guardK_mk {v : Value} {b : Bool} {A B : Prop} (hb : isBot v = false) (hA : isB v b = true → A) (hB : isB v b = false → B) : guardK v b A B := by
  unfold guardK
  split
  · split
    · rename_i c hc; exact hA hc
    · rename_i c hc; exact hB (by simpa [isB] using hc)
  · simp [isBot] at hb
  · rename_i x h1 h2
    refine hB ?_
    cases v <;> first | rfl | exact absurd rfl (h1 _)

theorem opsK_iops {g : Option (Nat × Bool)} {K : (Nat → Value) → Heap → Prop} : ∀ {l : List GOper} {f : Nat → Value} {h : Heap}, (∀ o ∈ l, leaves g o.dst = true) → opsK P g l K f h → iops P (flat1 g l) K f h := by
  intro l f h hl hk
  cases g with
  | none =>
    simp only [opsK] at hk
    clear hl
    induction l generalizing f h with
    | nil => exact hk
    | cons o l ih =>
      simp only [gops] at hk
      simp only [flat1, List.map_cons, iops]
      have : stepK P o.op f h (fun v h' => iops P (flat1 none l) K (updO f o.dst v) h') := by
        have mono : ∀ {io : IOp} {K K' : Value → Heap → Prop}, (∀ v h, K v h → K' v h) → stepK P io f h K → stepK P io f h K' := by
          intro io K K' hm hs
          cases io with
          | p po => simp only [stepK, oletP] at hs ⊢; split at hs <;> first | exact hm _ _ hs | exact hs.elim
          | l lo => simp only [stepK, oletP] at hs ⊢; split at hs <;> first | exact hm _ _ hs | exact hs.elim
          | e eo => simp only [stepK, oletH] at hs ⊢; split at hs <;> first | exact hm _ _ hs | exact hs.elim
          | call g args => exact hs.mono hm
          | callv x args => simp only [stepK, callV] at hs ⊢; split at hs <;> first | exact ⟨hs.1, hs.2.mono hm⟩ | exact hs.elim
        exact mono (fun v h' hk' => ih hk') hk
      exact this
  | some sb =>
    obtain ⟨s, b⟩ := sb
    simp only [opsK] at hk
    obtain ⟨e1, e2⟩ := guardK_cases hk
    clear hk
    induction l generalizing f h with
    | nil =>
      rcases e2 with ⟨_, e⟩ | ⟨_, e⟩ <;> exact e
    | cons o l ih =>
      have hd : o.dst ≠ some s := by simpa [leaves] using hl o (by simp)
      have hs : ∀ v, updO f o.dst v s = f s := by
        intro v
        cases ho : o.dst with
        | none => rfl
        | some d =>
          have : s ≠ d := by rintro rfl; exact hd ho
          simp [updO, upd_eq, this]
      simp only [flat1, List.map_cons, iops]
      refine guardK_mk e1 (fun hb => ?_) (fun hb => ?_)
      · rcases e2 with ⟨_, e⟩ | ⟨e, _⟩
        · simp only [gops] at e
          have mono : ∀ {io : IOp} {K K' : Value → Heap → Prop}, (∀ v h, K v h → K' v h) → stepK P io f h K → stepK P io f h K' := by
            intro io K K' hm hs
            cases io with
            | p po => simp only [stepK, oletP] at hs ⊢; split at hs <;> first | exact hm _ _ hs | exact hs.elim
            | l lo => simp only [stepK, oletP] at hs ⊢; split at hs <;> first | exact hm _ _ hs | exact hs.elim
            | e eo => simp only [stepK, oletH] at hs ⊢; split at hs <;> first | exact hm _ _ hs | exact hs.elim
            | call g args => exact hs.mono hm
            | callv x args => simp only [stepK, callV] at hs ⊢; split at hs <;> first | exact ⟨hs.1, hs.2.mono hm⟩ | exact hs.elim
          refine mono (fun v h' hk' => ?_) e
          exact ih (fun o' ho' => hl o' (by simp [ho'])) (by rw [hs]; exact e1) (.inl ⟨by rw [hs]; exact hb, hk'⟩)
        · rw [hb] at e; cases e
      · rcases e2 with ⟨e, _⟩ | ⟨_, e⟩
        · rw [hb] at e; cases e
        · exact ih (fun o' ho' => hl o' (by simp [ho'])) (by rw [hs]; exact e1) (.inr ⟨by rw [hs]; exact hb, e⟩)

theorem compList_append {ops : Array Oper} : ∀ {os : List Oper} {m0 m1 : List IOper}, compList P N ops os = some (m0 ++ m1) → ∃ os0 os1, os = os0 ++ os1 ∧ compList P N ops os0 = some m0 ∧ compList P N ops os1 = some m1
  | os, [], m1, h => ⟨[], os, rfl, rfl, h⟩
  | [], x :: m0, m1, h => by simp [compList] at h
  | o :: os, x :: m0, m1, h => by
    obtain ⟨y, ys, h1, h2, he⟩ := compList_inv h
    simp only [List.cons_append, List.cons.injEq] at he
    obtain ⟨rfl, rfl⟩ := he
    obtain ⟨os0, os1, rfl, e1, e2⟩ := compList_append h2
    refine ⟨o :: os0, os1, rfl, ?_, e2⟩
    simp [compList, h1, e1]

theorem cutO_iwp {ls : List Nat} {c : ICode} {K : Exit → (Nat → Value) → Heap → Prop} {f : Nat → Value} {h : Heap} (hi : iwp P (cutO ls c) K f h) : ∃ f', weaker f' f ∧ iwp P c K f' h := by
  cases ls with
  | nil => exact ⟨f, fun _ => .inl rfl, hi⟩
  | cons l ls => exact ⟨_, ofl_weaker f (l :: ls), hi⟩

theorem rcode_sound {ops : Array Oper} : ∀ {gs : List (Option (Nat × Bool) × List GOper)} {hs : Hints} {os : List Oper} {i : Nat} {K : Exit → (Nat → Value) → Heap → Prop} {f : Nat → Value} {h : Heap},
    (∀ (k : Nat) (o : Oper), os[k]? = some o → ops[i + k]? = some o) → compList P N ops os = some (flatG gs) → (∀ g l, (g, l) ∈ gs → ∀ o ∈ l, leaves g o.dst = true) → iwp P (rcode gs hs).1 K f h →
    ∃ f' h', ORun P N ops (List.range' i os.length) f h f' h' ∧ K .normal f' h' := by
  intro gs
  induction gs with
  | nil =>
    intro hs os i K f h hops hc _ hi
    cases os with
    | nil => exact ⟨f, h, ORun.nil, hi⟩
    | cons o os =>
      obtain ⟨x, xs, _, _, he⟩ := compList_inv hc
      simp [flatG] at he
  | cons a gs ih =>
    obtain ⟨g, l⟩ := a
    intro hs os i K f h hops hc hl hi
    simp only [flatG] at hc
    obtain ⟨os0, os1, rfl, c0, c1⟩ := compList_append hc
    have hops0 : ∀ (k : Nat) (o : Oper), os0[k]? = some o → ops[i + k]? = some o := by
      intro k o hk
      refine hops k o ?_
      rw [List.getElem?_append_left (List.getElem?_eq_some_iff.1 hk).1]
      exact hk
    have hops1 : ∀ (k : Nat) (o : Oper), os1[k]? = some o → ops[i + os0.length + k]? = some o := by
      intro k o hk
      rw [Nat.add_assoc]
      refine hops _ o ?_
      rw [List.getElem?_append_right (by omega)]
      simpa using hk
    have first : ∀ {K : (Nat → Value) → Heap → Prop}, opsK P g l K f h → ∃ f' h', ORun P N ops (List.range' i os0.length) f h f' h' ∧ K f' h' := by
      intro K hk
      exact iops_sound hops0 c0 (opsK_iops (fun o ho => hl g l (by simp) o ho) hk)
    have both : ∀ {f₁ : Nat → Value} {h₁ : Heap} {f' : Nat → Value} {h' : Heap}, ORun P N ops (List.range' i os0.length) f h f₁ h₁ → ORun P N ops (List.range' (i + os0.length) os1.length) f₁ h₁ f' h' → ORun P N ops (List.range' i (os0 ++ os1).length) f h f' h' := by
      intro f₁ h₁ f' h' a b
      rw [List.length_append, ← List.range'_append_1]
      exact a.append b
    have rest : ∀ {hs : Hints} {f₁ : Nat → Value} {h₁ : Heap}, iwp P (rcode gs hs).1 K f₁ h₁ → ∃ f' h', ORun P N ops (List.range' (i + os0.length) os1.length) f₁ h₁ f' h' ∧ K .normal f' h' :=
      fun hk => ih hops1 c1 (fun g' l' hm => hl g' l' (by simp [hm])) hk
    cases gs with
    | nil =>
      have hone : iwp P (.ops g l) K f h := by
        cases hs <;> exact hi
      obtain ⟨f', h', r1, r2⟩ := first hone
      have h1 : os1 = [] := by
        cases os1 with
        | nil => rfl
        | cons o os => obtain ⟨x, xs, _, _, he⟩ := compList_inv c1; simp [flatG] at he
      subst h1
      exact ⟨f', h', by simpa using r1, r2⟩
    | cons b gs =>
      cases hs with
      | nil =>
        obtain ⟨f₁, h₁, r1, r2⟩ := first (K := fun f h => iwp P (rcode (b :: gs) []).1 K f h) hi
        obtain ⟨f', h', s1, s2⟩ := rest r2
        exact ⟨f', h', both r1 s1, s2⟩
      | cons h0 hs =>
        obtain ⟨f₁, h₁, r1, r2⟩ := first (K := fun f h => iwp P (cutO h0 (rcode (b :: gs) hs).1) K f h) hi
        obtain ⟨f₂, hw, r3⟩ := cutO_iwp r2
        obtain ⟨f', h', s1, s2⟩ := rest r3
        exact ⟨f', h', both r1 (s1.weaken hw), s2⟩

/-- A loop, at the head of a round. -/
def loopWp (S : Option Nat) (P : Program) (c : Code) (Q : Exit → Act → World → Prop) (a : Act) (w : World) : Prop :=
  ∀ (b : Frame) (k : List Item) (cs : List Frame), b.roundOf = S →
    ∃ e a' w', Q e a' w' ∧ ArrivesIn (Machine.fenced P (FR S)) P (lone (b.atR a (.code c :: .inLoop c :: k)) cs w) b k cs e a' w'

theorem FR.room (S : Option Nat) (n : Nat) : (FR S).room n := fun _ h => by cases h

theorem loopWp.wp {S : Option Nat} {c : Code} {Q : Exit → Act → World → Prop} {a : Act} {w : World} (h : loopWp S P c Q a w) : (Code.loop c).wpIn (FR S) 0 P Q a w := by
  intro b k cs hro hb hr
  obtain ⟨e, a', w', q, r⟩ := h b k cs hro
  exact ⟨e, a', w', q, .of_steps (.one (fenced_calm hb hr rfl) stepR_loop) r⟩

theorem loopWp.round {S : Option Nat} {c : Code} {Q : Exit → Act → World → Prop} {a : Act} {w : World} (h : c.wpIn (FR S) 0 P (Exit.then (loopWp S P c Q) Q) a w) : loopWp S P c Q a w := by
  intro b k cs hro
  have hb : (FR S).fn b.fn := trivial
  have hr : (FR S).room (cs.length + 1 + 0) := FR.room S _
  obtain ⟨e, a₁, w₁, hq, harr⟩ := h b (.inLoop c :: k) cs hro hb hr
  cases e with
  | normal =>
    obtain ⟨e₂, a₂, w₂, hq₂, harr₂⟩ := hq b k cs hro
    exact ⟨e₂, a₂, w₂, hq₂, .of_steps (StepsIn.trans harr (.one (fenced_calm hb hr rfl) stepR_inLoop)) harr₂⟩
  | exit id => exact ⟨_, a₁, w₁, hq, .pass (x := .inLoop c) rfl (fun _ _ => .inl (by simp)) harr⟩
  | goto l => exact ⟨_, a₁, w₁, hq, .pass (x := .inLoop c) rfl (fun _ _ => .inl (by simp)) harr⟩
  | ret => exact ⟨_, a₁, w₁, hq, .pass (x := .inLoop c) rfl (fun _ _ => .inl (by simp)) harr⟩
  | panic ch => exact ⟨_, a₁, w₁, hq, .pass (x := .inLoop c) rfl (fun _ _ => .inl (by simp)) harr⟩
  | outgrown => exact ⟨_, a₁, w₁, hq, .pass (x := .inLoop c) rfl (fun _ _ => .inl (by simp)) harr⟩

theorem leaves_of {l : List IOper} (h : l.all (fun o => leaves o.guard o.dst) = true) : ∀ g m, (g, m) ∈ groupsOf l → ∀ o ∈ m, leaves g o.dst = true := by
  intro g m hm o ho
  have hmem : (⟨o.dst, o.op, g⟩ : IOper) ∈ flatG (groupsOf l) := by
    generalize groupsOf l = gs at hm
    induction gs with
    | nil => simp at hm
    | cons a gs ih =>
      obtain ⟨g', m'⟩ := a
      simp only [flatG, List.mem_append]
      rcases List.mem_cons.1 hm with he | hm
      · cases he
        left
        simp only [flat1, List.mem_map]
        exact ⟨o, ho, rfl⟩
      · exact .inr (ih hm)
  rw [flatG_groupsOf] at hmem
  rw [List.all_eq_true] at h
  exact h _ hmem

def LRun (P : Program) (N : Nat) (out : Bool) (c : Code) (f : Nat → Value) (h : Heap) (e : Exit) (f' : Nat → Value) (h' : Heap) : Prop :=
  ∀ S, (out = true → S = none) → ∀ B ρ a w, Rel P N B ρ f h a w → loopWp S P c (Post P N B ρ h w e f' h') a w

theorem loopWp.mono {S : Option Nat} {c : Code} {Q Q' : Exit → Act → World → Prop} {a : Act} {w : World} (h : loopWp S P c Q a w) (hq : ∀ e a w, Q e a w → Q' e a w) : loopWp S P c Q' a w :=
  fun b k cs hro => let ⟨e, a', w', q, r⟩ := h b k cs hro; ⟨e, a', w', hq _ _ _ q, r⟩

theorem Post.trans {B : Nat} {ρ ρ₁ : RMap} {h h₁ h' : Heap} {w w₁ : World} {e : Exit} {f' : Nat → Value} (T : Tr ρ h w ρ₁ h₁ w₁) : ∀ e' a' w', Post P N B ρ₁ h₁ w₁ e f' h' e' a' w' → Post P N B ρ h w e f' h' e' a' w' := by
  rintro e' a' w' ⟨rfl, ρ', R, T'⟩
  exact ⟨rfl, ρ', R, T.trans T'⟩

variable {out : Bool}

theorem LRun.next {c : Code} {f f₁ f' : Nat → Value} {h h₁ h' : Heap} {e : Exit} (a : Run P N out c f h .normal f₁ h₁) (b : LRun P N out c f₁ h₁ e f' h') : LRun P N out c f h e f' h' := by
  intro S hS B ρ ac w R
  refine loopWp.round (wpIn_mono (a S hS B ρ ac w R) ?_)
  rintro e' a' w' ⟨rfl, ρ', R', T⟩
  exact (b S hS B ρ' a' w' R').mono (Post.trans T)

theorem LRun.leave {c : Code} {f f' : Nat → Value} {h h' : Heap} {e : Exit} (he : e ≠ .normal) (a : Run P N out c f h e f' h') : LRun P N out c f h e f' h' := by
  intro S hS B ρ ac w R
  refine loopWp.round (wpIn_mono (a S hS B ρ ac w R) ?_)
  rintro e' a' w' ⟨rfl, ρ', R', T⟩
  cases e' <;> first | exact absurd rfl he | exact ⟨rfl, ρ', R', T⟩

theorem LRun.run {c : Code} {f f' : Nat → Value} {h h' : Heap} {e : Exit} (a : LRun P N out c f h e f' h') : Run P N out (.loop c) f h e f' h' := fun S hS B ρ ac w R => (a S hS B ρ ac w R).wp

theorem Run.seq {x y : Code} {f f₁ f' : Nat → Value} {h h₁ h' : Heap} {e : Exit} (a : Run P N out x f h .normal f₁ h₁) (b : Run P N out y f₁ h₁ e f' h') : Run P N out (.seq x y) f h e f' h' := by
  intro S hS B ρ ac w R
  refine wpIn_seq (wpIn_mono (a S hS B ρ ac w R) ?_)
  rintro e' a' w' ⟨rfl, ρ', R', T⟩
  exact wpIn_mono (b S hS B ρ' a' w' R') (Post.trans T)

theorem Run.seq_leave {x y : Code} {f f' : Nat → Value} {h h' : Heap} {e : Exit} (he : e ≠ .normal) (a : Run P N out x f h e f' h') : Run P N out (.seq x y) f h e f' h' := by
  intro S hS B ρ ac w R
  refine wpIn_seq (wpIn_mono (a S hS B ρ ac w R) ?_)
  rintro e' a' w' ⟨rfl, ρ', R', T⟩
  cases e' <;> first | exact absurd rfl he | exact ⟨rfl, ρ', R', T⟩

theorem Run.block {id : Nat} {c : Code} {f f' : Nat → Value} {h h' : Heap} {e : Exit} (a : Run P N out c f h e f' h') : Run P N out (.block id c) f h (match e with | .exit i => if i = id then .normal else .exit i | e => e) f' h' := by
  intro S hS B ρ ac w R
  refine wpIn_block (wpIn_mono (a S hS B ρ ac w R) ?_)
  rintro e' a' w' ⟨rfl, ρ', R', T⟩
  cases e' with
  | exit i =>
    simp only [Exit.inBlock]
    split
    · exact ⟨rfl, ρ', R', T⟩
    · exact ⟨rfl, ρ', R', T⟩
  | _ => exact ⟨rfl, ρ', R', T⟩

theorem Run.cond {c : Operand} {x y : Code} {t : Bool} {f f' : Nat → Value} {h h' : Heap} {e : Exit} (hc : opdOk c = true) (ht : ev f c = .bool t) (a : Run P N out (if t then x else y) f h e f' h') : Run P N out (.cond c x y) f h e f' h' := by
  intro S hS B ρ ac w R
  have := R.ev hc
  rw [ht] at this
  exact wpIn_cond this.bool_inv (a S hS B ρ ac w R)

theorem Run.region {id : Nat} {ops : Array Oper} {f f' : Nat → Value} {h h' : Heap} (a : ORun P N ops (List.range ops.size) f h f' h') : Run P N out (.region id ops false) f h .normal f' h' := by
  intro S hS B ρ ac w R
  refine wpIn_region (a S B ρ ac w R _ ?_)
  intro ρ' a' w' R' T
  exact ⟨rfl, ρ', R', T⟩

theorem LRun.weaken {c : Code} {f f₁ f' : Nat → Value} {h h' : Heap} {e : Exit} (hw : weaker f₁ f) (hr : LRun P N out c f₁ h e f' h') : LRun P N out c f h e f' h' :=
  fun S hS B ρ a w R => hr S hS B ρ a w (R.weaken hw)

end
end Go.Sim
