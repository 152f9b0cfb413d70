/-
  The ideal machine is sound: calls; what a law needs at the end.
-/
import Derived.Test.YtipeennffbbglaaMgc
namespace Go.Sim

inductive IRes where
  | tmp (t : Nat)
  | cell (agg : Bool) (n : Nat) (a : Nat)

def ires1 (r : IRes) (f : Nat → Value) (h : Heap) : Option Value :=
  match r with
  | .tmp t => some (f t)
  | .cell agg n a => iLoad agg n h (f a)

def ires : List IRes → (Nat → Value) → Heap → Option (List Value)
  | [], _, _ => some []
  | r :: rs, f, h => match ires1 r f h, ires rs f h with
    | some v, some vs => some (v :: vs)
    | _, _ => none

def pack : List Value → Value
  | [v] => v
  | vs => .tuple vs.toArray

def retL : List IRes → (Nat → Value) → Heap → (List Value → Prop) → Prop
  | [], _, _, k => k []
  | .tmp t :: rs, f, h, k => retL rs f h fun vs => k (f t :: vs)
  | .cell agg n a :: rs, f, h, k => oletP (iLoad agg n h (f a)) fun v => retL rs f h fun vs => k (v :: vs)

def retK (rs : List IRes) (K : Value → Heap → Prop) (f : Nat → Value) (h : Heap) : Prop := retL rs f h fun vs => K (pack vs) h

theorem retL_inv : ∀ {rs : List IRes} {f : Nat → Value} {h : Heap} {k : List Value → Prop}, retL rs f h k → ∃ vs, ires rs f h = some vs ∧ k vs
  | [], f, h, k, hr => ⟨[], rfl, hr⟩
  | .tmp t :: rs, f, h, k, hr => by
    obtain ⟨vs, h1, h2⟩ := retL_inv (rs := rs) hr
    exact ⟨f t :: vs, by simp [ires, ires1, h1], h2⟩
  | .cell agg n a :: rs, f, h, k, hr => by
    simp only [retL, oletP] at hr
    split at hr
    · rename_i v hv
      obtain ⟨vs, h1, h2⟩ := retL_inv (rs := rs) hr
      exact ⟨v :: vs, by simp [ires, ires1, h1, hv], h2⟩
    · exact hr.elim

def bodyK (rs : List IRes) (K : Value → Heap → Prop) : Exit → (Nat → Value) → Heap → Prop
  | .normal, f, h => retK rs K f h
  | .ret, f, h => retK rs K f h
  | _, _, _ => False

def frame0 (args : List Value) : Nat → Value := fun j => args.getD j undef

def compRes1 (P : Program) : ResultVar → Option IRes
  | .tmp t => some (.tmp t)
  | .cell a t =>
    match P.underlying t with
    | some d => if infoOk P t && (isAggD d || P.cellsOf t == 1) then some (.cell (isAggD d) (P.cellsOf t) a) else none
    | none => none

def compRes (P : Program) : List ResultVar → Option (List IRes)
  | [] => some []
  | r :: rs => match compRes1 P r, compRes P rs with
    | some x, some xs => some (x :: xs)
    | _, _ => none

def compFn (P : Program) (F : FuncId) (hs : Hints) : Option (Nat × ICode × List IRes) :=
  match P.funcs[F]? with
  | some fn => match fn.body with
    | some c => match compCode P fn.ntmps c hs, compRes P fn.results.toList with
      | some (ic, _), some rs => some (fn.ntmps, ic, rs)
      | _, _ => none
    | none => none
  | none => none

section
variable {P : Program} {w : World} {ρ : RMap} {h : Heap}

/-- How the model reads one result. -/
def resSem (tmps : Array Value) : ResultVar → Sem Value
  | .tmp t => pure (tmps.getD t Go.undef)
  | .cell b t => do loadVar t (← asAddr (tmps.getD b Go.undef))

theorem results_eq (fn : Func) (tmps : Array Value) : results fn tmps = (do let vs ← fn.results.mapM (resSem tmps); pure (if h : vs.size = 1 then vs[0] else .tuple vs)) := by
  have e : (fun r : ResultVar => (match r with
      | .tmp t => (pure (tmps.getD t Go.undef) : Sem Value)
      | .cell a t => do loadVar t (← asAddr (tmps.getD a Go.undef)))) = resSem tmps := by
    funext r
    cases r <;> rfl
  rw [← e]
  rfl

theorem run_res1 {N B : Nat} {f : Nat → Value} {a : Act} (R : Rel P N B ρ f h a w) {r : ResultVar} {x : IRes} (hc : compRes1 P r = some x) {v : Value} (hv : ires1 x f h = some v) :
    ∃ v', (resSem a.tmps r).run P w = .ok v' w ∧ VRel ρ v v' := by
  cases r with
  | tmp t =>
    simp [compRes1] at hc; subst hc
    simp [ires1] at hv; subst hv
    exact ⟨_, rfl, R.tmp t⟩
  | cell b t =>
    simp only [compRes1] at hc
    split at hc
    · rename_i d ht
      split at hc
      · rename_i hk
        simp at hc; subst hc
        simp only [Bool.and_eq_true] at hk
        simp only [ires1] at hv
        obtain ⟨v', q1, q2⟩ := run_iLoad R.heap ht hk.1 hv (R.tmp b)
        refine ⟨v', ?_, q2⟩
        have hv' := hv
        unfold iLoad at hv'
        split at hv'
        · rename_i i o hfb
          have := R.tmp b
          rw [hfb] at this
          obtain ⟨r', _, e⟩ := this.ptr_inv
          simp only [resSem]
          rw [e] at q1 ⊢
          simpa [Instr.loadAt, Instr.sureAddr, asAddr] using q1
        · cases hv'
      · cases hc
    · cases hc

theorem run_mapM_list {α β : Type} (g : α → Sem β) (w : World) : ∀ {xs : List α} {ys : List β}, (∀ (k : Nat) (x : α), xs[k]? = some x → ∃ y, ys[k]? = some y ∧ (g x).run P w = .ok y w) → xs.length = ys.length → (xs.mapM g).run P w = .ok ys w
  | [], [], _, _ => rfl
  | x :: xs, y :: ys, h, hl => by
    obtain ⟨y', h1, h2⟩ := h 0 x rfl
    simp at h1; subst h1
    have ih := run_mapM_list g w (xs := xs) (ys := ys) (fun k a hk => by simpa using h (k + 1) a (by simpa using hk)) (by simpa using hl)
    simp only [List.mapM_cons, Sem.run_bind, h2, Result.andThen_ok, ih, Sem.run_pure]

theorem run_res {N B : Nat} {f : Nat → Value} {a : Act} (R : Rel P N B ρ f h a w) : ∀ {l : List ResultVar} {rs : List IRes} {vs : List Value}, compRes P l = some rs → ires rs f h = some vs →
    ∃ vs' : List Value, VsRel ρ vs vs' ∧ l.length = vs'.length ∧ ∀ (k : Nat) (r : ResultVar), l[k]? = some r → ∃ y, vs'[k]? = some y ∧ (resSem a.tmps r).run P w = .ok y w
  | [], rs, vs, hc, hv => by
    simp [compRes] at hc; subst hc
    simp [ires] at hv; subst hv
    exact ⟨[], .nil, rfl, fun k r hk => by simp at hk⟩
  | r :: l, rs, vs, hc, hv => by
    simp only [compRes] at hc
    split at hc
    · rename_i x xs h1 h2
      simp at hc; subst hc
      simp only [ires] at hv
      split at hv
      · rename_i v vs h3 h4
        simp at hv; subst hv
        obtain ⟨v', q1, q2⟩ := run_res1 R h1 h3
        obtain ⟨vs', s1, s2, s3⟩ := run_res R h2 h4
        refine ⟨v' :: vs', .cons q2 s1, by simp [s2], ?_⟩
        intro k r' hk
        cases k with
        | zero => simp at hk; subst hk; exact ⟨v', rfl, q1⟩
        | succ k => simpa using s3 k r' (by simpa using hk)
      · cases hv
    · cases hc

theorem run_results {N B : Nat} {f : Nat → Value} {a : Act} (R : Rel P N B ρ f h a w) {fn : Func} {rs : List IRes} {vs : List Value} (hc : compRes P fn.results.toList = some rs) (hv : ires rs f h = some vs) :
    ∃ v', (results fn a.tmps).run P w = .ok v' w ∧ VRel ρ (pack vs) v' := by
  obtain ⟨vs', h1, h2, h3⟩ := run_res R hc hv
  have hm := run_mapM_list (P := P) (resSem a.tmps) w h3 h2
  have hm' : (fn.results.mapM (resSem a.tmps)).run P w = .ok vs'.toArray w := by
    rw [Array.mapM_eq_mapM_toList]
    simp only [Sem.run_map, hm, Result.andThen_ok]
  refine ⟨if h : vs'.toArray.size = 1 then vs'.toArray[0] else .tuple vs'.toArray, ?_, ?_⟩
  · rw [results_eq]
    simp only [Sem.run_bind, hm', Result.andThen_ok, Sem.run_pure]
  · cases h1 with
    | nil => simpa [pack] using VRel.tupleL (ρ := ρ) .nil
    | cons a1 a2 =>
      cases a2 with
      | nil => simpa [pack] using a1
      | cons b1 b2 => simpa [pack] using VRel.tupleL (.cons a1 (.cons b1 b2))

theorem frame0_rel {args : List Value} {args' : Array Value} (hv : VsRel ρ args args'.toList) (N : Nat) (t : Nat) : VRel ρ (frame0 args t) ((args' ++ Array.replicate (N - args'.size) Go.undef).getD t Go.undef) := by
  unfold frame0
  have hl := hv.length
  by_cases ht : t < args.length
  · obtain ⟨y, hy, hr⟩ := hv.get (k := t) (x := args[t]) (List.getElem?_eq_getElem ht)
    have hs : t < args'.size := by simpa using (by omega : t < args'.toList.length)
    have e1 : args.getD t undef = args[t] := by simp [List.getD, ht]
    rw [e1, Array.getD_eq_getD_getElem?, Array.getElem?_append_left hs]
    simp only [Array.getElem?_toList] at hy
    rw [hy]
    exact hr
  · have e1 : args.getD t undef = undef := by simp [List.getD, Nat.le_of_not_lt ht]
    have e2 : (args' ++ Array.replicate (N - args'.size) Go.undef).getD t Go.undef = undef := by
      have hs : ¬ t < args'.size := by simp at hl; omega
      rw [Array.getD_eq_getD_getElem?, Array.getElem?_append_right (by omega)]
      by_cases h2 : t - args'.size < N - args'.size
      · simp [h2]
      · simp [h2]
    rw [e1, e2]
    exact VRel.undef _

/-- Beyond what there was, a block turns. -/
theorem Tr.lateW {ρ' : RMap} {h' : Heap} {w' : World} (T : Tr ρ h w ρ' h' w') {l : Nat} (hl : w.heap.size ≤ l) (o : Obj) : Tr ρ h w ρ' h' (w'.putObj l o) where
  ext := T.ext
  len := T.len
  dom := T.dom
  kinds := T.kinds
  fresh := T.fresh
  wsize := by rw [World.putObj_size]; exact T.wsize
  wblk := fun k hk hno => by rw [putObj_get (by omega)]; exact T.wblk k hk hno
  os := T.os
  tape := T.tape
  output := T.output

theorem leaves_marks {ρ' : RMap} {h' : Heap} {fn : Func} {tmps : Array Value} {Q : Ending → World → Prop} : ∀ {ds : List Deferred} {w' : World}, marks w.heap.size ds w' → HRel P ρ' h' w' → Tr ρ h w ρ' h' w' →
    (∀ w'', HRel P ρ' h' w'' → Tr ρ h w ρ' h' w'' → ∃ v, (results fn tmps).run P w'' = .ok v w'' ∧ Q (.returned v) w'') → LeavesInM Fence.wide 0 P fn tmps Q ds .returning w'
  | [], w', _, H, T, hq => hq w' H T
  | d :: ds, w', ⟨⟨D, h1, h2, h3, h4⟩, h5⟩, H, T, hq => by
    refine ⟨by simp, .inl ⟨D, _, by rw [h1]; rfl, run_takeDeferred h3, ?_⟩⟩
    exact leaves_marks (marks.put (fun d hd => h4 d hd) h5) (H.put (fun j s hj hs => H.notDef h3 hj hs) _) (T.lateW h2 _) hq

/-- A call, by its code in the ideal machine. -/
theorem icall_intro {F : FuncId} {N : Nat} {ic : ICode} {rs : List IRes} {hs : Hints} (hc : compFn P F hs = some (N, ic, rs)) {args : List Value} (ha : args.length ≤ N) {K : Value → Heap → Prop}
    (hi : iwp P ic (bodyK rs K) (frame0 args) h) : icall P F args h K := by
  unfold compFn at hc
  split at hc
  · rename_i fn hf
    split at hc
    · rename_i c hb
      split at hc
      · rename_i ic' _ rs' h1 h2
        simp at hc
        obtain ⟨hN, rfl, rfl⟩ := hc
        obtain ⟨e, f', h', r1, r2⟩ := iwp_sound (out := true) h1 (.inl rfl) hi
        have hret : (e = .normal ∨ e = .ret) ∧ retK rs' K f' h' := by
          cases e <;> first | exact ⟨.inl rfl, r2⟩ | exact ⟨.inr rfl, r2⟩ | exact r2.elim
        obtain ⟨he, hret⟩ := hret
        obtain ⟨vs, hvs, hret⟩ := retL_inv hret
        · refine ⟨pack vs, h', ?_, hret⟩
          intro ρ args' w hv H
          refine callsIn_wide.1 (callsIn_of_wp_marks (F := Fence.wide) (n := 0) hf hb trivial ?_ rfl)
          have hsz : args'.size = args.length := by have := hv.length; simpa using this.symm
          have R : Rel P fn.ntmps w.heap.size ρ (frame0 args) h { tmps := args' ++ Array.replicate (fn.ntmps - args'.size) Go.undef, defers := [] } w := ⟨by simp; omega, Nat.le_refl _, frame0_rel hv fn.ntmps, H⟩
          refine wpIn_mono (r1 none (fun _ => rfl) _ ρ _ w R) ?_
          rintro e' a' w' ⟨rfl, ρ', R', T⟩
          have key : LeavesInM Fence.wide 0 P fn a'.tmps (fun e w' => ∃ v' ρ', e = .returned v' ∧ VRel ρ' (pack vs) v' ∧ HRel P ρ' h' w' ∧ Tr ρ h w ρ' h' w') a'.defers .returning w' := by
            refine leaves_marks R'.defers R'.heap T ?_
            intro w'' H'' T''
            have R'' : Rel P fn.ntmps 0 ρ' f' h' { a' with defers := [] } w'' := ⟨R'.size, Nat.zero_le _, R'.tmp, H''⟩
            obtain ⟨v', q1, q2⟩ := run_results R'' h2 hvs
            exact ⟨v', q1, v', ρ', rfl, q2, H'', T''⟩
          rcases he with rfl | rfl
          · exact key
          · exact key
      · cases hc
    · cases hc
  · cases hc

/-- What a law needs: from a heap that nothing may write, the call leaves all that was there. -/
theorem icall_below {F : FuncId} {args : List Value} {h : Heap} {v : Value} (hi : icall P F args h fun u _ => u = v) {ρ : RMap} {args' : Array Value} {w : World} (hv : VsRel ρ args args'.toList) (H : HRel P ρ h w)
    (hro : ∀ i, ¬ isMut h i) : Calls P F args' w fun e w' => (∃ v' ρ', e = .returned v' ∧ VRel ρ' v v') ∧ RowKit.Below w.heap.size w w' := by
  obtain ⟨u, h', hc, rfl⟩ := hi
  refine (hc ρ args' w hv H).mono ?_
  rintro e w' ⟨v', ρ', rfl, h1, _, T⟩
  exact ⟨⟨v', ρ', rfl, h1⟩, ⟨T.os, T.tape, T.output, T.wsize, fun k hk => T.wblk k hk fun j s _ _ hm => hro j hm⟩⟩

end
end Go.Sim
