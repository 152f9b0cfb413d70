/-
  Operations that look at no memory: the model does what the ideal ones say.
-/
import Derived.Test.YtjdlcokhlphmhaaSim5
namespace Go.Sim

section
variable {P : Program} (w : World) {ρ : RMap} {g g' : Operand → Value}

theorem optRel_map (hg : ∀ x, opdOk x = true → VRel ρ (g x) (g' x)) (l : Option Operand) (h : l.toArray.all opdOk = true) : OptRel ρ (l.map g) (l.map g') := by
  cases l with
  | none => trivial
  | some x => exact hg x (by simpa using h)

theorem partsRel_map (hg : ∀ x, opdOk x = true → VRel ρ (g x) (g' x)) (place : Nat → Option (Nat × Nat)) : ∀ (qs : List (Nat × Operand)) (ps : List (Nat × Nat × Operand)),
    qs.mapM (m := Option) (fun (i, x) => (place i).map fun (o, s) => (o, s, x)) = some ps → (∀ q ∈ qs, opdOk q.2 = true) →
    PartsRel ρ place (ps.map fun (o, s, x) => (o, s, g x)) (qs.map fun (i, x) => (i, g' x))
  | [], ps, h, _ => by
    simp at h
    subst h
    exact .nil
  | (i, x) :: qs, ps, h, hq => by
    simp only [List.mapM_cons, Option.bind_eq_bind, Option.bind_eq_some_iff] at h
    obtain ⟨p, hp, ps', hps, h⟩ := h
    simp at h
    subst h
    simp only [Option.map_eq_some_iff] at hp
    obtain ⟨⟨o, s⟩, hpl, rfl⟩ := hp
    exact .cons hpl (hg x (hq (i, x) (by simp))) (partsRel_map hg place qs ps' hps fun q hm => hq q (by simp [hm]))

theorem partsRel_total (hg : ∀ x, opdOk x = true → VRel ρ (g x) (g' x)) (pl : Nat → Nat × Nat) : ∀ (qs : List (Nat × Operand)), (∀ q ∈ qs, opdOk q.2 = true) →
    PartsRel ρ (fun i => some (pl i)) ((qs.map fun (i, x) => ((pl i).1, (pl i).2, x)).map fun (o, s, x) => (o, s, g x)) (qs.map fun (i, x) => (i, g' x))
  | [], _ => .nil
  | (i, x) :: qs, hq => .cons rfl (hg x (hq (i, x) (by simp))) (partsRel_total hg pl qs fun q hm => hq q (by simp [hm]))

theorem run_iBuild_struct {t : TypeId} {fs : Array Field} {zs : List Value} {ps : List (Nat × Nat × Value)} {qs : Array (Nat × Value)} {v : Value} (ht : P.underlying t = some (.struct fs)) (hz : zeroOf P t = some zs)
    (hk : ∀ f ∈ fs.toList, infoOk P f.type = true) (hp : PartsRel ρ ((placesOf P fs)[·]?) ps qs.toList) (h : iBuild zs ps = some v) :
    ∃ v', (Instr.build t qs).run P w = .ok v' w ∧ VRel ρ v v' := by
  obtain ⟨i, z, hi, hzz, rfl, hnt, hcl, hlen⟩ := zeroOf_some hz
  simp only [iBuild, Option.map_eq_some_iff] at h
  obtain ⟨cs, hf, rfl⟩ := h
  obtain ⟨cs', hfill, hr, h1, _⟩ := fill_rel (ys := z.cells) hp hf (VsRel.closed fun x hx => (hcl x hx).1) (fun x hx => (hcl x hx).2)
  refine ⟨.agg cs', ?_, ?_⟩
  · have hm := run_mapM_places (P := P) w fs.toList hk
    have hm' : (fs.mapM (m := Sem) fun f => do pure (f.offset, ← sizeOf f.type)).run P w = .ok (fs.toList.map fun f => (f.offset, P.cellsOf f.type)).toArray w := by
      rw [Array.mapM_eq_mapM_toList]
      simp only [Sem.run_map, hm, Result.andThen_ok]
    have hpl : (fun (x : Nat) => ((fs.toList.map fun f => (f.offset, P.cellsOf f.type)).toArray)[x]?) = ((placesOf P fs)[·]?) := by
      funext x
      simp [placesOf]
    simp only [Instr.build, Sem.run_bind, run_zeroValue' w hi hzz, Result.andThen_ok, run_underlying ht, hm']
    rw [hpl, hfill]
    simp
  · have := VRel.aggL (ρ := ρ) hr h1
    simpa using this

theorem run_iBuild_array {t e : TypeId} {n : Nat} {zs : List Value} {ps : List (Nat × Nat × Value)} {qs : Array (Nat × Value)} {v : Value} (ht : P.underlying t = some (.array n e)) (hz : zeroOf P t = some zs)
    (hk : infoOk P e = true) (hp : PartsRel ρ (fun i => some (i * P.cellsOf e, P.cellsOf e)) ps qs.toList) (h : iBuild zs ps = some v) :
    ∃ v', (Instr.build t qs).run P w = .ok v' w ∧ VRel ρ v v' := by
  obtain ⟨i, z, hi, hzz, rfl, hnt, hcl, hlen⟩ := zeroOf_some hz
  simp only [iBuild, Option.map_eq_some_iff] at h
  obtain ⟨cs, hf, rfl⟩ := h
  obtain ⟨cs', hfill, hr, h1, _⟩ := fill_rel (ys := z.cells) hp hf (VsRel.closed fun x hx => (hcl x hx).1) (fun x hx => (hcl x hx).2)
  refine ⟨.agg cs', ?_, ?_⟩
  · simp only [Instr.build, Sem.run_bind, run_zeroValue' w hi hzz, Result.andThen_ok, run_underlying ht, run_sizeOf' w hk]
    rw [hfill]
    simp
  · have := VRel.aggL (ρ := ρ) hr h1
    simpa using this

theorem pure_sound {o : Oper} {po : POp} (hc : compP P o.op = some po) (hok : o.op.operands.all opdOk = true) (hH : ∀ i r, ρ i = some r → r.esz = P.cellsOf r.elem)
    (hg : ∀ x, opdOk x = true → VRel ρ (g x) (g' x)) {v : Value} (hi : ipure po g = some v) : ∃ v', (execOp g' o).run P w = .ok (.value v') w ∧ VRel ρ v v' := by
  cases ho : o.op with
  | move x =>
    rw [ho] at hc hok
    simp [compP] at hc; subst hc
    simp [Op.operands] at hok
    simp [ipure] at hi; subst hi
    exact ⟨g' x, by simp [execOp, ho], hg x hok⟩
  | assign x =>
    rw [ho] at hc hok
    simp [compP] at hc; subst hc
    simp [Op.operands] at hok
    simp [ipure] at hi; subst hi
    exact ⟨g' x, by simp [execOp, ho], hg x hok⟩
  | pick c a b =>
    rw [ho] at hc hok
    simp [compP] at hc; subst hc
    simp [Op.operands] at hok
    simp only [ipure, iPick] at hi
    split at hi
    · rename_i t ht
      have hcb := hg c hok.1
      rw [ht] at hcb
      simp at hi; subst hi
      refine ⟨if t then g' a else g' b, by simp [execOp, ho, hcb.bool_inv, asBool], ?_⟩
      cases t
      · simpa using hg b hok.2.2
      · simpa using hg a hok.2.1
    · cases hi
  | binOp op t x y yt =>
    rw [ho] at hc hok
    simp [Op.operands] at hok
    have hx := hg x hok.1
    have hy := hg y hok.2
    simp only [compP] at hc
    have fin : ∀ v', (do eqGuard op t x y (g' x) (g' y); binOp op t (g' x) (g' y) : Sem Value).run P w = .ok v' w → (execOp g' o).run P w = .ok (.value v') w := by
      intro v' h
      simp only [execOp, ho]
      simp only [Sem.run_bind] at h ⊢
      rw [h]
      rfl
    split at hc
    · simp at hc; subst hc
      obtain ⟨h1, h2⟩ := run_iEqb P w (op := .eql) t x y ‹_› rfl hi hx hy
      exact ⟨v, fin v h1, h2⟩
    · simp at hc; subst hc
      obtain ⟨h1, h2⟩ := run_iEqb P w (op := .neq) t x y ‹_› rfl hi hx hy
      exact ⟨v, fin v h1, h2⟩
    · simp at hc; subst hc
      obtain ⟨h1, h2⟩ := run_iEqnil P w (op := .eql) t x y ‹_› rfl hi hx hy
      exact ⟨v, fin v h1, h2⟩
    · simp at hc; subst hc
      obtain ⟨h1, h2⟩ := run_iEqnil P w (op := .neq) t x y ‹_› rfl hi hx hy
      exact ⟨v, fin v h1, h2⟩
    · simp at hc; subst hc
      obtain ⟨h1, h2⟩ := run_iBin P w t x y hi hx hy
      exact ⟨v, fin v h1, h2⟩
  | unOp op t x =>
    rw [ho] at hc hok
    simp [compP] at hc; subst hc
    simp [Op.operands] at hok
    obtain ⟨h1, h2⟩ := run_iUn P w hi (hg x hok)
    exact ⟨v, by simp [execOp, ho, h1], h2⟩
  | convert s d x =>
    rw [ho] at hc hok
    simp [Op.operands] at hok
    simp only [compP] at hc
    split at hc
    · rename_i k0 k hs hd
      simp at hc; subst hc
      simp only [ipure, iConv] at hi
      split at hi
      · rename_i k1 n hx
        have := hg x hok
        rw [hx] at this
        simp at hi; subst hi
        refine ⟨_, ?_, .int _ _⟩
        simp [execOp, ho, this.int_inv, convert, run_underlying hs, run_underlying hd, Conv.intToInt]
      · cases hi
    · rename_i hs hd
      simp at hc; subst hc
      simp only [ipure, iSid] at hi
      split at hi
      · rename_i z hx
        have := hg x hok
        rw [hx] at this
        simp at hi; subst hi
        refine ⟨_, ?_, .string _⟩
        simp [execOp, ho, this.string_inv, convert, run_underlying hs, run_underlying hd]
      · cases hi
    · cases hc
  | indexAddr t x i =>
    rw [ho] at hc hok
    simp [Op.operands] at hok
    simp only [compP] at hc
    split at hc
    · rename_i e ht
      split at hc
      · rename_i hk
        simp at hc; subst hc
        obtain ⟨v', h1, h2⟩ := run_iAdrSl w ht hk hi (hg x hok.1) (hg i hok.2)
        exact ⟨v', by simp [execOp, ho, h1], h2⟩
      · cases hc
    · rename_i n e ht
      split at hc
      · rename_i hk
        simp at hc; subst hc
        obtain ⟨v', h1, h2⟩ := run_iAdrArr w ht hk hi (hg x hok.1) (hg i hok.2)
        exact ⟨v', by simp [execOp, ho, h1], h2⟩
      · cases hc
    · cases hc
  | index t x i =>
    rw [ho] at hc hok
    simp [Op.operands] at hok
    simp only [compP] at hc
    split at hc
    · rename_i ht
      simp at hc; subst hc
      obtain ⟨h1, h2⟩ := run_iIdxS w ht hi (hg x hok.1) (hg i hok.2)
      exact ⟨v, by simp [execOp, ho, h1], h2⟩
    · rename_i n e ht
      split at hc
      · rename_i d hd
        split at hc
        · rename_i hk
          simp at hc; subst hc
          simp only [Bool.and_eq_true] at hk
          obtain ⟨v', h1, h2⟩ := run_iIdxA w ht hd hk.1 hi (hg x hok.1) (hg i hok.2)
          exact ⟨v', by simp [execOp, ho, h1], h2⟩
        · cases hc
      · cases hc
    · cases hc
  | fieldAddr t x f =>
    rw [ho] at hc hok
    simp [Op.operands] at hok
    simp only [compP] at hc
    split at hc
    · rename_i fs ht
      split at hc
      · rename_i fd hf
        split at hc
        · rename_i hk
          simp at hc; subst hc
          simp only [Bool.and_eq_true, bne_iff_ne] at hk
          obtain ⟨v', h1, h2⟩ := run_iFadr w ht hf hk.1 hk.2 hi (hg x hok)
          exact ⟨v', by simp [execOp, ho, h1], h2⟩
        · cases hc
      · cases hc
    · cases hc
  | field t x f =>
    rw [ho] at hc hok
    simp [Op.operands] at hok
    simp only [compP] at hc
    split at hc
    · rename_i fs ht
      split at hc
      · rename_i fd hf
        split at hc
        · rename_i d hd
          split at hc
          · rename_i hk
            simp at hc; subst hc
            simp only [Bool.and_eq_true] at hk
            obtain ⟨v', h1, h2⟩ := run_iFld w ht hf hd hk.1 hi (hg x hok)
            exact ⟨v', by simp [execOp, ho, h1], h2⟩
          · cases hc
        · cases hc
      · cases hc
    · cases hc
  | slice t x lo hi' mx =>
    rw [ho] at hc hok
    simp only [compP] at hc
    split at hc
    · rename_i ht
      simp at hc; subst hc
      simp only [Op.operands, Array.all_append, Bool.and_eq_true] at hok
      obtain ⟨⟨⟨h0, h1⟩, h2⟩, _⟩ := hok
      obtain ⟨k1, k2⟩ := run_iSlS w ht hi (hg x (by simpa using h0)) (optRel_map hg lo h1) (optRel_map hg hi' h2)
      exact ⟨v, by simp [execOp, ho, k1], k2⟩
    · rename_i e ht
      split at hc
      · rename_i hk
        simp at hc; subst hc
        simp only [Op.operands, Array.all_append, Bool.and_eq_true] at hok
        obtain ⟨⟨⟨h0, h1⟩, h2⟩, _⟩ := hok
        obtain ⟨v', k1, k2⟩ := run_iSlSl w hH ht hk hi (hg x (by simpa using h0)) (optRel_map hg lo h1) (optRel_map hg hi' h2)
        exact ⟨v', by simp [execOp, ho, k1], k2⟩
      · cases hc
    · cases hc
  | nilCheck x =>
    rw [ho] at hc hok
    simp [compP] at hc; subst hc
    simp [Op.operands] at hok
    exact run_iNilck w ho hi (hg x hok)
  | makeFunc fn first captured =>
    rw [ho] at hc hok
    cases fn with
    | func f =>
      simp [compP] at hc; subst hc
      simp only [Op.operands, Array.all_append, Bool.and_eq_true] at hok
      simp [ipure] at hi; subst hi
      have h1 := VsRel.map_ev hg (xs := first.toList) (by simpa using hok.1)
      have h2 := VsRel.map_ev hg (xs := captured.toList) (by simpa using hok.2)
      refine ⟨.func (.func f) (first.map g') (captured.map g'), by simp [execOp, ho, Instr.makeFunc], ?_⟩
      refine .func f (by simp) (by simp) ?_ ?_
      · have := h1.ofList
        simpa using this
      · have := h2.ofList
        simpa using this
    | _ => simp [compP] at hc
  | extract x i =>
    rw [ho] at hc hok
    simp [compP] at hc; subst hc
    simp [Op.operands] at hok
    obtain ⟨v', h1, h2⟩ := run_iExt (P := P) w hi (hg x hok)
    exact ⟨v', by simp [execOp, ho, h1], h2⟩
  | build t parts =>
    rw [ho] at hc hok
    simp only [compP] at hc
    simp only [Op.operands] at hok
    have hq : ∀ q ∈ parts.toList, opdOk q.2 = true := by
      intro q hm
      rw [Array.all_eq_true'] at hok
      exact hok q.2 (by simp; exact ⟨q.1, by simpa using hm⟩)
    split at hc
    · rename_i fs zs ht hz
      split at hc
      · rename_i hk
        split at hc
        · rename_i ps hps
          simp at hc; subst hc
          have hp := partsRel_map hg ((placesOf P fs)[·]?) parts.toList ps hps hq
          have hk' : ∀ f ∈ fs.toList, infoOk P f.type = true := by
            rw [Array.all_eq_true'] at hk
            intro f hf
            exact hk f (by simpa using hf)
          obtain ⟨v', h1, h2⟩ := run_iBuild_struct w ht hz hk' (qs := parts.map fun (i, x) => (i, g' x)) (by simpa using hp) hi
          exact ⟨v', by simp [execOp, ho, h1], h2⟩
        · cases hc
      · cases hc
    · rename_i n e zs ht hz
      split at hc
      · rename_i hk
        simp at hc; subst hc
        have hp := partsRel_total hg (fun i => (i * P.cellsOf e, P.cellsOf e)) parts.toList hq
        obtain ⟨v', h1, h2⟩ := run_iBuild_array w ht hz hk (qs := parts.map fun (i, x) => (i, g' x)) (by simpa using hp) hi
        exact ⟨v', by simp [execOp, ho, h1], h2⟩
      · cases hc
    · cases hc
  | call c =>
    rw [ho] at hc hok
    obtain ⟨callee, args, argTypes⟩ := c
    cases callee with
    | builtin b =>
      simp only [Op.operands, Call.operands, Array.empty_append] at hok
      have hargs := VsRel.map_ev hg (xs := args.toList) (by simpa using hok)
      have fin : ∀ v', (∀ consts, (builtin b argTypes o.type consts (args.map g')).run P w = .ok (.value v') w) → (execOp g' o).run P w = .ok (.value v') w := by
        intro v' h
        simp [execOp, ho, resolve, invoke, h]
      cases b with
      | len =>
        simp only [compP] at hc
        split at hc
        · rename_i x t hx ht0
          obtain rfl : args = #[x] := Array.ext' hx
          obtain rfl : argTypes = #[t] := Array.ext' ht0
          simp at hok
          have hr := hg x hok
          split at hc
          · rename_i ht
            simp at hc; subst hc
            simp only [ipure, iLenS] at hi
            split at hi
            · rename_i s hs
              rw [hs] at hr
              simp at hi; subst hi
              refine ⟨_, fin _ ?_, .int _ _⟩
              intro consts
              simp [builtin, Builtin.len_, run_underlying ht, hr.string_inv, goInt, size_bytes]
            · cases hi
          · rename_i e ht
            simp at hc; subst hc
            simp only [ipure, iLenSl] at hi
            split at hi
            · rename_i a n c hs
              rw [hs] at hr
              simp at hi; subst hi
              refine ⟨_, fin _ ?_, .int _ _⟩
              intro consts
              generalize hy : g' x = y at hr
              cases hr <;> simp [builtin, Builtin.len_, run_underlying ht, hy, goInt]
            · cases hi
          · rename_i n e ht
            simp at hc; subst hc
            simp [ipure] at hi; subst hi
            refine ⟨_, fin _ ?_, .int _ _⟩
            intro consts
            simp [builtin, Builtin.len_, run_underlying ht, goInt]
          · cases hc
        · cases hc
      | min =>
        simp [compP] at hc; subst hc
        simp only [ipure, iMinmax] at hi
        split at hi
        · rename_i k n rest hl
          rw [hl] at hargs
          generalize hy : args.toList.map g' = ys at hargs
          cases hargs with
          | cons h1 h2 =>
            rename_i y0 ys0
            have e := h1.int_inv
            subst e
            obtain ⟨k1, k2⟩ := run_minmax (P := P) w hi h2
            refine ⟨v, fin v ?_, k2⟩
            intro consts
            simp only [builtin, Sem.run_bind, Builtin.min_, Array.toList_map, hy]
            simp at k1
            rw [k1]
            rfl
        · cases hi
      | max =>
        simp [compP] at hc; subst hc
        simp only [ipure, iMinmax] at hi
        split at hi
        · rename_i k n rest hl
          rw [hl] at hargs
          generalize hy : args.toList.map g' = ys at hargs
          cases hargs with
          | cons h1 h2 =>
            rename_i y0 ys0
            have e := h1.int_inv
            subst e
            obtain ⟨k1, k2⟩ := run_minmax (P := P) w hi h2
            refine ⟨v, fin v ?_, k2⟩
            intro consts
            simp only [builtin, Sem.run_bind, Builtin.max_, Array.toList_map, hy]
            simp at k1
            rw [k1]
            rfl
        · cases hi
      | _ => simp [compP] at hc
    | _ => simp [compP] at hc
  | _ => rw [ho] at hc; simp [compP] at hc

end
end Go.Sim
