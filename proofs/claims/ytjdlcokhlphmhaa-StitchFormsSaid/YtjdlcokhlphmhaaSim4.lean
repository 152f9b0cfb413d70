/-
  The model does what the ideal operations say (2): lengths, indexes, addresses, slices, parts.
-/
import Derived.Test.YtjdlcokhlphmhaaSim3
namespace Go.Sim

section
variable {P : Program} (w : World)

theorem infoOk_some {t : TypeId} (h : infoOk P t = true) : ∃ i, P.info? t = some i := by
  unfold infoOk at h
  exact Option.isSome_iff_exists.1 h

theorem run_sizeOf' {t : TypeId} (h : infoOk P t = true) : (sizeOf t).run P w = .ok (P.cellsOf t) w := by
  obtain ⟨i, hi⟩ := infoOk_some h
  exact run_sizeOf w hi

theorem run_isAgg' {t : TypeId} {d : TypeDesc} (h : P.underlying t = some d) : (isAgg t).run P w = .ok (isAggD d) w := by
  cases d <;> simp [isAgg, run_underlying h, isAggD]

theorem max2_int {mx : Bool} {k : IntKind} {x : Int} {y v : Value} (h : max2 mx (.int k x) y = some v) : ∃ k' b, y = .int k' b ∧ ∃ z, v = .int k z := by
  unfold max2 at h
  split at h
  · rename_i k2 x2 k3 y2 e
    cases e
    simp at h
    exact ⟨k3, y2, rfl, _, h.symm⟩
  · cases h

theorem run_minmax {ρ : RMap} {mx : Bool} : ∀ {xs xs' : List Value} {k : IntKind} {x : Int} {v : Value}, xs.foldlM (max2 mx) (.int k x) = some v → VsRel ρ xs xs' →
    (xs'.foldlM (if mx then Builtin.max2 else Builtin.min2) (.int k x) : Sem Value).run P w = .ok v w ∧ VRel ρ v v
  | [], xs', k, x, v, h, hs => by
    cases hs
    simp at h
    subst h
    exact ⟨rfl, .int _ _⟩
  | y :: xs, xs', k, x, v, h, hs => by
    cases hs with
    | cons hy hs =>
      simp only [List.foldlM_cons, Option.bind_eq_bind, Option.bind_eq_some_iff] at h
      obtain ⟨u, hu, h⟩ := h
      obtain ⟨k', b, rfl, z, rfl⟩ := max2_int hu
      have ih := run_minmax (ρ := ρ) h hs
      refine ⟨?_, ih.2⟩
      rw [hy.int_inv]
      simp only [List.foldlM_cons, Sem.run_bind]
      simp only [max2, Option.some.injEq, Value.int.injEq, true_and] at hu
      cases mx
      · simp at hu ⊢
        simp only [Builtin.min2, Sem.run_pure, Result.andThen_ok, hu]
        simpa using ih.1
      · simp at hu ⊢
        simp only [Builtin.max2, Sem.run_pure, Result.andThen_ok, gt_iff_lt, hu]
        simpa using ih.1

theorem run_iIdxS {ρ : RMap} {t : TypeId} {x i x' i' v : Value} (ht : P.underlying t = some .string) (h : iIdxS x i = some v) (hx : VRel ρ x x') (hi : VRel ρ i i') :
    (Instr.index t x' i').run P w = .ok v w ∧ VRel ρ v v := by
  unfold iIdxS at h
  split at h
  · rename_i s k j
    rw [hx.string_inv, hi.int_inv]
    split at h
    · rename_i h0
      simp only [Option.map_eq_some_iff] at h
      obtain ⟨b, hb, rfl⟩ := h
      refine ⟨?_, .int _ _⟩
      have hb' : s[j.toNat]? = some b := by
        have hlt := (List.getElem?_eq_some_iff.1 hb).1
        have : j.toNat < s.size := by rw [size_bytes]; exact hlt
        rw [getElem?_pos s j.toNat this]
        have e := (List.getElem?_eq_some_iff.1 hb).2
        simp only [bytes, Array.getElem_toList] at e
        rw [← e]
        rfl
      simp [Instr.index, asIntOf, run_underlying ht, h0, hb']
    · cases h
  · cases h

theorem iPart_rel {ρ : RMap} {agg : Bool} {off sz : Nat} {cs : List Value} {cs' : Array Value} {v : Value} (h : iPart agg off sz cs = some v) (hs : VsRel ρ cs cs'.toList) (h1 : ∀ x ∈ cs, isCell x = true) :
    ∃ v', (if agg then some (.agg (cs'.extract off (off + sz))) else cs'[off]?) = some v' ∧ VRel ρ v v' := by
  unfold iPart at h
  cases agg
  · simp at h ⊢
    obtain ⟨y, hy, hr⟩ := hs.get h
    exact ⟨y, by simpa using hy, hr⟩
  · simp at h ⊢
    obtain ⟨hl, rfl⟩ := h
    have := ((hs.drop off).take sz)
    have e : (cs'.extract off (off + sz)) = ((cs'.toList.drop off).take sz).toArray := by
      apply Array.ext'
      simp [List.take_drop]
    rw [e]
    exact .aggL this (fun x hx => h1 x (List.mem_of_mem_drop (List.mem_of_mem_take hx)))

theorem run_iPart {ρ : RMap} {t : TypeId} {d : TypeDesc} {off : Nat} {cs : List Value} {cs' : Array Value} {v : Value} (ht : P.underlying t = some d) (hk : infoOk P t = true)
    (h : iPart (isAggD d) off (P.cellsOf t) cs = some v) (hs : VsRel ρ cs cs'.toList) (h1 : ∀ x ∈ cs, isCell x = true) :
    ∃ v', (part t cs' off).run P w = .ok v' w ∧ VRel ρ v v' := by
  obtain ⟨v', hv, hr⟩ := iPart_rel h hs h1
  refine ⟨v', ?_, hr⟩
  unfold part
  simp only [Sem.run_bind, run_isAgg' w ht, Result.andThen_ok]
  cases hd : isAggD d
  · rw [hd] at hv
    simp at hv ⊢
    rw [hv]
    rfl
  · rw [hd] at hv
    simp at hv ⊢
    simp only [run_sizeOf' w hk, Result.andThen_ok, hv]

theorem VRel.agg_inv {ρ : RMap} {cs : Array Value} {x' : Value} (h : VRel ρ (.agg cs) x') : ∃ cs', x' = .agg cs' ∧ VsRel ρ cs.toList cs'.toList ∧ ∀ x ∈ cs.toList, isCell x = true := by
  cases h with
  | agg hs h1 h => exact ⟨_, rfl, VsRel.toArr hs h, h1⟩

theorem run_iIdxA {ρ : RMap} {t e : TypeId} {d : TypeDesc} {n : Nat} {x i x' i' v : Value} (ht : P.underlying t = some (.array n e)) (he : P.underlying e = some d) (hk : infoOk P e = true)
    (h : iIdxA n (P.cellsOf e) (isAggD d) x i = some v) (hx : VRel ρ x x') (hi : VRel ρ i i') :
    ∃ v', (Instr.index t x' i').run P w = .ok v' w ∧ VRel ρ v v' := by
  unfold iIdxA at h
  split at h
  · rename_i cs k j
    obtain ⟨cs', rfl, hs, h1⟩ := hx.agg_inv
    rw [hi.int_inv]
    split at h
    · rename_i h0
      obtain ⟨v', hr, hv⟩ := run_iPart w he hk h hs h1
      refine ⟨v', ?_, hv⟩
      simp [Instr.index, asIntOf, run_underlying ht, h0, run_sizeOf' w hk, hr]
    · cases h
  · cases h

theorem run_iFld {ρ : RMap} {t : TypeId} {fs : Array Field} {f : Nat} {fd : Field} {d : TypeDesc} {x x' v : Value} (ht : P.underlying t = some (.struct fs)) (hf : fs[f]? = some fd) (he : P.underlying fd.type = some d)
    (hk : infoOk P fd.type = true) (h : iFld (isAggD d) fd.offset (P.cellsOf fd.type) x = some v) (hx : VRel ρ x x') :
    ∃ v', (Instr.field t x' f).run P w = .ok v' w ∧ VRel ρ v v' := by
  unfold iFld at h
  split at h
  · rename_i cs
    obtain ⟨cs', rfl, hs, h1⟩ := hx.agg_inv
    obtain ⟨v', hr, hv⟩ := run_iPart w he hk h hs h1
    refine ⟨v', ?_, hv⟩
    simp [Instr.field, run_underlying ht, hf, asAgg, hr]
  · cases h

theorem run_iAdrSl {ρ : RMap} {t e : TypeId} {x i x' i' v : Value} (ht : P.underlying t = some (.slice e)) (hk : infoOk P e = true)
    (h : iAdrSl (P.cellsOf e) x i = some v) (hx : VRel ρ x x') (hi : VRel ρ i i') :
    ∃ v', (Instr.indexAt t x' i').run P w = .ok v' w ∧ VRel ρ v v' := by
  unfold iAdrSl at h
  split at h
  · rename_i id o e' n c k j
    split at h
    · rename_i h0
      simp at h
      subst h
      rw [hi.int_inv]
      cases hx with
      | slice hr ho hn hc hb =>
        rename_i o' c' r
        have ho' : o' = r.sh + o := by
          rcases ho with ho | ⟨h1, h2, h3⟩
          · exact ho
          · omega
        subst ho'
        refine ⟨_, ?_, VRel.ptr hr⟩
        simp [Instr.indexAt, asIntOf, run_underlying ht, h0, run_sizeOf' w hk, Addr.add_lit, Nat.add_assoc]
    · cases h
  · cases h

theorem VRel.ptr_inv {ρ : RMap} {id o : Nat} {x' : Value} (h : VRel ρ (.pointer (some ⟨id, o, none⟩)) x') : ∃ r, ρ id = some r ∧ x' = .pointer (some ⟨r.blk, r.sh + o, none⟩) := by
  cases h with
  | ptr hr => exact ⟨_, hr, rfl⟩

theorem run_iAdrArr {ρ : RMap} {t e : TypeId} {n : Nat} {x i x' i' v : Value} (ht : P.underlying t = some (.array n e)) (hk : infoOk P e = true)
    (h : iAdrArr n (P.cellsOf e) x i = some v) (hx : VRel ρ x x') (hi : VRel ρ i i') :
    ∃ v', (Instr.indexAt t x' i').run P w = .ok v' w ∧ VRel ρ v v' := by
  unfold iAdrArr at h
  split at h
  · rename_i id o k j
    split at h
    · rename_i h0
      simp at h
      subst h
      rw [hi.int_inv]
      obtain ⟨r, hr, rfl⟩ := hx.ptr_inv
      refine ⟨_, ?_, VRel.ptr hr⟩
      simp [Instr.indexAt, asIntOf, run_underlying ht, h0, run_sizeOf' w hk, Instr.sureAddr, Addr.add_lit, Nat.add_assoc]
    · cases h
  · cases h

theorem run_iFadr {ρ : RMap} {t : TypeId} {fs : Array Field} {f : Nat} {fd : Field} {x x' v : Value} (ht : P.underlying t = some (.struct fs)) (hf : fs[f]? = some fd) (hk : infoOk P fd.type = true)
    (hz : P.cellsOf fd.type ≠ 0) (h : iFadr fd.offset x = some v) (hx : VRel ρ x x') :
    ∃ v', (Instr.fieldAt t x' f).run P w = .ok v' w ∧ VRel ρ v v' := by
  unfold iFadr at h
  split at h
  · rename_i id o
    simp at h
    subst h
    obtain ⟨r, hr, rfl⟩ := hx.ptr_inv
    refine ⟨_, ?_, VRel.ptr hr⟩
    simp [Instr.fieldAt, run_underlying ht, hf, Instr.sureAddr, fieldPlace, run_sizeOf' w hk, hz, Addr.add_lit, Nat.add_assoc]
  · cases h

theorem natOf_inv {ρ : RMap} {v v' : Value} {n : Nat} (h : natOf v = some n) (hv : VRel ρ v v') : ∃ k i, v' = .int k i ∧ 0 ≤ i ∧ i.toNat = n := by
  unfold natOf at h
  split at h
  · rename_i k i
    rw [hv.int_inv]
    split at h
    · rename_i h0
      simp at h
      exact ⟨k, i, rfl, h0, h⟩
    · cases h
  · cases h

/-- What the operands of a slice expression are, each if it stands there. -/
def OptRel (ρ : RMap) : Option Value → Option Value → Prop
  | none, none => True
  | some a, some b => VRel ρ a b
  | _, _ => False

theorem run_iBounds {ρ : RMap} {n cap : Nat} {isSlice : Bool} {lo hi lo' hi' : Option Value} {l h : Nat} (he : iBounds n lo hi = some (l, h)) (hc : n ≤ cap) (hlo : OptRel ρ lo lo') (hhi : OptRel ρ hi hi') :
    (Instr.sliceBounds isSlice n cap lo' hi' none).run P w = .ok (l, h, cap) w ∧ l ≤ h ∧ h ≤ n := by
  unfold iBounds at he
  split at he
  · rename_i l1 h1 hl hh
    split at he
    · rename_i hb
      simp at he
      obtain ⟨rfl, rfl⟩ := he
      refine ⟨?_, hb.1, hb.2⟩
      have bh : ∀ (v : Value), hi' = some v → ∃ k i, v = .int k i ∧ 0 ≤ i ∧ i.toNat = h1 := by
        intro v hv
        subst hv
        cases hi with
        | none => exact hhi.elim
        | some u => exact natOf_inv hh hhi
      have bh0 : hi' = none → h1 = n := by
        intro hv
        subst hv
        cases hi with
        | none => simpa using hh.symm
        | some u => exact hhi.elim
      have bl : ∀ (v : Value), lo' = some v → ∃ k i, v = .int k i ∧ 0 ≤ i ∧ i.toNat = l1 := by
        intro v hv
        subst hv
        cases lo with
        | none => exact hlo.elim
        | some u => exact natOf_inv hl hlo
      have bl0 : lo' = none → l1 = 0 := by
        intro hv
        subst hv
        cases lo with
        | none => simpa using hl.symm
        | some u => exact hlo.elim
      unfold Instr.sliceBounds
      cases hi' with
      | none =>
        obtain rfl := bh0 rfl
        cases lo' with
        | none => obtain rfl := bl0 rfl; simp
        | some v =>
          obtain ⟨k, i, rfl, h0, rfl⟩ := bl v rfl
          have : i ≤ (h1 : Int) := by omega
          simp [Instr.sliceBound, asIntOf, h0, this]
      | some u =>
        obtain ⟨k, i, rfl, h0, rfl⟩ := bh u rfl
        have hic : i ≤ (cap : Int) := by omega
        cases lo' with
        | none => obtain rfl := bl0 rfl; simp [Instr.sliceBound, asIntOf, h0, hic]
        | some v =>
          obtain ⟨k2, j, rfl, h2, rfl⟩ := bl v rfl
          have : j ≤ i := by omega
          simp [Instr.sliceBound, asIntOf, h0, hic, h2, this, Int.toNat_of_nonneg h0]
    · cases he
  · cases he

theorem extract_bytes (s : ByteArray) (l h : Nat) : s.extract l h = ⟨(((bytes s).take h).drop l).toArray⟩ := by
  apply ByteArray.ext
  apply Array.ext'
  simp only [bytes, ByteArray.data_extract, Array.toList_extract, List.drop_take]

theorem run_iSlS {ρ : RMap} {t : TypeId} {x x' v : Value} {lo hi lo' hi' : Option Value} (ht : P.underlying t = some .string) (h : iSlS x lo hi = some v) (hx : VRel ρ x x')
    (hlo : OptRel ρ lo lo') (hhi : OptRel ρ hi hi') : (Instr.sliceAt t x' lo' hi' none).run P w = .ok v w ∧ VRel ρ v v := by
  unfold iSlS at h
  split at h
  · rename_i s
    rw [hx.string_inv]
    simp only [Option.map_eq_some_iff, Prod.exists] at h
    obtain ⟨l, u, hb, rfl⟩ := h
    obtain ⟨hr, h1, h2⟩ := run_iBounds (P := P) w (isSlice := false) hb (Nat.le_refl _) hlo hhi
    refine ⟨?_, VRel.S _ _⟩
    rw [← size_bytes] at hr
    simp [Instr.sliceAt, Instr.slice, run_underlying ht, hr, S, extract_bytes]
  · cases h

theorem run_iSlSl {ρ : RMap} {t e : TypeId} {x x' v : Value} {lo hi lo' hi' : Option Value} (hH : ∀ i r, ρ i = some r → r.esz = P.cellsOf r.elem) (ht : P.underlying t = some (.slice e)) (hk : infoOk P e = true)
    (h : iSlSl e (P.cellsOf e) x lo hi = some v) (hx : VRel ρ x x') (hlo : OptRel ρ lo lo') (hhi : OptRel ρ hi hi') :
    ∃ v', (Instr.sliceAt t x' lo' hi' none).run P w = .ok v' w ∧ VRel ρ v v' := by
  unfold iSlSl at h
  split at h
  · simp only [Option.map_eq_some_iff, Prod.exists] at h
    obtain ⟨l, u, hb, rfl⟩ := h
    obtain ⟨hr, h1, h2⟩ := run_iBounds (P := P) w (isSlice := true) hb (Nat.le_refl _) hlo hhi
    cases hx
    refine ⟨_, ?_, .nilSlice⟩
    obtain rfl : u = 0 := by omega
    obtain rfl : l = 0 := by omega
    simp [Instr.sliceAt, Instr.slice, run_underlying ht, hr, run_sizeOf' w hk]
  · rename_i id o e' n c
    split at h
    · rename_i hee
      subst hee
      simp only [Option.map_eq_some_iff, Prod.exists] at h
      obtain ⟨l, u, hb, rfl⟩ := h
      cases hx with
      | slice hr ho hn hc hbd =>
        rename_i o' c' r
        obtain ⟨hrun, h1, h2⟩ := run_iBounds (P := P) w (isSlice := true) hb hn hlo hhi
        have hes := hH _ _ hr
        by_cases hcl : c' = l
        · refine ⟨.slice (some ⟨r.blk, o', none⟩) (u - l) (c' - l), ?_, ?_⟩
          · rw [hcl] at hrun ⊢
            simp [Instr.sliceAt, Instr.slice, run_underlying ht, hrun, run_sizeOf' w hk]
          · refine VRel.slice hr ?_ (by omega) (by omega) ?_
            · rcases Nat.eq_zero_or_pos (l * P.cellsOf r.elem) with hz | hz
              · rw [hz]
                rcases ho with ho | ⟨q1, q2, q3⟩
                · exact .inl (by omega)
                · exact .inr ⟨by omega, by omega, by omega⟩
              · exact .inr ⟨by omega, by omega, by omega⟩
            · have : c' - l = 0 := by omega
              rw [this]
              have : o' ≤ o' + c' * r.esz := Nat.le_add_right _ _
              omega
        · refine ⟨.slice (some ⟨r.blk, o' + l * P.cellsOf r.elem, none⟩) (u - l) (c' - l), ?_, ?_⟩
          · simp [Instr.sliceAt, Instr.slice, run_underlying ht, hrun, run_sizeOf' w hk, hcl, Addr.add_lit]
          · refine VRel.slice hr ?_ (by omega) (by omega) ?_
            · rcases ho with ho | ⟨q1, q2, q3⟩
              · exact .inl (by omega)
              · exfalso; omega
            · rw [← hes]
              have e1 : l * r.esz + (c' - l) * r.esz = c' * r.esz := by rw [← Nat.add_mul]; congr 1; omega
              omega
    · cases h
  · cases h

theorem run_iNilck {ρ : RMap} {o : Oper} {ox : Operand} {g' : Operand → Value} {x v : Value} (ho : o.op = .nilCheck ox) (h : iNilck x = some v) (hx : VRel ρ x (g' ox)) :
    ∃ v', (execOp g' o).run P w = .ok (.value v') w ∧ VRel ρ v v' := by
  unfold iNilck at h
  split at h
  · simp at h
    subst h
    generalize hy : g' ox = y at hx
    have hx' := hx
    cases hx with
    | ptr hr =>
      refine ⟨_, ?_, hx'⟩
      simp [execOp, ho, hy]
  · simp at h
    subst h
    generalize hy : g' ox = y at hx
    have hx' := hx
    cases hx with
    | func f a b c d =>
      refine ⟨_, ?_, hx'⟩
      simp [execOp, ho, hy]
    | yield hr =>
      refine ⟨_, ?_, hx'⟩
      simp [execOp, ho, hy]
  · cases h

theorem run_iExt {ρ : RMap} {x x' v : Value} {i : Nat} (h : iExt i x = some v) (hx : VRel ρ x x') : ∃ v', (Instr.extract x' i).run P w = .ok v' w ∧ VRel ρ v v' := by
  unfold iExt at h
  split at h
  · cases hx with
    | tuple hs hr =>
      obtain ⟨y, hy, hv⟩ := (VsRel.toArr hs hr).get (k := i) (x := v) (by simpa using h)
      refine ⟨y, ?_, hv⟩
      simp only [Array.getElem?_toList] at hy
      simp [Instr.extract, hy]
  · cases h

end

theorem VsRel.map_ev {ρ : RMap} {g g' : Operand → Value} (hg : ∀ x, opdOk x = true → VRel ρ (g x) (g' x)) : ∀ {xs : List Operand}, xs.all opdOk = true → VsRel ρ (xs.map g) (xs.map g')
  | [], _ => .nil
  | x :: xs, h => by
    simp at h
    exact .cons (hg x h.1) (VsRel.map_ev hg (by simpa using h.2))

end Go.Sim
