/-
  The model does what the ideal operations on memory say: all that write or make.
-/
import Derived.Test.YtjdlcokhlphmhaaSim12
namespace Go.Sim

theorem SetBlock.obj {w : World} {g : Nat} {x : Obj} (hg : w.heap[g]? = some x) (b : Obj) : SetBlock w g b { w with heap := w.heap.setIfInBounds g b } where
  here := by
    have := (Array.getElem?_eq_some_iff.1 hg).1
    simp [this]
  other := by intro j hj; simp [Ne.symm hj]
  size := by simp
  os := rfl
  tape := rfl
  output := rfl

theorem find_set {ρ : RMap} {es : List (ByteArray × Value)} {ents : List MapEntry} (h : EntsRel ρ es ents) (k : ByteArray) {v v' : Value} (hv : VRel ρ v v') (born : Nat) : ∀ i : Nat,
    (Instr.findNow .string (.string k) ents i = some none ∧ EntsRel ρ (setS k v es) (ents ++ [{ key := .string k, val := v', born }])) ∨
    (∃ u j, Instr.findNow .string (.string k) ents i = some (some (i + j, u)) ∧ (∃ en, ents[j]? = some en ∧ en.key = .string k) ∧ EntsRel ρ (setS k v es) (ents.modify j fun e => { e with key := .string k, val := v' })) := by
  induction h with
  | nil => intro i; exact .inl ⟨rfl, .cons rfl hv .nil⟩
  | cons h1 h2 h3 ih =>
    rename_i k0 v0 en es ents
    intro i
    by_cases hk : k = k0
    · subst hk
      have hb : (k == k) = true := (MapKept.bytes_beq k k).2 rfl
      refine .inr ⟨en.val, 0, ?_, ⟨en, rfl, h1⟩, ?_⟩
      · simp [Instr.findNow, h1, Instr.sameNow, hb]
      · simp only [setS, if_true, List.modify_zero_cons]
        exact .cons rfl hv h3
    · have hb : (k == k0) = false := by
        rw [Bool.eq_false_iff]
        exact fun e => hk ((MapKept.bytes_beq k k0).1 e)
      rcases ih (i + 1) with ⟨e1, e2⟩ | ⟨u, j, e1, e2, e3⟩
      · refine .inl ⟨?_, ?_⟩
        · simp [Instr.findNow, h1, Instr.sameNow, hb, e1]
        · simp only [setS, if_neg hk, List.cons_append]
          exact .cons h1 h2 e2
      · refine .inr ⟨u, j + 1, ?_, by simpa using e2, ?_⟩
        · simp [Instr.findNow, h1, Instr.sameNow, hb, e1]; omega
        · simp only [setS, if_neg hk, List.modify_succ_cons]
          exact .cons h1 h2 e3

section
variable {P : Program} {w : World} {ρ : RMap} {h : Heap}

theorem run_iMkMap (H : HRel P ρ h w) (t : TypeId) : ∃ w' ρ' v', (Instr.makeMap t none).run P w = .ok v' w' ∧ VRel ρ' (.map (some h.length)) v' ∧ HRel P ρ' (h ++ [.smap []]) w' ∧ Tr ρ h w ρ' (h ++ [.smap []]) w' := by
  have nb := NewBlock.alloc w (.map #[] 0)
  obtain ⟨q1, q2⟩ := H.new (h₀ := h) (o := .smap []) (r := ⟨w.heap.size, 0, 0, P.cellsOf 0, 0⟩) nb rfl rfl rfl (fun _ => .inl rfl) ⟨#[], 0, nb.new, rfl, fun j k v hj => by simp at hj⟩
  refine ⟨_, _, .map (some w.heap.size), ?_, VRel.map (add_self _ _ _), q1, q2⟩
  simp [Instr.makeMap]

theorem run_setObj {g : Nat} {ents : Array MapEntry} {clock : Nat} (hg : w.heap[g]? = some (.map ents clock)) (o : Obj) : (setObj g o).run P w = .ok () { w with heap := w.heap.setIfInBounds g o } := by
  simp [setObj, Sem.run, hg]

theorem run_iMupd (H : HRel P ρ h w) {t kt et : TypeId} {m m' k k' v v' : Value} {h' : Heap} (ht : P.underlying t = some (.map kt et)) (hk : isString P kt = true)
    (hi : iMupd h m k v = some h') (hm : VRel ρ m m') (hkk : VRel ρ k k') (hv : VRel ρ v v') : ∃ w', (Instr.mapUpdate t m' k' v').run P w = .ok () w' ∧ HRel P ρ h' w' ∧ Tr ρ h w ρ h' w' := by
  unfold iMupd at hi
  split at hi
  · rename_i i key
    rw [hkk.string_inv]
    cases hm with
    | map hr =>
      rename_i r
      split at hi
      · rename_i es he
        simp at hi; subst hi
        obtain ⟨ents, clock, hb, hents⟩ := H.ents hr he
        have hks := isString_some hk
        have hmut : isMut h i := .inr (.inl ⟨es, he⟩)
        have mk : ∀ (ents' : Array MapEntry) (clock' : Nat), EntsRel ρ (setS key v es) ents'.toList → HRel P ρ (h.set i (.smap (setS key v es))) { w with heap := w.heap.setIfInBounds r.blk (.map ents' clock') } ∧
            Tr ρ h w ρ (h.set i (.smap (setS key v es))) { w with heap := w.heap.setIfInBounds r.blk (.map ents' clock') } := by
          intro ents' clock' he'
          have sb := SetBlock.obj hb (.map ents' clock')
          have := he'.to
          exact H.set (o := .smap (setS key v es)) hr hmut sb ⟨ents', clock', sb.here, by simpa using this.1, by simpa using this.2⟩
        rcases find_set hents key hv clock 0 with ⟨e1, e2⟩ | ⟨u, j, e1, ⟨en, e2, e2'⟩, e3⟩
        · obtain ⟨q1, q2⟩ := mk (ents.push { key := .string key, val := v', born := clock }) (clock + 1) (by simpa using e2)
          refine ⟨_, ?_, q1, q2⟩
          simp [Instr.mapUpdate, run_underlying ht, run_getObj_map hb, run_checkKey _ hks, run_findKey hks key _ e1, run_setObj hb]
        · obtain ⟨q1, q2⟩ := mk (ents.modify j fun e => { e with key := .string key, val := v' }) clock (by simpa using e3)
          refine ⟨_, ?_, q1, q2⟩
          have hget : ents[j]? = some en := by simpa using e2
          have hsame : Instr.sameBits 10000 (.string key) (.string key) = true := by
            simp [Instr.sameBits, (MapKept.bytes_beq key key).2 rfl]
          have hstay : (Instr.keyThatStays (((ents[j]?).map (·.key)).getD (.string key)) (.string key)).run P w = .ok (.string key) w := by
            rw [hget]
            simp [Instr.keyThatStays, e2', hsame]
          simp only [Instr.mapUpdate, Sem.run_bind, run_underlying ht, Result.andThen_ok, run_getObj_map hb, run_checkKey _ hks, run_findKey hks key _ e1]
          simp only [Nat.zero_add, hstay, Result.andThen_ok, run_setObj hb]
      · cases hi
  · cases hi

theorem Done.val {v v' : Value} {h' : Heap} {s : Result Next} {w' : World} {ρ' : RMap} (e : s = .ok (.value v') w') (a : VRel ρ' v v') (b : HRel P ρ' h' w') (c : Tr ρ h w ρ' h' w') : Done P ρ h w v h' s :=
  ⟨_, _, _, _, e, .inl rfl, a, b, c⟩
theorem Done.skip {h' : Heap} {s : Result Next} {w' : World} (e : s = .ok .skip w') (b : HRel P ρ h' w') (c : Tr ρ h w ρ h' w') : Done P ρ h w undef h' s :=
  ⟨_, _, _, _, e, .inr ⟨rfl, rfl⟩, VRel.undef _, b, c⟩

theorem eff_sound {o : Oper} {eo : EOp} {g g' : Operand → Value} (hc : compE P o.op = some eo) (hok : o.op.operands.all opdOk = true) (H : HRel P ρ h w)
    (hg : ∀ x, opdOk x = true → VRel ρ (g x) (g' x)) {v : Value} {h' : Heap} (hi : ieff eo g h = some (v, h')) : Done P ρ h w v h' ((execOp g' o).run P w) := by
  cases ho : o.op with
  | store t a x =>
    rw [ho] at hc hok
    simp [Op.operands] at hok
    simp only [compE] at hc
    split at hc
    · rename_i hk
      simp at hc; subst hc
      simp only [ieff, Option.map_eq_some_iff, Prod.mk.injEq] at hi
      obtain ⟨h'', hi, rfl, rfl⟩ := hi
      obtain ⟨w', q1, q2, q3⟩ := run_iStore H hk hi (hg a hok.1) (hg x hok.2)
      exact Done.skip (w' := w') (by simp [execOp, ho, q1]) q2 q3
    · cases hc
  | box e x =>
    rw [ho] at hc hok
    simp [Op.operands] at hok
    simp [compE] at hc; subst hc
    obtain ⟨w', ρ', v', q1, q2, q3, q4⟩ := run_iBox H hi (hg x hok)
    exact Done.val (v' := v') (w' := w') (by simp [execOp, ho, q1]) q2 q3 q4
  | alloc e =>
    rw [ho] at hc
    simp only [compE, Option.map_eq_some_iff] at hc
    obtain ⟨zs, hz, rfl⟩ := hc
    simp [ieff] at hi
    obtain ⟨rfl, rfl⟩ := hi
    obtain ⟨w', ρ', v', q1, q2, q3, q4⟩ := run_iAlloc H hz
    exact Done.val (v' := v') (w' := w') (by simp [execOp, ho, q1]) q2 q3 q4
  | buildSlice t n ps =>
    rw [ho] at hc hok
    simp only [compE] at hc
    simp only [Op.operands] at hok
    split at hc
    · rename_i e ht
      split at hc
      · rename_i zs hz
        split at hc
        · rename_i hb
          simp at hc; subst hc
          have hq : ∀ q ∈ ps.toList, opdOk q.2 = true := by
            intro q hm
            rw [Array.all_eq_true'] at hok
            exact hok q.2 (by simp; exact ⟨q.1, by simpa using hm⟩)
          have hp := partsRel_total hg (fun i => (i * P.cellsOf e, P.cellsOf e)) ps.toList hq
          obtain ⟨w', ρ', v', q1, q2, q3, q4⟩ := run_iMkSl H ht hz hb.1 hb.2 (qs := ps.map fun (i, x) => (i, g' x)) (by simpa using hp) hi
          exact Done.val (v' := v') (w' := w') (by simp [execOp, ho, q1]) q2 q3 q4
        · cases hc
      · cases hc
    · cases hc
  | makeSlice t l c =>
    rw [ho] at hc hok
    simp [Op.operands] at hok
    simp only [compE] at hc
    split at hc
    · rename_i e ht
      split at hc
      · rename_i zs hz
        simp at hc; subst hc
        obtain ⟨w', ρ', v', q1, q2, q3, q4⟩ := run_iMake H ht hz hi (hg l hok.1) (hg c hok.2)
        exact Done.val (v' := v') (w' := w') (by simp [execOp, ho, q1]) q2 q3 q4
      · cases hc
    · cases hc
  | makeMap t r =>
    rw [ho] at hc
    cases r with
    | none =>
      simp [compE] at hc; subst hc
      simp [ieff] at hi
      obtain ⟨rfl, rfl⟩ := hi
      obtain ⟨w', ρ', v', q1, q2, q3, q4⟩ := run_iMkMap H t
      exact Done.val (v' := v') (w' := w') (by simp [execOp, ho, q1]) q2 q3 q4
    | some r => simp [compE] at hc
  | mapUpdate t m k x =>
    rw [ho] at hc hok
    simp [Op.operands] at hok
    simp only [compE] at hc
    split at hc
    · rename_i kt et ht
      split at hc
      · rename_i hk
        simp at hc; subst hc
        simp only [ieff, Option.map_eq_some_iff, Prod.mk.injEq] at hi
        obtain ⟨h'', hi, rfl, rfl⟩ := hi
        obtain ⟨w', q1, q2, q3⟩ := run_iMupd H ht hk hi (hg m hok.1) (hg k hok.2.1) (hg x hok.2.2)
        exact Done.skip (w' := w') (by simp [execOp, ho, q1]) q2 q3
      · cases hc
    · cases hc
  | insert t m k x =>
    rw [ho] at hc hok
    simp [Op.operands] at hok
    simp only [compE] at hc
    split at hc
    · rename_i kt et ht
      split at hc
      · rename_i hk
        simp at hc; subst hc
        simp only [ieff, Option.map_eq_some_iff, Prod.mk.injEq] at hi
        obtain ⟨h'', hi, rfl, rfl⟩ := hi
        obtain ⟨w', q1, q2, q3⟩ := run_iMupd H ht hk hi (hg m hok.1) (hg k hok.2.1) (hg x hok.2.2)
        exact Done.skip (w' := w') (by simp [execOp, ho, q1]) q2 q3
      · cases hc
    · cases hc
  | call c =>
    rw [ho] at hc hok
    obtain ⟨callee, args, argTypes⟩ := c
    cases callee with
    | builtin b =>
      cases b with
      | append =>
        simp only [compE] at hc
        split at hc
        · rename_i s x t t' hx ht0
          obtain rfl : args = #[s, x] := Array.ext' hx
          obtain rfl : argTypes = #[t, t'] := Array.ext' ht0
          simp [Op.operands, Call.operands] at hok
          split at hc
          · rename_i hte
            subst hte
            split at hc
            · rename_i e ht
              split at hc
              · rename_i zs hz
                simp at hc; subst hc
                obtain ⟨w', ρ', v', q1, q2, q3, q4⟩ := run_iApp (type := o.type) H ht hz hi (hg s hok.1) (hg x hok.2)
                exact Done.val (v' := v') (w' := w') (by simp [execOp, ho, resolve, invoke, builtin, q1]) q2 q3 q4
              · cases hc
            · cases hc
          · cases hc
        · cases hc
      | _ => simp [compE] at hc
    | _ => simp [compE] at hc
  | _ => rw [ho] at hc; simp [compE] at hc

end
end Go.Sim
