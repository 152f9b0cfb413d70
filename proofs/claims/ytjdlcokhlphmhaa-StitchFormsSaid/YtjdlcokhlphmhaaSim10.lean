/-
  The model does what the ideal operations on memory say: maps, and all that read.
-/
import Derived.Test.YtjdlcokhlphmhaaSim9
import Derived.MapKept
namespace Go.Sim

inductive EntsRel (ρ : RMap) : List (ByteArray × Value) → List MapEntry → Prop
  | nil : EntsRel ρ [] []
  | cons {k : ByteArray} {v : Value} {en : MapEntry} {es : List (ByteArray × Value)} {ents : List MapEntry} : en.key = .string k → VRel ρ v en.val → EntsRel ρ es ents → EntsRel ρ ((k, v) :: es) (en :: ents)

theorem EntsRel.of {ρ : RMap} : ∀ {es : List (ByteArray × Value)} {ents : List MapEntry}, ents.length = es.length →
    (∀ (j : Nat) (k : ByteArray) (v : Value), es[j]? = some (k, v) → ∃ en, ents[j]? = some en ∧ en.key = .string k ∧ VRel ρ v en.val) → EntsRel ρ es ents
  | [], [], _, _ => .nil
  | (k, v) :: es, en :: ents, hl, h => by
    obtain ⟨en', h1, h2, h3⟩ := h 0 k v rfl
    simp at h1; subst h1
    exact .cons h2 h3 (EntsRel.of (by simpa using hl) fun j k' v' hj => by simpa using h (j + 1) k' v' (by simpa using hj))

theorem EntsRel.to {ρ : RMap} {es : List (ByteArray × Value)} {ents : List MapEntry} (h : EntsRel ρ es ents) :
    ents.length = es.length ∧ ∀ (j : Nat) (k : ByteArray) (v : Value), es[j]? = some (k, v) → ∃ en, ents[j]? = some en ∧ en.key = .string k ∧ VRel ρ v en.val := by
  induction h with
  | nil => exact ⟨rfl, fun j k v hj => by simp at hj⟩
  | cons h1 h2 _ ih =>
    refine ⟨by simp [ih.1], ?_⟩
    intro j k v hj
    cases j with
    | zero => simp at hj; obtain ⟨rfl, rfl⟩ := hj; exact ⟨_, rfl, h1, h2⟩
    | succ j => simp at hj; simpa using ih.2 j k v hj

theorem EntsRel.mono {ρ ρ' : RMap} (hle : ρ.le ρ') {es : List (ByteArray × Value)} {ents : List MapEntry} (h : EntsRel ρ es ents) : EntsRel ρ' es ents := by
  induction h with
  | nil => exact .nil
  | cons h1 h2 _ ih => exact .cons h1 (h2.mono hle) ih

theorem find_rel {ρ : RMap} {es : List (ByteArray × Value)} {ents : List MapEntry} (h : EntsRel ρ es ents) (k : ByteArray) : ∀ i : Nat,
    (findS k es = none ∧ Instr.findNow .string (.string k) ents i = some none) ∨
    (∃ v v' j, findS k es = some v ∧ Instr.findNow .string (.string k) ents i = some (some (i + j, v')) ∧ VRel ρ v v' ∧ (∃ en, ents[j]? = some en ∧ en.key = .string k)) := by
  induction h with
  | nil => intro i; exact .inl ⟨rfl, rfl⟩
  | cons h1 h2 _ ih =>
    rename_i k0 v0 en es ents _
    intro i
    by_cases hk : k = k0
    · subst hk
      refine .inr ⟨v0, en.val, 0, by simp [findS], ?_, h2, en, rfl, h1⟩
      have hb : (k == k) = true := (MapKept.bytes_beq k k).2 rfl
      simp [Instr.findNow, h1, Instr.sameNow, hb]
    · have hb : (k == k0) = false := by
        rw [Bool.eq_false_iff]
        exact fun e => hk ((MapKept.bytes_beq k k0).1 e)
      rcases ih (i + 1) with ⟨e1, e2⟩ | ⟨v, v', j, e1, e2, e3, e4⟩
      · refine .inl ⟨by simp [findS, hk, e1], ?_⟩
        simp [Instr.findNow, h1, Instr.sameNow, hb, e2]
      · refine .inr ⟨v, v', j + 1, by simp [findS, hk, e1], ?_, e3, ?_⟩
        · simp [Instr.findNow, h1, Instr.sameNow, hb, e2]; omega
        · simpa using e4

section
variable {P : Program} {w : World} {ρ : RMap} {h : Heap}

theorem isString_some {t : TypeId} (h : isString P t = true) : P.underlying t = some .string := by
  unfold isString at h
  split at h
  · assumption
  · cases h

theorem run_checkKey (b : Bool) {kt : TypeId} (hk : P.underlying kt = some .string) (k : ByteArray) : (Instr.checkKey b 10000 kt (.string k)).run P w = .ok () w := by
  rw [show (10000 : Nat) = 9999 + 1 from rfl, Instr.checkKey]
  simp [run_underlying hk]

theorem run_findKey {kt : TypeId} (hk : P.underlying kt = some .string) (k : ByteArray) (ents : List MapEntry) {r : Option (Nat × Value)} (hr : Instr.findNow .string (.string k) ents 0 = some r) :
    (Instr.findKey kt (.string k) ents).run P w = .ok r w := by
  simp [Instr.findKey, run_underlying hk, hr]

theorem HRel.ents (H : HRel P ρ h w) {i : Nat} {r : RI} {es : List (ByteArray × Value)} (hi : ρ i = some r) (he : h[i]? = some (.smap es)) :
    ∃ ents clock, w.heap[r.blk]? = some (.map ents clock) ∧ EntsRel ρ es ents.toList := by
  obtain ⟨o, ho, hr⟩ := H.obj i r hi
  rw [he] at ho
  cases ho
  obtain ⟨ents, clock, h1, h2, h3⟩ := hr
  exact ⟨ents, clock, h1, EntsRel.of (by simpa using h2) (by simpa using h3)⟩

theorem run_getObj_map {b : Nat} {ents : Array MapEntry} {clock : Nat} (hb : w.heap[b]? = some (.map ents clock)) : (getObj b).run P w = .ok (.map ents clock) w := by
  simp [getObj, Sem.run, hb]

theorem zero1_some {t : TypeId} {z : Value} (hz : zero1 P t = some z) : (∀ w, (zeroValue t).run P w = .ok z w) ∧ cvOk z = true := by
  unfold zero1 at hz
  split at hz
  · rename_i i hi
    split at hz
    · rename_i z' hz'
      split at hz
      · rename_i hc
        simp at hz; subst hz
        simp [cellOk] at hc
        exact ⟨fun w => run_zeroValue' w hi hz', hc.1⟩
      · cases hz
    · cases hz
  · cases hz

theorem run_iLookup (H : HRel P ρ h w) {t kt et : TypeId} {ok : Bool} {z m m' k k' v : Value} (ht : P.underlying t = some (.map kt et)) (hk : isString P kt = true) (hz : zero1 P et = some z)
    (hi : iLookup ok z h m k = some v) (hm : VRel ρ m m') (hkk : VRel ρ k k') : ∃ v', (Instr.lookup t m' k' ok).run P w = .ok v' w ∧ VRel ρ v v' := by
  unfold iLookup at hi
  split at hi
  · rename_i i key
    rw [hkk.string_inv]
    cases hm with
    | map hr =>
      rename_i r
      split at hi
      · rename_i es he
        obtain ⟨ents, clock, hb, hents⟩ := H.ents hr he
        obtain ⟨hz1, hz2⟩ := zero1_some hz
        have hks := isString_some hk
        rcases find_rel hents key 0 with ⟨e1, e2⟩ | ⟨u, u', j, e1, e2, e3, _⟩
        · rw [e1] at hi
          simp at hi
          have hrun : (Instr.lookup t (.map (some r.blk)) (.string key) ok).run P w = .ok (if ok then .tuple #[z, .bool false] else z) w := by
            simp [Instr.lookup, run_underlying ht, run_getObj_map hb, run_checkKey _ hks, run_findKey hks key _ e2, hz1]
          refine ⟨_, hrun, ?_⟩
          subst hi
          cases ok
          · exact cvOk.rel hz2
          · exact VRel.tupleL (.cons (cvOk.rel hz2) (.cons (.bool _) .nil))
        · rw [e1] at hi
          simp at hi
          have hrun : (Instr.lookup t (.map (some r.blk)) (.string key) ok).run P w = .ok (if ok then .tuple #[u', .bool true] else u') w := by
            simp [Instr.lookup, run_underlying ht, run_getObj_map hb, run_checkKey _ hks, run_findKey hks key _ e2]
          refine ⟨_, hrun, ?_⟩
          subst hi
          cases ok
          · exact e3
          · exact VRel.tupleL (.cons e3 (.cons (.bool _) .nil))
      · cases hi
  · cases hi

theorem load_sound {o : Oper} {lo : LOp} {g g' : Operand → Value} (hc : compL P o.op = some lo) (hok : o.op.operands.all opdOk = true) (H : HRel P ρ h w)
    (hg : ∀ x, opdOk x = true → VRel ρ (g x) (g' x)) {v : Value} (hi : iload lo g h = some v) : ∃ v', (execOp g' o).run P w = .ok (.value v') w ∧ VRel ρ v v' := by
  cases ho : o.op with
  | load t a =>
    rw [ho] at hc hok
    simp [Op.operands] at hok
    simp only [compL] at hc
    split at hc
    · rename_i d ht
      split at hc
      · rename_i hk
        simp at hc; subst hc
        simp only [Bool.and_eq_true] at hk
        obtain ⟨v', h1, h2⟩ := run_iLoad H ht hk.1 hi (hg a hok)
        exact ⟨v', by simp [execOp, ho, h1], h2⟩
      · cases hc
    · cases hc
  | convert s d x =>
    rw [ho] at hc hok
    simp [Op.operands] at hok
    simp only [compL] at hc
    split at hc
    · rename_i e hs hd
      split at hc
      · rename_i he
        simp at hc; subst hc
        have hx := hg x hok
        obtain ⟨h1, h2⟩ := run_iB2s H hi hx
        refine ⟨v, ?_, h2⟩
        have : (convert s d (g' x)).run P w = .ok v w := by
          simp only [iload, iB2s, Option.bind_eq_some_iff] at hi
          obtain ⟨cs, hcs, _⟩ := hi
          rcases sliceCells_rel H hcs hx with ⟨e1, _⟩ | ⟨b, o', n, c', e1, _⟩
          · rw [e1] at h1 ⊢; rw [run_convert_bytes_string w s d e _ _ _ hs he hd]; exact h1
          · rw [e1] at h1 ⊢; rw [run_convert_bytes_string w s d e _ _ _ hs he hd]; exact h1
        simp [execOp, ho, this]
      · cases hc
    · cases hc
  | lookup t m k ok =>
    rw [ho] at hc hok
    simp [Op.operands] at hok
    simp only [compL] at hc
    split at hc
    · rename_i kt et ht
      split at hc
      · rename_i hk
        simp only [Option.map_eq_some_iff] at hc
        obtain ⟨z, hz, rfl⟩ := hc
        obtain ⟨v', h1, h2⟩ := run_iLookup H ht hk hz hi (hg m hok.1) (hg k hok.2)
        exact ⟨v', by simp [execOp, ho, h1], h2⟩
      · cases hc
    · cases hc
  | _ => rw [ho] at hc; simp [compL] at hc

end
end Go.Sim
