/-
  The model does what the ideal operations say: operations that look at no memory.
-/
import Derived.Test.YtjdlcokhlphmhaaSim2
import Derived.WalkSpells
namespace Go.Sim

theorem VRel.int_inv {ρ : RMap} {k : IntKind} {n : Int} {v : Value} (h : VRel ρ (.int k n) v) : v = .int k n := by cases h; rfl
theorem VRel.bool_inv {ρ : RMap} {b : Bool} {v : Value} (h : VRel ρ (.bool b) v) : v = .bool b := by cases h; rfl
theorem VRel.string_inv {ρ : RMap} {s : ByteArray} {v : Value} (h : VRel ρ (.string s) v) : v = .string s := by cases h; rfl
theorem VRel.S (ρ : RMap) (l : List UInt8) : VRel ρ (S l) (S l) := .string _

theorem toList_eq (s : ByteArray) : s.toList = bytes s := by
  obtain ⟨⟨l⟩⟩ := s
  exact ByteArray.toList_mk l

theorem bytesEq (s t : ByteArray) : (s.toList == t.toList) = decide (bytes s = bytes t) := by
  rw [toList_eq, toList_eq]
  by_cases h : bytes s = bytes t <;> simp [h]

theorem size_bytes (s : ByteArray) : s.size = (bytes s).length := by simp [bytes]

theorem append_bytes (s t : ByteArray) : s ++ t = ⟨(bytes s ++ bytes t).toArray⟩ := by
  apply ByteArray.ext
  apply Array.ext'
  simp [bytes]

section
variable (P : Program) (w : World)

theorem run_iInt {op : BinOp} {k : IntKind} {a b : Int} {v : Value} (t : TypeId) (hop : op ≠ .shl) (hop' : op ≠ .shr) (h : iInt op k a b = some v) :
    (binOp op t (.int k a) (.int k b)).run P w = .ok v w := by
  cases op <;> simp [iInt] at h <;> simp at hop hop' <;> (first | subst h | (obtain ⟨hb, h⟩ := h; subst h)) <;>
    simp_all [binOp, Op.intArith, Op.intDiv, Op.intBits, Op.intCmp]
  · rw [Bool.eq_iff_iff]; simp
  · rw [Bool.eq_iff_iff]; simp

theorem run_iShift {op : BinOp} {k k' : IntKind} {a b : Int} {v : Value} (t : TypeId) (hop : op = .shl ∨ op = .shr) (h : iShift op k a b = some v) :
    (binOp op t (.int k a) (.int k' b)).run P w = .ok v w := by
  unfold iShift at h
  by_cases hb : b < 0
  · rw [if_pos hb] at h; cases h
  · rw [if_neg hb] at h
    rcases hop with rfl | rfl <;> simp at h <;> subst h <;> simp [binOp, Op.shift, hb]

theorem run_iStr {op : BinOp} {s s' : ByteArray} {v : Value} (t : TypeId) (h : iStr op (bytes s) (bytes s') = some v) :
    (binOp op t (.string s) (.string s')).run P w = .ok v w := by
  have e1 := bytesEq s s'
  have hl : IntKind.i64.max = 9223372036854775807 := rfl
  cases op <;> simp [iStr] at h <;> (first | subst h | (obtain ⟨hb, h⟩ := h; subst h)) <;> simp only [binOp, Op.stringOp]
  all_goals first
    | (rw [e1]; simp [toList_eq]; done)
    | (simp [toList_eq]; done)
    | skip
  · unfold maxLen at hb
    rw [if_neg (by rw [hl, size_bytes, size_bytes]; omega)]
    rw [append_bytes]
    rfl

theorem run_eqGuard_int (op : BinOp) (t : TypeId) (x y : Operand) (k k' : IntKind) (a b : Int) : (eqGuard op t x y (.int k a) (.int k' b)).run P w = .ok () w := by
  unfold eqGuard
  cases op <;> simp
theorem run_eqGuard_string (op : BinOp) (t : TypeId) (x y : Operand) (a b : ByteArray) : (eqGuard op t x y (.string a) (.string b)).run P w = .ok () w := by
  unfold eqGuard
  cases op <;> simp
theorem run_eqGuard_bool (op : BinOp) (t : TypeId) (x y : Operand) (a b : Bool) : (eqGuard op t x y (.bool a) (.bool b)).run P w = .ok () w := by
  unfold eqGuard
  cases op <;> simp
theorem run_eqGuard_slice (op : BinOp) (t : TypeId) (x y : Operand) (a b : Option Addr) (n m c d : Nat) : (eqGuard op t x y (.slice a n c) (.slice b m d)).run P w = .ok () w := by
  unfold eqGuard
  cases op <;> simp

theorem run_iBin {ρ : RMap} {op : BinOp} {x y x' y' v : Value} (t : TypeId) (ox oy : Operand) (h : iBin op x y = some v) (hx : VRel ρ x x') (hy : VRel ρ y y') :
    (do eqGuard op t ox oy x' y'; binOp op t x' y' : Sem Value).run P w = .ok v w ∧ VRel ρ v v := by
  unfold iBin at h
  split at h
  · rename_i k a k' b
    rw [hx.int_inv, hy.int_inv]
    have hv : (binOp op t (.int k a) (.int k' b)).run P w = .ok v w ∧ VRel ρ v v := by
      split at h
      · refine ⟨run_iShift P w t (.inl rfl) h, ?_⟩
        unfold iShift at h
        split at h <;> simp at h
        subst h; exact .int _ _
      · refine ⟨run_iShift P w t (.inr rfl) h, ?_⟩
        unfold iShift at h
        split at h <;> simp at h
        subst h; exact .int _ _
      · rename_i h1 h2
        split at h
        · rename_i hk
          subst hk
          refine ⟨run_iInt P w t h1 h2 h, ?_⟩
          cases op <;> simp [iInt] at h <;> (first | subst h | (obtain ⟨_, h⟩ := h; subst h)) <;> first | exact .int _ _ | exact .bool _
        · cases h
    simp only [Sem.run_bind, run_eqGuard_int, Result.andThen_ok]
    exact hv
  · rename_i s s'
    rw [hx.string_inv, hy.string_inv]
    simp only [Sem.run_bind, run_eqGuard_string, Result.andThen_ok]
    refine ⟨run_iStr P w t h, ?_⟩
    cases op <;> simp [iStr] at h <;> (first | subst h | (obtain ⟨_, h⟩ := h; subst h)) <;> first | exact .string _ | exact .bool _
  · cases h

theorem run_iEqb {ρ : RMap} {neg : Bool} {op : BinOp} {x y x' y' v : Value} (t : TypeId) (ox oy : Operand) (ht : P.underlying t = some .bool) (hop : op = if neg then .neq else .eql)
    (h : iEqb neg x y = some v) (hx : VRel ρ x x') (hy : VRel ρ y y') :
    (do eqGuard op t ox oy x' y'; binOp op t x' y' : Sem Value).run P w = .ok v w ∧ VRel ρ v v := by
  unfold iEqb at h
  split at h
  · rename_i a b
    rw [hx.bool_inv, hy.bool_inv]
    simp only [Sem.run_bind, run_eqGuard_bool, Result.andThen_ok]
    simp at h
    subst h
    refine ⟨?_, .bool _⟩
    cases neg <;> simp at hop <;> subst hop
    · exact run_eql_bool w t a b ht
    · exact run_neq_bool w t a b ht
  · cases h

theorem run_iEqnil {ρ : RMap} {neg : Bool} {op : BinOp} {x y x' y' v : Value} {e : TypeId} (t : TypeId) (ox oy : Operand) (ht : P.underlying t = some (.slice e)) (hop : op = if neg then .neq else .eql)
    (h : iEqnil neg x y = some v) (hx : VRel ρ x x') (hy : VRel ρ y y') :
    (do eqGuard op t ox oy x' y'; binOp op t x' y' : Sem Value).run P w = .ok v w ∧ VRel ρ v v := by
  unfold iEqnil at h
  split at h
  · rename_i a b ha hb
    split at h
    · rename_i hab
      simp at h
      subst h
      refine ⟨?_, .bool _⟩
      cases hx <;> simp [isNilSlice] at ha <;> cases hy <;> simp [isNilSlice] at hb <;> subst ha <;> subst hb <;> simp at hab
      all_goals
        simp only [Sem.run_bind, run_eqGuard_slice, Result.andThen_ok]
        cases neg <;> simp at hop <;> subst hop <;> simp only [Lib.run_eql_slice_nil w t e _ _ _ _ _ ht, run_neq_slice_nil_any w t e _ _ _ _ _ ht, run_eql_nil_slice w t e _ _ _ _ _ ht, run_neq_nil_slice w t e _ _ _ _ _ ht] <;> simp
    · cases h
  · cases h

theorem run_iUn {ρ : RMap} {op : UnOp} {x x' v : Value} (h : iUn op x = some v) (hx : VRel ρ x x') : (Op.unary op x').run P w = .ok v w ∧ VRel ρ v v := by
  unfold iUn at h
  split at h
  · rw [hx.int_inv]; simp at h; subst h; exact ⟨by simp [Op.unary, Op.intArith], .int _ _⟩
  · rw [hx.bool_inv]; simp at h; subst h; exact ⟨by simp [Op.unary], .bool _⟩
  · rw [hx.int_inv]; simp only [Option.some.injEq] at h; subst h; exact ⟨rfl, .int _ _⟩
  · cases h

end
end Go.Sim
