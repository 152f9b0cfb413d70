/-
  The model does what the ideal operations on memory say: those that write, and those that make.
-/
import Derived.Test.YtjdlcokhlphmhaaSim10
namespace Go.Sim

theorem setAt_get {xs : List Value} {o : Nat} {vs : List Value} (h : o + vs.length ≤ xs.length) (j : Nat) :
    (setAt xs o vs)[j]? = if j < o then xs[j]? else if j < o + vs.length then vs[j - o]? else xs[j]? := by
  have hl : (xs.take o).length = o := by simp; omega
  unfold setAt
  by_cases h1 : j < o
  · rw [if_pos h1, List.append_assoc, List.getElem?_append_left (by omega), List.getElem?_take, if_pos h1]
  · rw [if_neg h1]
    by_cases h2 : j < o + vs.length
    · rw [if_pos h2, List.append_assoc, List.getElem?_append_right (by omega), hl, List.getElem?_append_left (by omega)]
    · rw [if_neg h2, List.getElem?_append_right (by simp; omega), List.getElem?_drop]
      congr 1
      simp
      omega

theorem setAt_length {xs : List Value} {o : Nat} {vs : List Value} (h : o + vs.length ≤ xs.length) : (setAt xs o vs).length = xs.length := by
  unfold setAt
  simp
  omega

theorem CellsRel.le {ρ : RMap} {c : Array Value} {xs : List Value} (h : CellsRel ρ c 0 xs) : xs.length ≤ c.size := by
  rcases Nat.eq_zero_or_pos xs.length with hz | hz
  · omega
  · have hx : xs[xs.length - 1]? = some (xs[xs.length - 1]'(by omega)) := List.getElem?_eq_getElem _
    obtain ⟨_, y, hy, _⟩ := h _ _ hx
    have := (Array.getElem?_eq_some_iff.1 hy).1
    omega

theorem CellsRel.put {ρ : RMap} {c : Array Value} {xs : List Value} {o : Nat} {vs vs' : List Value} (h : CellsRel ρ c 0 xs) (hv : VsRel ρ vs vs') (h1 : ∀ x ∈ vs, isCell x = true) (hl : o + vs.length ≤ xs.length) :
    CellsRel ρ (setAt c.toList o vs').toArray 0 (setAt xs o vs) := by
  intro j x hj
  have hcl := h.le
  have hlen := hv.length
  rw [setAt_get hl] at hj
  have e : (setAt c.toList o vs').toArray[0 + j]? = if j < o then c.toList[j]? else if j < o + vs'.length then vs'[j - o]? else c.toList[j]? := by
    rw [Nat.zero_add, List.getElem?_toArray, setAt_get (by simp; omega)]
  rw [e]
  by_cases h1' : j < o
  · rw [if_pos h1'] at hj ⊢
    obtain ⟨q1, y, q2, q3⟩ := h j x hj
    exact ⟨q1, y, by simpa using q2, q3⟩
  · rw [if_neg h1'] at hj ⊢
    by_cases h2 : j < o + vs.length
    · rw [if_pos h2] at hj
      rw [if_pos (by omega)]
      obtain ⟨y, q2, q3⟩ := hv.get hj
      exact ⟨h1 x (List.mem_of_getElem? hj), y, q2, q3⟩
    · rw [if_neg h2] at hj
      rw [if_neg (by omega)]
      obtain ⟨q1, y, q2, q3⟩ := h j x hj
      exact ⟨q1, y, by simpa using q2, q3⟩

theorem flatten_get (z : List Value) (n : Nat) : ∀ (j : Nat), j < n * z.length → (List.replicate n z).flatten[j]? = z[j % z.length]? := by
  induction n with
  | zero => intro j hj; simp at hj
  | succ n ih =>
    intro j hj
    rw [List.replicate_succ, List.flatten_cons]
    by_cases h : j < z.length
    · rw [List.getElem?_append_left h, Nat.mod_eq_of_lt h]
    · have e : j % z.length = (j - z.length) % z.length := by rw [Nat.mod_eq_sub_mod (by omega)]
      rw [List.getElem?_append_right (by omega), ih _ (by rw [Nat.add_mul] at hj; omega), e]

theorem zrep_length (z : List Value) (n : Nat) : (zrep z n).length = n * z.length := by
  induction n with
  | zero => simp [zrep]
  | succ n ih => simp only [zrep, List.replicate_succ, List.flatten_cons, List.length_append] at ih ⊢; rw [ih, Nat.add_mul]; omega

theorem zrep_mem {z : List Value} {n : Nat} {p : Value → Prop} (h : ∀ x ∈ z, p x) : ∀ x ∈ zrep z n, p x := by
  intro x hx
  simp only [zrep, List.mem_flatten, List.mem_replicate] at hx
  obtain ⟨l, ⟨_, rfl⟩, hm⟩ := hx
  exact h x hm

theorem made_get (z : Array Value) (m j : Nat) (hj : j < m) (hz : 0 < z.size) : (madeCells z m)[j]? = z[j % z.size]? := by
  have hlt : j % z.size < z.size := Nat.mod_lt _ hz
  simp [madeCells, hj, hlt]

theorem made_zrep (z : Value) (n k : Nat) (hk : (vcells z).length = k) : ((Array.range (n * k)).map (z.cells[· % z.cells.size]!)).toList = zrep (vcells z) n := by
  have hs : z.cells.size = k := by rw [← hk]; simp [vcells]
  apply List.ext_getElem?
  intro j
  by_cases hj : j < n * k
  · have hz : 0 < z.cells.size := by
      rcases Nat.eq_zero_or_pos k with h | h
      · subst h; simp at hj
      · omega
    have := made_get z.cells (n * k) j hj hz
    simp only [madeCells] at this
    rw [Array.getElem?_toList, this, zrep, flatten_get _ _ _ (by rw [hk]; exact hj)]
    simp [vcells]
  · rw [List.getElem?_eq_none (by simp; omega), List.getElem?_eq_none (by rw [zrep_length, hk]; omega)]

section
variable {P : Program} {w : World} {ρ : RMap} {h : Heap}

/-- What an operation leaves. -/
def Done (P : Program) (ρ : RMap) (h : Heap) (w : World) (v : Value) (h' : Heap) (s : Result Next) : Prop :=
  ∃ nx w' ρ' v', s = .ok nx w' ∧ (nx = .value v' ∨ (nx = .skip ∧ v' = undef)) ∧ VRel ρ' v v' ∧ HRel P ρ' h' w' ∧ Tr ρ h w ρ' h' w'

theorem HRel.arr (H : HRel P ρ h w) {i : Nat} {r : RI} {e : TypeId} {xs : List Value} (hi : ρ i = some r) (hx : h[i]? = some (.arr e xs)) :
    r.elem = e ∧ r.sh = 0 ∧ ∃ c, w.heap[r.blk]? = some (.cells c e (0, 0)) ∧ c.size = r.size ∧ CellsRel ρ c 0 xs := by
  obtain ⟨o, ho, hr⟩ := H.obj i r hi
  rw [hx] at ho
  cases ho
  exact hr

theorem run_iStore (H : HRel P ρ h w) {t : TypeId} {a a' v v' : Value} {h' : Heap} (hk : infoOk P t = true) (hi : iStore (P.cellsOf t) h a v = some h') (ha : VRel ρ a a') (hv : VRel ρ v v') :
    ∃ w', (Instr.storeAt t a' v').run P w = .ok () w' ∧ HRel P ρ h' w' ∧ Tr ρ h w ρ h' w' := by
  unfold iStore at hi
  split at hi
  · rename_i i o
    obtain ⟨r, hr, rfl⟩ := ha.ptr_inv
    split at hi
    · rename_i e xs hx
      split at hi
      · rename_i hc
        obtain ⟨hnt, hl, hle⟩ := hc
        simp at hi; subst hi
        obtain ⟨h1, h2, c, h3, h4, h5⟩ := H.arr hr hx
        have hvc := hv.cells hnt
        have hl' : (vcells v').length = P.cellsOf t := by rw [← hvc.length]; exact hl
        have hst := run_storeCells_at P r.blk o e (vcells v') 0 c w h3 (by have := h5.le; simp; omega) (hvc.oneCell (hv.cellsOne hnt))
        have heq : (c.toList.take (o + 0) ++ vcells v' ++ c.toList.drop (o + 0 + (vcells v').length)).toArray = (setAt c.toList o (vcells v')).toArray := by simp [setAt]
        rw [heq] at hst
        have hmut : isMut h i := .inl ⟨e, xs, hx⟩
        obtain ⟨q1, q2⟩ := H.set (o := .arr e (setAt xs o (vcells v))) hr hmut (SetBlock.row h3 (setAt c.toList o (vcells v')).toArray)
          ⟨h1, h2, _, (SetBlock.row h3 _).here, by simp [setAt_length (show o + (vcells v').length ≤ c.toList.length by have := h5.le; simp; omega), h4], h5.put hvc (hv.cellsOne hnt) (by omega)⟩
        refine ⟨_, ?_, q1, q2⟩
        have hsz : v'.cells.size = P.cellsOf t := by rw [← hl']; simp [vcells]
        have hst' : (storeCells ⟨r.blk, r.sh + o, none⟩ v'.cells.toList).run P w = .ok () (w.setRow r.blk (setAt c.toList o (vcells v')).toArray) := by
          rw [h2, Nat.zero_add]
          exact hst
        simp [Instr.storeAt, Instr.sureAddr, storeVar, run_sizeOf' w hk, hsz, hst']
      · cases hi
    · cases hi
  · cases hi

theorem newArr (H : HRel P ρ h w) {w' : World} {e : TypeId} {c : Array Value} {xs : List Value} (nb : NewBlock w (.cells c e) w') (hc : CellsRel ρ c 0 xs) :
    HRel P (ρ.add h.length ⟨w.heap.size, 0, e, P.cellsOf e, c.size⟩) (h ++ [.arr e xs]) w' ∧ Tr ρ h w (ρ.add h.length ⟨w.heap.size, 0, e, P.cellsOf e, c.size⟩) (h ++ [.arr e xs]) w' :=
  H.new nb rfl rfl rfl (fun _ => .inl rfl) ⟨rfl, rfl, c, nb.new, rfl, hc.mono (RMap.le_add H.none)⟩

theorem add_self (ρ : RMap) (i : Nat) (r : RI) : ρ.add i r i = some r := by simp [RMap.add]

theorem newPtr_rel (ρ : RMap) (h : Heap) (r : RI) (hs : r.sh = 0) : VRel (ρ.add h.length r) (newPtr h) (.pointer (some ⟨r.blk, 0, none⟩)) := by
  have := VRel.ptr (ρ := ρ.add h.length r) (i := h.length) (o := 0) (add_self _ _ _)
  rw [hs] at this
  exact this

theorem sl_rel (ρ : RMap) (i : Nat) (r : RI) (hs : r.sh = 0) {n c' : Nat} (hn : n ≤ c') (hc : c' ≤ maxLen) (hb : c' * r.esz ≤ r.size) : VRel (ρ.add i r) (sl r.elem i 0 n) (.slice (some ⟨r.blk, 0, none⟩) n c') :=
  VRel.slice (add_self _ _ _) (.inl (by omega)) hn hc (by omega)

theorem run_iBox (H : HRel P ρ h w) {e : TypeId} {x x' v : Value} {h' : Heap} (hi : iBox e h x = some (v, h')) (hx : VRel ρ x x') :
    ∃ w' ρ' v', (Instr.box e x').run P w = .ok v' w' ∧ VRel ρ' v v' ∧ HRel P ρ' h' w' ∧ Tr ρ h w ρ' h' w' := by
  unfold iBox at hi
  split at hi
  · rename_i hnt
    simp at hi
    obtain ⟨rfl, rfl⟩ := hi
    have hc : CellsRel ρ x'.cells 0 (vcells x) := CellsRel.of (hx.cells hnt) (hx.cellsOne hnt)
    obtain ⟨q1, q2⟩ := newArr H (NewBlock.alloc w (.cells x'.cells e)) hc
    exact ⟨_, _, _, by simp [Instr.box, newVar, newRow], newPtr_rel _ _ _ rfl, q1, q2⟩
  · cases hi

theorem run_iAlloc (H : HRel P ρ h w) {e : TypeId} {zs : List Value} (hz : zeroOf P e = some zs) :
    ∃ w' ρ' v', (Instr.alloc e true (.tuple #[])).run P w = .ok v' w' ∧ VRel ρ' (newPtr h) v' ∧ HRel P ρ' (h ++ [.arr e zs]) w' ∧ Tr ρ h w ρ' (h ++ [.arr e zs]) w' := by
  obtain ⟨i, z, hi, hzz, rfl, hnt, hcl, hlen⟩ := zeroOf_some hz
  have hc : CellsRel ρ z.cells 0 (vcells z) := CellsRel.of (VsRel.closed fun x hx => (hcl x hx).1) (fun x hx => (hcl x hx).2)
  obtain ⟨q1, q2⟩ := newArr H (NewBlock.alloc w (.cells z.cells e)) hc
  exact ⟨_, _, _, by simp [Instr.alloc, run_zeroValue' w hi hzz, newVar, newRow], newPtr_rel _ _ _ rfl, q1, q2⟩

theorem cellsOf_info {t : TypeId} {i : TypeInfo} (hi : P.info? t = some i) : P.cellsOf t = i.size := by simp [Program.cellsOf, hi]
theorem bytesOf_info {t : TypeId} {i : TypeInfo} (hi : P.info? t = some i) : P.bytesOf t = i.bytes := by simp [Program.bytesOf, hi]

theorem run_iMkSl (H : HRel P ρ h w) {t e : TypeId} {n : Nat} {zs : List Value} {ps : List (Nat × Nat × Value)} {qs : Array (Nat × Value)} {v : Value} {h' : Heap} (ht : P.underlying t = some (.slice e)) (hz : zeroOf P e = some zs)
    (hn : n * P.cellsOf e ≤ 16777216) (hne : P.cellsOf e ≠ 0) (hp : PartsRel ρ (fun i => some (i * P.cellsOf e, P.cellsOf e)) ps qs.toList) (hi : iMkSl e n zs h ps = some (v, h')) :
    ∃ w' ρ' v', (Instr.buildSlice t n qs).run P w = .ok v' w' ∧ VRel ρ' v v' ∧ HRel P ρ' h' w' ∧ Tr ρ h w ρ' h' w' := by
  obtain ⟨i, z, hii, hzz, rfl, hnt, hcl, hlen⟩ := zeroOf_some hz
  have hk : infoOk P e = true := by simp [infoOk, hii]
  have hce := cellsOf_info hii
  simp only [iMkSl, Option.map_eq_some_iff, Prod.mk.injEq] at hi
  obtain ⟨cs, hf, rfl, rfl⟩ := hi
  obtain ⟨zero, hzero, hzl⟩ : ∃ zero : Array Value, (if n * P.cellsOf e = 0 then (Pure.pure #[] : Sem (Array Value)) else do pure (← zeroValue e).cells).run P w = .ok zero w ∧
      ((Array.range (n * P.cellsOf e)).map (zero[· % zero.size]!)).toList = zrep (vcells z) n := by
    by_cases h0 : n * P.cellsOf e = 0
    · refine ⟨#[], by simp [h0], ?_⟩
      have hn0 : n = 0 := by
        rcases Nat.mul_eq_zero.1 h0 with h | h
        · exact h
        · exact absurd h hne
      subst hn0
      simp [zrep, Array.range_zero']
    · exact ⟨z.cells, by simp [h0, run_zeroValue' w hii hzz], by rw [hce]; exact made_zrep z n i.size hlen⟩
  have hclz : VsRel ρ (zrep (vcells z) n) (zrep (vcells z) n) := VsRel.closed (zrep_mem fun x hx => (hcl x hx).1)
  obtain ⟨cs', hfill, hr, h1, hl2⟩ := fill_rel (ys := (Array.range (n * P.cellsOf e)).map (zero[· % zero.size]!)) hp hf (by rw [hzl]; exact hclz) (zrep_mem fun x hx => (hcl x hx).2)
  obtain ⟨q1, q2⟩ := newArr H (NewBlock.alloc w (.cells cs' e)) (CellsRel.of hr h1)
  have hsz : cs'.size = n * P.cellsOf e := by
    have := hr.length
    rw [hl2, zrep_length, hlen, ← hce] at this
    simpa using this.symm
  have hnm : n ≤ maxLen := by
    have h1 : 1 ≤ P.cellsOf e := by omega
    have := Nat.mul_le_mul_left n h1
    unfold maxLen
    omega
  refine ⟨_, _, .slice (some ⟨w.heap.size, 0, none⟩) n n, ?_, sl_rel ρ h.length ⟨w.heap.size, 0, e, P.cellsOf e, cs'.size⟩ rfl (Nat.le_refl _) hnm (by simp [hsz]), q1, q2⟩
  unfold Instr.buildSlice
  simp only [Sem.run_bind, run_underlying ht, Result.andThen_ok, run_sizeOf' w hk]
  have h24 : ¬ (n * P.cellsOf e > 2 ^ 24) := by rw [show (2 ^ 24 : Nat) = 16777216 from rfl]; omega
  rw [if_neg h24]
  by_cases h0 : n * P.cellsOf e = 0
  · rw [if_pos h0] at hzero ⊢
    simp only [Sem.run_pure, Result.ok.injEq, and_true] at hzero
    subst hzero
    simp only [Sem.run_bind, Sem.run_pure, Result.andThen_ok, hfill]
    simp [newRow]
  · rw [if_neg h0] at hzero ⊢
    simp only [Sem.run_bind, Sem.run_pure] at hzero ⊢
    rw [run_zeroValue' w hii hzz] at hzero ⊢
    simp only [Result.andThen_ok, Result.ok.injEq, and_true] at hzero ⊢
    subst hzero
    rw [hfill]
    simp [newRow]

end
end Go.Sim
