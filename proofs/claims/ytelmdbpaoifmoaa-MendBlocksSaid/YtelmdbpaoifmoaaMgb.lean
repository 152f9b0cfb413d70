/-
  The model does what the ideal operations on memory say: those that write, and those that make.
-/
import Derived.Test.YtelmdbpaoifmoaaMga
namespace Go.Sim

theorem setAt_get {xs : List Value} {o : Nat} {vs : List Value} (h : o + vs.length ≤ xs.length) (j : Nat) :
    (setAt xs o vs)[j]? = if j < o then xs[j]? else if j < o + vs.length then vs[j - o]? else xs[j]? := by
  have hl : (xs.take o).length = o := by simp; omega
  unfold setAt
  by_cases h1 : j < o
  · rw [if_pos h1, List.append_assoc, List.getElem?_append_left (by omega), List.getElem?_take, if_pos h1]
  · rw [if_neg h1]
    by_cases h2 : j < o + vs.length
    · rw [if_pos h2, List.append_assoc, List.getElem?_append_right (by omega), hl, List.getElem?_append_left (by omega)]
    · rw [if_neg h2, List.getElem?_append_right (by simp; omega), List.getElem?_drop]
      congr 1
      simp
      omega

theorem setAt_length {xs : List Value} {o : Nat} {vs : List Value} (h : o + vs.length ≤ xs.length) : (setAt xs o vs).length = xs.length := by
  unfold setAt
  simp
  omega

theorem CellsRel.le {ρ : RMap} {c : Array Value} {xs : List Value} (h : CellsRel ρ c 0 xs) : xs.length ≤ c.size := by
  rcases Nat.eq_zero_or_pos xs.length with hz | hz
  · omega
  · have hx : xs[xs.length - 1]? = some (xs[xs.length - 1]'(by omega)) := List.getElem?_eq_getElem _
    obtain ⟨_, y, hy, _⟩ := h _ _ hx
    have := (Array.getElem?_eq_some_iff.1 hy).1
    omega

theorem CellsRel.put {ρ : RMap} {c : Array Value} {xs : List Value} {o : Nat} {vs vs' : List Value} (h : CellsRel ρ c 0 xs) (hv : VsRel ρ vs vs') (h1 : ∀ x ∈ vs, isCell x = true) (hl : o + vs.length ≤ xs.length) :
    CellsRel ρ (setAt c.toList o vs').toArray 0 (setAt xs o vs) := by
  intro j x hj
  have hcl := h.le
  have hlen := hv.length
  rw [setAt_get hl] at hj
  have e : (setAt c.toList o vs').toArray[0 + j]? = if j < o then c.toList[j]? else if j < o + vs'.length then vs'[j - o]? else c.toList[j]? := by
    rw [Nat.zero_add, List.getElem?_toArray, setAt_get (by simp; omega)]
  rw [e]
  by_cases h1' : j < o
  · rw [if_pos h1'] at hj ⊢
    obtain ⟨q1, y, q2, q3⟩ := h j x hj
    exact ⟨q1, y, by simpa using q2, q3⟩
  · rw [if_neg h1'] at hj ⊢
    by_cases h2 : j < o + vs.length
    · rw [if_pos h2] at hj
      rw [if_pos (by omega)]
      obtain ⟨y, q2, q3⟩ := hv.get hj
      exact ⟨h1 x (List.mem_of_getElem? hj), y, q2, q3⟩
    · rw [if_neg h2] at hj
      rw [if_neg (by omega)]
      obtain ⟨q1, y, q2, q3⟩ := h j x hj
      exact ⟨q1, y, by simpa using q2, q3⟩

theorem flatten_get (z : List Value) (n : Nat) : ∀ (j : Nat), j < n * z.length → (List.replicate n z).flatten[j]? = z[j % z.length]? := by
  induction n with
  | zero => intro j hj; simp at hj
  | succ n ih =>
    intro j hj
    rw [List.replicate_succ, List.flatten_cons]
    by_cases h : j < z.length
    · rw [List.getElem?_append_left h, Nat.mod_eq_of_lt h]
    · have e : j % z.length = (j - z.length) % z.length := by rw [Nat.mod_eq_sub_mod (by omega)]
      rw [List.getElem?_append_right (by omega), ih _ (by rw [Nat.add_mul] at hj; omega), e]

theorem zrep_length (z : List Value) (n : Nat) : (zrep z n).length = n * z.length := by
  induction n with
  | zero => simp [zrep]
  | succ n ih => simp only [zrep, List.replicate_succ, List.flatten_cons, List.length_append] at ih ⊢; rw [ih, Nat.add_mul]; omega

theorem zrep_mem {z : List Value} {n : Nat} {p : Value → Prop} (h : ∀ x ∈ z, p x) : ∀ x ∈ zrep z n, p x := by
  intro x hx
  simp only [zrep, List.mem_flatten, List.mem_replicate] at hx
  obtain ⟨l, ⟨_, rfl⟩, hm⟩ := hx
  exact h x hm

theorem made_get (z : Array Value) (m j : Nat) (hj : j < m) (hz : 0 < z.size) : (madeCells z m)[j]? = z[j % z.size]? := by
  have hlt : j % z.size < z.size := Nat.mod_lt _ hz
  simp [madeCells, hj, hlt]

theorem made_zrep (z : Value) (n k : Nat) (hk : (vcells z).length = k) : ((Array.range (n * k)).map (z.cells[· % z.cells.size]!)).toList = zrep (vcells z) n := by
  have hs : z.cells.size = k := by rw [← hk]; simp [vcells]
  apply List.ext_getElem?
  intro j
  by_cases hj : j < n * k
  · have hz : 0 < z.cells.size := by
      rcases Nat.eq_zero_or_pos k with h | h
      · subst h; simp at hj
      · omega
    have := made_get z.cells (n * k) j hj hz
    simp only [madeCells] at this
    rw [Array.getElem?_toList, this, zrep, flatten_get _ _ _ (by rw [hk]; exact hj)]
    simp [vcells]
  · rw [List.getElem?_eq_none (by simp; omega), List.getElem?_eq_none (by rw [zrep_length, hk]; omega)]

section
variable {P : Program} {w : World} {ρ : RMap} {h : Heap}

/-- What an operation leaves. -/
def Done (P : Program) (ρ : RMap) (h : Heap) (w : World) (v : Value) (h' : Heap) (s : Result Next) : Prop :=
  ∃ nx w' ρ' v', s = .ok nx w' ∧ (nx = .value v' ∨ (nx = .skip ∧ v' = undef)) ∧ VRel ρ' v v' ∧ HRel P ρ' h' w' ∧ Tr ρ h w ρ' h' w'

theorem HRel.arr (H : HRel P ρ h w) {i : Nat} {r : RI} {e : TypeId} {xs : List Value} (hi : ρ i = some r) (hx : h[i]? = some (.arr e xs)) :
    r.elem = e ∧ r.sh = 0 ∧ ∃ c, w.heap[r.blk]? = some (.cells c e (0, 0)) ∧ c.size = r.size ∧ CellsRel ρ c 0 xs := by
  obtain ⟨o, ho, hr⟩ := H.obj i r hi
  rw [hx] at ho
  cases ho
  exact hr

theorem run_iStore (H : HRel P ρ h w) {t : TypeId} {a a' v v' : Value} {h' : Heap} (hk : infoOk P t = true) (hi : iStore (P.cellsOf t) h a v = some h') (ha : VRel ρ a a') (hv : VRel ρ v v') :
    ∃ w', (Instr.storeAt t a' v').run P w = .ok () w' ∧ HRel P ρ h' w' ∧ Tr ρ h w ρ h' w' := by
  unfold iStore at hi
  split at hi
  · rename_i i o
    obtain ⟨r, hr, rfl⟩ := ha.ptr_inv
    split at hi
    · rename_i e xs hx
      split at hi
      · rename_i hc
        obtain ⟨hnt, hl, hle⟩ := hc
        simp at hi; subst hi
        obtain ⟨h1, h2, c, h3, h4, h5⟩ := H.arr hr hx
        have hvc := hv.cells hnt
        have hl' : (vcells v').length = P.cellsOf t := by rw [← hvc.length]; exact hl
        have hst := run_storeCells_at P r.blk o e (vcells v') 0 c w h3 (by have := h5.le; simp; omega) (hvc.oneCell (hv.cellsOne hnt))
        have heq : (c.toList.take (o + 0) ++ vcells v' ++ c.toList.drop (o + 0 + (vcells v').length)).toArray = (setAt c.toList o (vcells v')).toArray := by simp [setAt]
        rw [heq] at hst
        have hmut : isMut h i := .inl ⟨e, xs, hx⟩
        obtain ⟨q1, q2⟩ := H.set (o := .arr e (setAt xs o (vcells v))) hr hmut (SetBlock.row h3 (setAt c.toList o (vcells v')).toArray)
          ⟨h1, h2, _, (SetBlock.row h3 _).here, by simp [setAt_length (show o + (vcells v').length ≤ c.toList.length by have := h5.le; simp; omega), h4], h5.put hvc (hv.cellsOne hnt) (by omega)⟩
        refine ⟨_, ?_, q1, q2⟩
        have hsz : v'.cells.size = P.cellsOf t := by rw [← hl']; simp [vcells]
        have hst' : (storeCells ⟨r.blk, r.sh + o, none⟩ v'.cells.toList).run P w = .ok () (w.setRow r.blk (setAt c.toList o (vcells v')).toArray) := by
          rw [h2, Nat.zero_add]
          exact hst
        simp [Instr.storeAt, Instr.sureAddr, storeVar, run_sizeOf' w hk, hsz, hst']
      · cases hi
    · cases hi
  · cases hi

theorem newArr (H : HRel P ρ h w) {w' : World} {e : TypeId} {c : Array Value} {xs : List Value} (nb : NewBlock w (.cells c e) w') (hc : CellsRel ρ c 0 xs) :
    HRel P (ρ.add h.length ⟨w.heap.size, 0, e, P.cellsOf e, c.size⟩) (h ++ [.arr e xs]) w' ∧ Tr ρ h w (ρ.add h.length ⟨w.heap.size, 0, e, P.cellsOf e, c.size⟩) (h ++ [.arr e xs]) w' :=
  H.new nb rfl rfl rfl (fun _ => .inl rfl) ⟨rfl, rfl, c, nb.new, rfl, hc.mono (RMap.le_add H.none)⟩

theorem add_self (ρ : RMap) (i : Nat) (r : RI) : ρ.add i r i = some r := by simp [RMap.add]

theorem newPtr_rel (ρ : RMap) (h : Heap) (r : RI) (hs : r.sh = 0) : VRel (ρ.add h.length r) (newPtr h) (.pointer (some ⟨r.blk, 0, none⟩)) := by
  have := VRel.ptr (ρ := ρ.add h.length r) (i := h.length) (o := 0) (add_self _ _ _)
  rw [hs] at this
  exact this

theorem sl_rel (ρ : RMap) (i : Nat) (r : RI) (hs : r.sh = 0) {n c' : Nat} (hn : n ≤ c') (hc : c' ≤ maxLen) (hb : c' * r.esz ≤ r.size) : VRel (ρ.add i r) (sl r.elem i 0 n) (.slice (some ⟨r.blk, 0, none⟩) n c') :=
  VRel.slice (add_self _ _ _) (.inl (by omega)) hn hc (by omega)

theorem run_iBox (H : HRel P ρ h w) {e : TypeId} {x x' v : Value} {h' : Heap} (hi : iBox e h x = some (v, h')) (hx : VRel ρ x x') :
    ∃ w' ρ' v', (Instr.box e x').run P w = .ok v' w' ∧ VRel ρ' v v' ∧ HRel P ρ' h' w' ∧ Tr ρ h w ρ' h' w' := by
  unfold iBox at hi
  split at hi
  · rename_i hnt
    simp at hi
    obtain ⟨rfl, rfl⟩ := hi
    have hc : CellsRel ρ x'.cells 0 (vcells x) := CellsRel.of (hx.cells hnt) (hx.cellsOne hnt)
    obtain ⟨q1, q2⟩ := newArr H (NewBlock.alloc w (.cells x'.cells e)) hc
    exact ⟨_, _, _, by simp [Instr.box, newVar, newRow], newPtr_rel _ _ _ rfl, q1, q2⟩
  · cases hi

theorem run_iAlloc (H : HRel P ρ h w) {e : TypeId} {zs : List Value} (hz : zeroOf P e = some zs) :
    ∃ w' ρ' v', (Instr.alloc e true (.tuple #[])).run P w = .ok v' w' ∧ VRel ρ' (newPtr h) v' ∧ HRel P ρ' (h ++ [.arr e zs]) w' ∧ Tr ρ h w ρ' (h ++ [.arr e zs]) w' := by
  obtain ⟨i, z, hi, hzz, rfl, hnt, hcl, hlen⟩ := zeroOf_some hz
  have hc : CellsRel ρ z.cells 0 (vcells z) := CellsRel.of (VsRel.closed fun x hx => (hcl x hx).1) (fun x hx => (hcl x hx).2)
  obtain ⟨q1, q2⟩ := newArr H (NewBlock.alloc w (.cells z.cells e)) hc
  exact ⟨_, _, _, by simp [Instr.alloc, run_zeroValue' w hi hzz, newVar, newRow], newPtr_rel _ _ _ rfl, q1, q2⟩

theorem cellsOf_info {t : TypeId} {i : TypeInfo} (hi : P.info? t = some i) : P.cellsOf t = i.size := by simp [Program.cellsOf, hi]
theorem bytesOf_info {t : TypeId} {i : TypeInfo} (hi : P.info? t = some i) : P.bytesOf t = i.bytes := by simp [Program.bytesOf, hi]

theorem run_iMkSl (H : HRel P ρ h w) {t e : TypeId} {n : Nat} {zs : List Value} {ps : List (Nat × Nat × Value)} {qs : Array (Nat × Value)} {v : Value} {h' : Heap} (ht : P.underlying t = some (.slice e)) (hz : zeroOf P e = some zs)
    (hn : n * P.cellsOf e ≤ 16777216) (hne : P.cellsOf e ≠ 0) (hp : PartsRel ρ (fun i => some (i * P.cellsOf e, P.cellsOf e)) ps qs.toList) (hi : iMkSl e n zs h ps = some (v, h')) :
    ∃ w' ρ' v', (Instr.buildSlice t n qs).run P w = .ok v' w' ∧ VRel ρ' v v' ∧ HRel P ρ' h' w' ∧ Tr ρ h w ρ' h' w' := by
  obtain ⟨i, z, hii, hzz, rfl, hnt, hcl, hlen⟩ := zeroOf_some hz
  have hk : infoOk P e = true := by simp [infoOk, hii]
  have hce := cellsOf_info hii
  simp only [iMkSl, Option.map_eq_some_iff, Prod.mk.injEq] at hi
  obtain ⟨cs, hf, rfl, rfl⟩ := hi
  obtain ⟨zero, hzero, hzl⟩ : ∃ zero : Array Value, (if n * P.cellsOf e = 0 then (Pure.pure #[] : Sem (Array Value)) else do pure (← zeroValue e).cells).run P w = .ok zero w ∧
      ((Array.range (n * P.cellsOf e)).map (zero[· % zero.size]!)).toList = zrep (vcells z) n := by
    by_cases h0 : n * P.cellsOf e = 0
    · refine ⟨#[], by simp [h0], ?_⟩
      have hn0 : n = 0 := by
        rcases Nat.mul_eq_zero.1 h0 with h | h
        · exact h
        · exact absurd h hne
      subst hn0
      simp [zrep, Array.range_zero']
    · exact ⟨z.cells, by simp [h0, run_zeroValue' w hii hzz], by rw [hce]; exact made_zrep z n i.size hlen⟩
  have hclz : VsRel ρ (zrep (vcells z) n) (zrep (vcells z) n) := VsRel.closed (zrep_mem fun x hx => (hcl x hx).1)
  obtain ⟨cs', hfill, hr, h1, hl2⟩ := fill_rel (ys := (Array.range (n * P.cellsOf e)).map (zero[· % zero.size]!)) hp hf (by rw [hzl]; exact hclz) (zrep_mem fun x hx => (hcl x hx).2)
  obtain ⟨q1, q2⟩ := newArr H (NewBlock.alloc w (.cells cs' e)) (CellsRel.of hr h1)
  have hsz : cs'.size = n * P.cellsOf e := by
    have := hr.length
    rw [hl2, zrep_length, hlen, ← hce] at this
    simpa using this.symm
  have hnm : n ≤ maxLen := by
    have h1 : 1 ≤ P.cellsOf e := by omega
    have := Nat.mul_le_mul_left n h1
    unfold maxLen
    omega
  refine ⟨_, _, .slice (some ⟨w.heap.size, 0, none⟩) n n, ?_, sl_rel ρ h.length ⟨w.heap.size, 0, e, P.cellsOf e, cs'.size⟩ rfl (Nat.le_refl _) hnm (by simp [hsz]), q1, q2⟩
  unfold Instr.buildSlice
  simp only [Sem.run_bind, run_underlying ht, Result.andThen_ok, run_sizeOf' w hk]
  have h24 : ¬ (n * P.cellsOf e > 2 ^ 24) := by rw [show (2 ^ 24 : Nat) = 16777216 from rfl]; omega
  rw [if_neg h24]
  by_cases h0 : n * P.cellsOf e = 0
  · rw [if_pos h0] at hzero ⊢
    simp only [Sem.run_pure, Result.ok.injEq, and_true] at hzero
    subst hzero
    simp only [Sem.run_bind, Sem.run_pure, Result.andThen_ok, hfill]
    simp [newRow]
  · rw [if_neg h0] at hzero ⊢
    simp only [Sem.run_bind, Sem.run_pure] at hzero ⊢
    rw [run_zeroValue' w hii hzz] at hzero ⊢
    simp only [Result.andThen_ok, Result.ok.injEq, and_true] at hzero ⊢
    subst hzero
    rw [hfill]
    simp [newRow]

end
end Go.Sim

/-
  The model does what the ideal operations on memory say: make, append, maps; all of them.
-/
namespace Go.Sim

section
variable {P : Program} {w : World} {ρ : RMap} {h : Heap}

theorem run_iMake (H : HRel P ρ h w) {t e : TypeId} {zs : List Value} {l c l' c' v : Value} {h' : Heap} (ht : P.underlying t = some (.slice e)) (hz : zeroOf P e = some zs)
    (hi : iMake e (P.bytesOf e) zs h l c = some (v, h')) (hl : VRel ρ l l') (hc : VRel ρ c c') :
    ∃ w' ρ' v', (Instr.makeSlice t l' c').run P w = .ok v' w' ∧ VRel ρ' v v' ∧ HRel P ρ' h' w' ∧ Tr ρ h w ρ' h' w' := by
  obtain ⟨i, z, hii, hzz, rfl, hnt, hcl, hlen⟩ := zeroOf_some hz
  unfold iMake at hi
  split at hi
  · rename_i k1 l k2 c
    rw [hl.int_inv, hc.int_inv]
    split at hi
    · rename_i hb
      obtain ⟨h0, h1, h2, h3⟩ := hb
      simp at hi
      obtain ⟨rfl, rfl⟩ := hi
      rw [bytesOf_info hii] at h2
      have hrun := run_make (P := P) w t e i z ht hii hzz k1 k2 l c h0 h1 h2 h3
      have hcr : CellsRel ρ (madeCells z.cells (c.toNat * i.size)) 0 (zrep (vcells z) l.toNat) := by
        intro j x hj
        have hjl : j < l.toNat * i.size := by
          have := (List.getElem?_eq_some_iff.1 hj).1
          rwa [zrep_length, hlen] at this
        have hzs : z.cells.size = i.size := by rw [← hlen]; simp [vcells]
        have hpos : 0 < z.cells.size := by
          rcases Nat.eq_zero_or_pos i.size with q | q
          · rw [q] at hjl; simp at hjl
          · omega
        have hmul : l.toNat * i.size ≤ c.toNat * i.size := Nat.mul_le_mul_right _ (by omega)
        rw [zrep, flatten_get _ _ _ (by rw [hlen]; exact hjl)] at hj
        have hx : x ∈ vcells z := List.mem_of_getElem? hj
        refine ⟨(hcl x hx).2, x, ?_, cvOk.rel (hcl x hx).1⟩
        rw [Nat.zero_add, made_get _ _ _ (by omega) hpos]
        simpa [vcells] using hj
      obtain ⟨q1, q2⟩ := newArr H (NewBlock.alloc w (.cells (madeCells z.cells (c.toNat * i.size)) e)) hcr
      refine ⟨_, _, _, hrun, ?_, q1, q2⟩
      exact sl_rel ρ h.length ⟨w.heap.size, 0, e, P.cellsOf e, (madeCells z.cells (c.toNat * i.size)).size⟩ rfl (by omega) (by unfold maxLen; omega) (by simp [size_madeCells, cellsOf_info hii])
    · cases hi
  · cases hi

theorem run_append_zero {t e : TypeId} {i : TypeInfo} (ht : P.underlying t = some (.slice e)) (hi : P.info? e = some i) (type : TypeId) (b : Option Addr) (n c : Nat) (x : Value) (hn : n ≤ c)
    (hx : x = .slice none 0 0 ∨ ∃ a c2, x = .slice (some a) 0 c2) : (Builtin.append_ #[t, t] type #[.slice b n c, x]).run P w = .ok (.slice b n c) w := by
  rcases hx with rfl | ⟨a, c2, rfl⟩
  · cases b <;> simp [Builtin.append_, run_underlying ht, sizeOf, typeInfo, hi, Builtin.lenOf, hn, Builtin.firstCells, storeCells]
  · cases b <;> simp [Builtin.append_, run_underlying ht, sizeOf, typeInfo, hi, Builtin.lenOf, hn, Builtin.firstCells, loadCells, loadCellsFrom, storeCells]

theorem cells_append {ρ : RMap} {c : Array Value} {xs ys zs : List Value} (hx : ∀ (j : Nat) (x : Value), xs[j]? = some x → isCell x = true ∧ ∃ y, c[j]? = some y ∧ VRel ρ x y) (hz : VsRel ρ zs ys) (h1 : ∀ x ∈ zs, isCell x = true)
    (hc : ∀ (j : Nat) (y : Value), ys[j]? = some y → c[xs.length + j]? = some y) : CellsRel ρ c 0 (xs ++ zs) := by
  intro j x hj
  by_cases hlt : j < xs.length
  · rw [List.getElem?_append_left hlt] at hj
    simpa using hx j x hj
  · rw [List.getElem?_append_right (by omega)] at hj
    obtain ⟨y, hy, hr⟩ := hz.get hj
    refine ⟨h1 x (List.mem_of_getElem? hj), y, ?_, hr⟩
    have := hc _ y hy
    rw [← this]
    congr 1
    omega

theorem run_iApp (H : HRel P ρ h w) {t e : TypeId} {zs : List Value} {type : TypeId} {s x s' x' v : Value} {h' : Heap} (ht : P.underlying t = some (.slice e)) (hz : zeroOf P e = some zs)
    (hi : iApp e (P.cellsOf e) (P.bytesOf e) h s x = some (v, h')) (hs : VRel ρ s s') (hx : VRel ρ x x') :
    ∃ w' ρ' v', (Builtin.append_ #[t, t] type #[s', x']).run P w = .ok v' w' ∧ VRel ρ' v v' ∧ HRel P ρ' h' w' ∧ Tr ρ h w ρ' h' w' := by
  obtain ⟨i, z, hii, hzz, rfl, hnt, hcl, hlen⟩ := zeroOf_some hz
  have hce := cellsOf_info hii
  have hbe := bytesOf_info hii
  have hzs : z.cells.size = i.size := by rw [← hlen]; simp [vcells]
  unfold iApp at hi
  split at hi
  · rename_i news m hn hm
    have hxx := sliceCells_rel H hn hx
    have hzero : m = 0 → (x' = .slice none 0 0 ∨ ∃ a c2, x' = .slice (some a) 0 c2) := by
      intro hm0
      rcases hxx with ⟨e1, _⟩ | ⟨b, o, n2, c2, e1, e2, _⟩
      · exact .inl e1
      · rw [hm] at e2; cases e2; subst hm0; exact .inr ⟨_, _, e1⟩
    have hsome : 0 < m → ∃ b o c2, x' = .slice (some ⟨b, o, none⟩) m c2 ∧ news.length = m * i.size ∧ (∀ v ∈ news, isCell v = true) ∧
        ∃ ys, VsRel ρ news ys ∧ ys.length = m * i.size ∧ ∀ j v, ys[j]? = some v → w.cell? ((⟨b, o, none⟩ : Addr).add j) = some v := by
      intro hm0
      rcases hxx with ⟨e1, e2⟩ | ⟨b, o, n2, c2, e1, e2, e3, e4, ys, e5, e6⟩
      · subst e1
        cases hx
        · simp [lenOfSl] at hm
          omega
        · simp [lenOfSl] at hm
      · rw [hm] at e2; cases e2
        refine ⟨b, o, c2, e1, by rw [e3, hce], e4, ys, e5, by rw [← e5.length, e3, hce], ?_⟩
        intro j v hj
        rw [Addr.add_lit]
        exact e6 j v hj
    split at hi
    · cases hs
      split at hi
      · rename_i hm0
        simp at hi
        obtain ⟨rfl, rfl⟩ := hi
        exact ⟨w, ρ, _, run_append_zero ht hii type none 0 0 x' (Nat.le_refl _) (hzero hm0), .nilSlice, H, Tr.refl H⟩
      · rename_i hm0
        split at hi
        · rename_i hb
          obtain ⟨hb1, hb2⟩ := hb
          simp at hi
          obtain ⟨rfl, rfl⟩ := hi
          obtain ⟨b, o, c2, rfl, f1, f2, ys, f3, f4, f5⟩ := hsome (by omega)
          have hrun := run_append_nil (P := P) w t type e i z ht hii hzz ⟨b, o, none⟩ m c2 ys f4 f5 (by omega) (by unfold maxLen at hb2; omega) (by rw [← hbe]; omega)
          have hge := grownCap_ge w m 0 e
          have hcr : CellsRel ρ (ys.toArray ++ Builtin.zeroCells z.cells (grownCap w m 0 e - m)) 0 news := by
            have := cells_append (ρ := ρ) (c := ys.toArray ++ Builtin.zeroCells z.cells (grownCap w m 0 e - m)) (xs := []) (ys := ys) (zs := news) (by simp) f3 f2 (by
              intro j y hj
              have hlt := (List.getElem?_eq_some_iff.1 hj).1
              rw [Array.getElem?_append_left (by simpa using hlt)]
              simpa using hj)
            simpa using this
          obtain ⟨q1, q2⟩ := newArr H (NewBlock.drew w (.cells (ys.toArray ++ Builtin.zeroCells z.cells (grownCap w m 0 e - m)) e)) hcr
          refine ⟨_, _, _, hrun, ?_, q1, q2⟩
          refine sl_rel ρ h.length ⟨w.heap.size, 0, e, P.cellsOf e, (ys.toArray ++ Builtin.zeroCells z.cells (grownCap w m 0 e - m)).size⟩ rfl hge (grownCap_le_maxLen w m 0 e hb2) ?_
          simp only [Array.size_append, List.size_toArray, size_zeroCells, f4, hzs, hce]
          rw [← Nat.add_mul]
          exact Nat.mul_le_mul_right _ (by omega)
        · cases hi
    · rename_i ii e' n cc
      split at hi
      · rename_i e'' xs hxs
        split at hi
        · rename_i hb
          obtain ⟨rfl, rfl, hb3, hb4, hb5⟩ := hb
          have hs0 := hs
          cases hs with
          | slice hr ho hnc hcm hbd =>
            rename_i o' c' r
            obtain ⟨g1, g2, c, g3, g4, g5⟩ := H.arr hr hxs
            obtain rfl : o' = 0 := by
              rcases ho with ho | ⟨_, q, _⟩
              · omega
              · omega
            have hes := H.esz _ _ hr
            split at hi
            · rename_i hm0
              simp at hi
              obtain ⟨rfl, rfl⟩ := hi
              exact ⟨w, ρ, _, run_append_zero ht hii type _ n c' x' hnc (hzero hm0), hs0, H, Tr.refl H⟩
            · rename_i hm0
              simp at hi
              obtain ⟨rfl, rfl⟩ := hi
              obtain ⟨b, o, c2, rfl, f1, f2, ys, f3, f4, f5⟩ := hsome (by omega)
              rw [hce] at hb3
              have hesz : r.esz = i.size := by rw [hes, hce]
              have hmut : isMut h ii := .inl ⟨_, xs, hxs⟩
              by_cases hroom : n + m ≤ c'
              · have hfit : n * i.size + ys.length ≤ c.size := by
                  rw [f4, g4, ← Nat.add_mul]
                  have := Nat.mul_le_mul_right i.size hroom
                  rw [hesz] at hbd
                  omega
                have hrun := run_append_room (P := P) w t type r.elem i ht hii r.blk n c' c g3 ⟨b, o, none⟩ m c2 ys f4 f5 (f3.oneCell f2) hroom hfit
                have hcs : (c.toList.take (n * i.size) ++ ys ++ c.toList.drop (n * i.size + ys.length)).toArray = (setAt c.toList (n * i.size) ys).toArray := rfl
                rw [hcs] at hrun
                have hsz : (setAt c.toList (n * i.size) ys).toArray.size = c.size := by simp [setAt_length (show n * i.size + ys.length ≤ c.toList.length by simpa using hfit)]
                have hcr : CellsRel ρ (setAt c.toList (n * i.size) ys).toArray 0 (xs ++ news) := by
                  refine cells_append (ys := ys) ?_ f3 f2 ?_
                  · intro j x hj
                    have hlt := (List.getElem?_eq_some_iff.1 hj).1
                    obtain ⟨k1, y, k2, k3⟩ := g5 j x hj
                    refine ⟨k1, y, ?_, k3⟩
                    rw [List.getElem?_toArray, setAt_get (by simpa using hfit), if_pos (by omega)]
                    simpa using k2
                  · intro j y hj
                    have hlt := (List.getElem?_eq_some_iff.1 hj).1
                    rw [List.getElem?_toArray, setAt_get (by simpa using hfit), if_neg (by omega), if_pos (by omega)]
                    rw [← hj]
                    congr 1
                    omega
                have sb := SetBlock.row g3 (setAt c.toList (n * i.size) ys).toArray
                obtain ⟨q1, q2⟩ := H.move (o := .arr r.elem (xs ++ news)) hr hmut sb ⟨rfl, g2, _, sb.here, by rw [hsz, g4], hcr.mono (RMap.le_add H.none)⟩
                refine ⟨_, _, _, hrun, ?_, q1, q2⟩
                exact sl_rel ρ h.length r g2 hroom hcm (by omega)
              · obtain ⟨olds, o1, o2, o3, o4⟩ := g5.window (o := 0) (n := n * i.size) (by omega)
                have hxs' : (xs.drop 0).take (n * i.size) = xs := by rw [List.drop_zero]; exact List.take_of_length_le (by omega)
                rw [hxs'] at o1 o3
                have hold : ∀ j v, olds[j]? = some v → w.cell? ((⟨r.blk, 0, none⟩ : Addr).add j) = some v := by
                  intro j v hj
                  rw [Addr.add_lit, cell_row g3]
                  simpa using o4 j v hj
                have hfits := growslice_fits (need := n + m) (old := c') (bytes := P.bytesOf r.elem) (by omega) hb4
                rw [hbe] at hfits
                have hrun := run_append_grow (P := P) w t type r.elem i z ht hii hzz ⟨r.blk, 0, none⟩ n c' olds o2 hold ⟨b, o, none⟩ m c2 ys f4 f5 (by omega) (by unfold maxLen at hb5; omega) hfits
                have hge := grownCap_ge w (n + m) c' r.elem
                generalize hcc : olds.toArray ++ ys.toArray ++ Builtin.zeroCells z.cells (grownCap w (n + m) c' r.elem - (n + m)) = cc at hrun
                have hccs : cc.size = n * i.size + m * i.size + (grownCap w (n + m) c' r.elem - (n + m)) * i.size := by
                  rw [← hcc]; simp only [Array.size_append, List.size_toArray, size_zeroCells, o2, f4, hzs]
                have hcr : CellsRel ρ cc 0 (xs ++ news) := by
                  refine cells_append (ys := ys) ?_ f3 f2 ?_
                  · intro j x hj
                    have hlt := (List.getElem?_eq_some_iff.1 hj).1
                    obtain ⟨y, k2, k3⟩ := o1.get hj
                    refine ⟨o3 x (List.mem_of_getElem? hj), y, ?_, k3⟩
                    rw [← hcc, Array.append_assoc, Array.getElem?_append_left (by simp; omega)]
                    simpa using k2
                  · intro j y hj
                    have hlt := (List.getElem?_eq_some_iff.1 hj).1
                    rw [← hcc, Array.append_assoc, Array.getElem?_append_right (by simp; omega), Array.getElem?_append_left (by simp; omega)]
                    rw [← hj, List.getElem?_toArray]
                    congr 1
                    simp
                    omega
                have nb := NewBlock.drew w (.cells cc r.elem)
                obtain ⟨q1, q2⟩ := H.new (h₀ := h.set ii .dead) (o := .arr r.elem (xs ++ news)) (r := ⟨w.heap.size, 0, r.elem, P.cellsOf r.elem, cc.size⟩) nb rfl rfl (by simp) (by
                    intro j
                    by_cases hj : j = ii
                    · subst hj; right; rw [List.getElem?_set_self (H.lt hr)]
                    · left; rw [List.getElem?_set_ne (Ne.symm hj)]) ⟨rfl, rfl, cc, nb.new, rfl, hcr.mono (RMap.le_add H.none)⟩
                refine ⟨_, _, _, hrun, ?_, q1, q2⟩
                refine sl_rel ρ h.length ⟨w.heap.size, 0, r.elem, P.cellsOf r.elem, cc.size⟩ rfl hge (grownCap_le_maxLen w (n + m) c' r.elem hb5) ?_
                simp only [hccs, hce]
                rw [← Nat.add_mul, ← Nat.add_mul]
                exact Nat.mul_le_mul_right _ (by omega)
        · cases hi
      · cases hi
    · cases hi
  · cases hi

end
end Go.Sim

/-
  The model does what the ideal operations on memory say: all that write or make.
-/
namespace Go.Sim

theorem SetBlock.obj {w : World} {g : Nat} {x : Obj} (hg : w.heap[g]? = some x) (b : Obj) : SetBlock w g b { w with heap := w.heap.setIfInBounds g b } where
  here := by
    have := (Array.getElem?_eq_some_iff.1 hg).1
    simp [this]
  other := by intro j hj; simp [Ne.symm hj]
  size := by simp
  os := rfl
  tape := rfl
  output := rfl

theorem find_set {ρ : RMap} {es : List (ByteArray × Value)} {ents : List MapEntry} (h : EntsRel ρ es ents) (k : ByteArray) {v v' : Value} (hv : VRel ρ v v') (born : Nat) : ∀ i : Nat,
    (Instr.findNow .string (.string k) ents i = some none ∧ EntsRel ρ (setS k v es) (ents ++ [{ key := .string k, val := v', born }])) ∨
    (∃ u j, Instr.findNow .string (.string k) ents i = some (some (i + j, u)) ∧ (∃ en, ents[j]? = some en ∧ en.key = .string k) ∧ EntsRel ρ (setS k v es) (ents.modify j fun e => { e with key := .string k, val := v' })) := by
  induction h with
  | nil => intro i; exact .inl ⟨rfl, .cons rfl hv .nil⟩
  | cons h1 h2 h3 ih =>
    rename_i k0 v0 en es ents
    intro i
    by_cases hk : k = k0
    · subst hk
      have hb : (k == k) = true := (MapKept.bytes_beq k k).2 rfl
      refine .inr ⟨en.val, 0, ?_, ⟨en, rfl, h1⟩, ?_⟩
      · simp [Instr.findNow, h1, Instr.sameNow, hb]
      · simp only [setS, if_true, List.modify_zero_cons]
        exact .cons rfl hv h3
    · have hb : (k == k0) = false := by
        rw [Bool.eq_false_iff]
        exact fun e => hk ((MapKept.bytes_beq k k0).1 e)
      rcases ih (i + 1) with ⟨e1, e2⟩ | ⟨u, j, e1, e2, e3⟩
      · refine .inl ⟨?_, ?_⟩
        · simp [Instr.findNow, h1, Instr.sameNow, hb, e1]
        · simp only [setS, if_neg hk, List.cons_append]
          exact .cons h1 h2 e2
      · refine .inr ⟨u, j + 1, ?_, by simpa using e2, ?_⟩
        · simp [Instr.findNow, h1, Instr.sameNow, hb, e1]; omega
        · simp only [setS, if_neg hk, List.modify_succ_cons]
          exact .cons h1 h2 e3

theorem find_setI {kd : IntKind} {ρ : RMap} {es : List (Int × Value)} {ents : List MapEntry} (h : EntsRelI kd ρ es ents) (k : Int) {v v' : Value} (hv : VRel ρ v v') (born : Nat) : ∀ i : Nat,
    (Instr.findNow (.int kd) (.int kd k) ents i = some none ∧ EntsRelI kd ρ (setI k v es) (ents ++ [{ key := .int kd k, val := v', born }])) ∨
    (∃ u j, Instr.findNow (.int kd) (.int kd k) ents i = some (some (i + j, u)) ∧ (∃ en, ents[j]? = some en ∧ en.key = .int kd k) ∧ EntsRelI kd ρ (setI k v es) (ents.modify j fun e => { e with key := .int kd k, val := v' })) := by
  induction h with
  | nil => intro i; exact .inl ⟨rfl, .cons rfl hv .nil⟩
  | cons h1 h2 h3 ih =>
    rename_i k0 v0 en es ents
    intro i
    by_cases hk : k = k0
    · subst hk
      have hb : (k == k) = true := beq_self_eq_true k
      refine .inr ⟨en.val, 0, ?_, ⟨en, rfl, h1⟩, ?_⟩
      · simp [Instr.findNow, h1, Instr.sameNow, hb]
      · simp only [setI, if_true, List.modify_zero_cons]
        exact .cons rfl hv h3
    · have hb : (k == k0) = false := by
        exact beq_false_of_ne hk
      rcases ih (i + 1) with ⟨e1, e2⟩ | ⟨u, j, e1, e2, e3⟩
      · refine .inl ⟨?_, ?_⟩
        · simp [Instr.findNow, h1, Instr.sameNow, hb, e1]
        · simp only [setI, if_neg hk, List.cons_append]
          exact .cons h1 h2 e2
      · refine .inr ⟨u, j + 1, ?_, by simpa using e2, ?_⟩
        · simp [Instr.findNow, h1, Instr.sameNow, hb, e1]; omega
        · simp only [setI, if_neg hk, List.modify_succ_cons]
          exact .cons h1 h2 e3

section
variable {P : Program} {w : World} {ρ : RMap} {h : Heap}

theorem run_iMkMap (H : HRel P ρ h w) (t : TypeId) : ∃ w' ρ' v', (Instr.makeMap t none).run P w = .ok v' w' ∧ VRel ρ' (.map (some h.length)) v' ∧ HRel P ρ' (h ++ [.smap []]) w' ∧ Tr ρ h w ρ' (h ++ [.smap []]) w' := by
  have nb := NewBlock.alloc w (.map #[] 0)
  obtain ⟨q1, q2⟩ := H.new (h₀ := h) (o := .smap []) (r := ⟨w.heap.size, 0, 0, P.cellsOf 0, 0⟩) nb rfl rfl rfl (fun _ => .inl rfl) ⟨#[], 0, nb.new, rfl, fun j k v hj => by simp at hj⟩
  refine ⟨_, _, .map (some w.heap.size), ?_, VRel.map (add_self _ _ _), q1, q2⟩
  simp [Instr.makeMap]

theorem run_iMkMapI (H : HRel P ρ h w) (t : TypeId) (kd : IntKind) : ∃ w' ρ' v', (Instr.makeMap t none).run P w = .ok v' w' ∧ VRel ρ' (.map (some h.length)) v' ∧ HRel P ρ' (h ++ [.imap kd []]) w' ∧ Tr ρ h w ρ' (h ++ [.imap kd []]) w' := by
  have nb := NewBlock.alloc w (.map #[] 0)
  obtain ⟨q1, q2⟩ := H.new (h₀ := h) (o := .imap kd []) (r := ⟨w.heap.size, 0, 0, P.cellsOf 0, 0⟩) nb rfl rfl rfl (fun _ => .inl rfl) ⟨#[], 0, nb.new, rfl, fun j k v hj => by simp at hj⟩
  refine ⟨_, _, .map (some w.heap.size), ?_, VRel.map (add_self _ _ _), q1, q2⟩
  simp [Instr.makeMap]

theorem run_setObj {g : Nat} {ents : Array MapEntry} {clock : Nat} (hg : w.heap[g]? = some (.map ents clock)) (o : Obj) : (setObj g o).run P w = .ok () { w with heap := w.heap.setIfInBounds g o } := by
  simp [setObj, Sem.run, hg]

theorem run_iMupd (H : HRel P ρ h w) {t kt et : TypeId} {m m' k k' v v' : Value} {h' : Heap} (ht : P.underlying t = some (.map kt et)) (hk : isString P kt = true)
    (hi : iMupd h m k v = some h') (hm : VRel ρ m m') (hkk : VRel ρ k k') (hv : VRel ρ v v') : ∃ w', (Instr.mapUpdate t m' k' v').run P w = .ok () w' ∧ HRel P ρ h' w' ∧ Tr ρ h w ρ h' w' := by
  unfold iMupd at hi
  split at hi
  · rename_i i key
    rw [hkk.string_inv]
    cases hm with
    | map hr =>
      rename_i r
      split at hi
      · rename_i es he
        simp at hi; subst hi
        obtain ⟨ents, clock, hb, hents⟩ := H.ents hr he
        have hks := isString_some hk
        have hmut : isMut h i := .inr (.inl ⟨es, he⟩)
        have mk : ∀ (ents' : Array MapEntry) (clock' : Nat), EntsRel ρ (setS key v es) ents'.toList → HRel P ρ (h.set i (.smap (setS key v es))) { w with heap := w.heap.setIfInBounds r.blk (.map ents' clock') } ∧
            Tr ρ h w ρ (h.set i (.smap (setS key v es))) { w with heap := w.heap.setIfInBounds r.blk (.map ents' clock') } := by
          intro ents' clock' he'
          have sb := SetBlock.obj hb (.map ents' clock')
          have := he'.to
          exact H.set (o := .smap (setS key v es)) hr hmut sb ⟨ents', clock', sb.here, by simpa using this.1, by simpa using this.2⟩
        rcases find_set hents key hv clock 0 with ⟨e1, e2⟩ | ⟨u, j, e1, ⟨en, e2, e2'⟩, e3⟩
        · obtain ⟨q1, q2⟩ := mk (ents.push { key := .string key, val := v', born := clock }) (clock + 1) (by simpa using e2)
          refine ⟨_, ?_, q1, q2⟩
          simp [Instr.mapUpdate, run_underlying ht, run_getObj_map hb, run_checkKey _ hks, run_findKey hks key _ e1, run_setObj hb]
        · obtain ⟨q1, q2⟩ := mk (ents.modify j fun e => { e with key := .string key, val := v' }) clock (by simpa using e3)
          refine ⟨_, ?_, q1, q2⟩
          have hget : ents[j]? = some en := by simpa using e2
          have hsame : Instr.sameBits 10000 (.string key) (.string key) = true := by
            simp [Instr.sameBits, (MapKept.bytes_beq key key).2 rfl]
          have hstay : (Instr.keyThatStays (((ents[j]?).map (·.key)).getD (.string key)) (.string key)).run P w = .ok (.string key) w := by
            rw [hget]
            simp [Instr.keyThatStays, e2', hsame]
          simp only [Instr.mapUpdate, Sem.run_bind, run_underlying ht, Result.andThen_ok, run_getObj_map hb, run_checkKey _ hks, run_findKey hks key _ e1]
          simp only [Nat.zero_add, hstay, Result.andThen_ok, run_setObj hb]
      · cases hi
  · cases hi

theorem run_iMupdI (H : HRel P ρ h w) {t kt et : TypeId} {kd : IntKind} {m m' k k' v v' : Value} {h' : Heap} (ht : P.underlying t = some (.map kt et)) (hk : isIntK P kt = some kd)
    (hi : iMupdI kd h m k v = some h') (hm : VRel ρ m m') (hkk : VRel ρ k k') (hv : VRel ρ v v') : ∃ w', (Instr.mapUpdate t m' k' v').run P w = .ok () w' ∧ HRel P ρ h' w' ∧ Tr ρ h w ρ h' w' := by
  unfold iMupdI at hi
  split at hi
  · rename_i i kd' key
    rw [hkk.int_inv]
    cases hm with
    | map hr =>
      rename_i r
      split at hi
      · rename_i kd'' es he
        split at hi
        · rename_i hkd
          obtain ⟨rfl, rfl⟩ := hkd
          simp at hi; subst hi
          obtain ⟨ents, clock, hb, hents⟩ := H.entsI hr he
          have hks := isIntK_some hk
          have hmut : isMut h i := .inr (.inr (.inr (.inl ⟨_, es, he⟩)))
          have mk : ∀ (ents' : Array MapEntry) (clock' : Nat), EntsRelI kd'' ρ (setI key v es) ents'.toList → HRel P ρ (h.set i (.imap kd'' (setI key v es))) { w with heap := w.heap.setIfInBounds r.blk (.map ents' clock') } ∧
              Tr ρ h w ρ (h.set i (.imap kd'' (setI key v es))) { w with heap := w.heap.setIfInBounds r.blk (.map ents' clock') } := by
            intro ents' clock' he'
            have sb := SetBlock.obj hb (.map ents' clock')
            have := he'.to
            exact H.set (o := .imap kd'' (setI key v es)) hr hmut sb ⟨ents', clock', sb.here, by simpa using this.1, by simpa using this.2⟩
          rcases find_setI hents key hv clock 0 with ⟨e1, e2⟩ | ⟨u, j, e1, ⟨en, e2, e2'⟩, e3⟩
          · obtain ⟨q1, q2⟩ := mk (ents.push { key := .int kd'' key, val := v', born := clock }) (clock + 1) (by simpa using e2)
            refine ⟨_, ?_, q1, q2⟩
            simp [Instr.mapUpdate, run_underlying ht, run_getObj_map hb, run_checkKeyI _ hks, run_findKeyI hks key _ e1, run_setObj hb]
          · obtain ⟨q1, q2⟩ := mk (ents.modify j fun e => { e with key := .int kd'' key, val := v' }) clock (by simpa using e3)
            refine ⟨_, ?_, q1, q2⟩
            have hget : ents[j]? = some en := by simpa using e2
            have hsame : ∀ kd, Instr.sameBits 10000 (.int kd key) (.int kd key) = true := by
              intro kd
              simp [Instr.sameBits]
            have hstay : (Instr.keyThatStays (((ents[j]?).map (·.key)).getD (.int kd'' key)) (.int kd'' key)).run P w = .ok (.int kd'' key) w := by
              rw [hget]
              simp [Instr.keyThatStays, e2', hsame]
            simp only [Instr.mapUpdate, Sem.run_bind, run_underlying ht, Result.andThen_ok, run_getObj_map hb, run_checkKeyI _ hks, run_findKeyI hks key _ e1]
            simp only [Nat.zero_add, hstay, Result.andThen_ok, run_setObj hb]
        · cases hi
      · cases hi
  · cases hi

theorem run_iMkMapG (H : HRel P ρ h w) (t : TypeId) (g : GKind) : ∃ w' ρ' v', (Instr.makeMap t none).run P w = .ok v' w' ∧ VRel ρ' (.map (some h.length)) v' ∧ HRel P ρ' (h ++ [.gmap g 0 []]) w' ∧ Tr ρ h w ρ' (h ++ [.gmap g 0 []]) w' := by
  have nb := NewBlock.alloc w (.map #[] 0)
  obtain ⟨q1, q2⟩ := H.new (h₀ := h) (o := .gmap g 0 []) (r := ⟨w.heap.size, 0, 0, P.cellsOf 0, 0⟩) nb rfl rfl rfl (fun _ => .inl rfl) ⟨by simp, #[], nb.new, rfl, fun j b k v hj => by simp at hj⟩
  refine ⟨_, _, .map (some w.heap.size), ?_, VRel.map (add_self _ _ _), q1, q2⟩
  simp [Instr.makeMap]

theorem EntsG.set {g : GKind} {c : Nat} {es : List (Nat × Value × Value)} {ents : Array MapEntry} (E : EntsG ρ g es ents) {k v v' : Value} (hk : gkIs g k = true) (hv : VRel ρ v v') :
    (posG k es = none → EntsG ρ g (es ++ [(c, k, v)]) (ents.push { key := k, val := v', born := c })) ∧ ∀ j b u, posG k es = some j → es[j]? = some (b, k, u) → EntsG ρ g (es.modify j fun e => (e.1, k, v)) (ents.modify j fun e => { e with key := k, val := v' }) := by
  constructor
  · intro hp
    have hno : ∀ e ∈ es, e.2.1 ≠ k := by
      rcases posG_spec hk es with ⟨_, h2⟩ | ⟨j, e, h1, _⟩
      · exact h2
      · rw [hp] at h1; cases h1
    refine ⟨by simp [E.size], ?_, ?_⟩
    · rw [List.map_append, List.nodup_append]
      refine ⟨E.nodup, by simp, ?_⟩
      intro a ha b hb
      obtain ⟨e, he, rfl⟩ := List.mem_map.1 ha
      simp at hb
      subst hb
      exact hno e he
    · intro j b k1 v1 hj
      by_cases hlt : j < es.length
      · rw [List.getElem?_append_left hlt] at hj
        obtain ⟨g1, en, g2, g3⟩ := E.get j b k1 v1 hj
        exact ⟨g1, en, by rw [Array.getElem?_push_lt (by rw [E.size]; exact hlt)]; rw [Array.getElem?_eq_getElem (by rw [E.size]; exact hlt)] at g2; exact g2, g3⟩
      · rw [List.getElem?_append_right (by omega)] at hj
        have hj0 : j = es.length := by
          have := (List.getElem?_eq_some_iff.1 hj).1
          simp at this
          omega
        subst hj0
        simp at hj
        obtain ⟨rfl, rfl, rfl⟩ := hj
        exact ⟨hk, { key := k, val := v', born := c }, by rw [← E.size]; simp, rfl, rfl, hv⟩
  · intro j b u hp hj
    have hkeys : ((es.modify j fun e => (e.1, k, v)).map fun e => e.2.1) = es.map fun e => e.2.1 := by
      apply List.ext_getElem?
      intro i
      simp only [List.getElem?_map, List.getElem?_modify]
      by_cases hij : j = i
      · subst hij; simp [hj]
      · simp [hij]
    refine ⟨by simp [E.size], by rw [hkeys]; exact E.nodup, ?_⟩
    intro i b1 k1 v1 hi
    rw [List.getElem?_modify] at hi
    by_cases hij : j = i
    · subst hij
      simp [hj] at hi
      obtain ⟨rfl, rfl, rfl⟩ := hi
      obtain ⟨g1, en, g2, g3, g4, _⟩ := E.get j b k u hj
      refine ⟨hk, { en with key := k, val := v' }, ?_, rfl, g4, hv⟩
      rw [Array.getElem?_modify]
      simp [g2]
    · simp [hij] at hi
      obtain ⟨g1, en, g2, g3⟩ := E.get i b1 k1 v1 hi
      refine ⟨g1, en, ?_, g3⟩
      rw [Array.getElem?_modify]
      simp [hij, g2]

theorem run_iMupdG (H : HRel P ρ h w) {t : TypeId} {g : GKind} {m m' k k' v v' : Value} {h' : Heap} (hg : gkOf P t = some g)
    (hi : iMupdG g h m k v = some h') (hm : VRel ρ m m') (hkk : VRel ρ k k') (hv : VRel ρ v v') : ∃ w', (Instr.mapUpdate t m' k' v').run P w = .ok () w' ∧ HRel P ρ h' w' ∧ Tr ρ h w ρ h' w' := by
  obtain ⟨kt, et, ht, L⟩ := glaw_of hg
  unfold iMupdG at hi
  split at hi
  · rename_i i
    cases hm with
    | map hr =>
      rename_i r
      split at hi
      · rename_i g' c es he
        split at hi
        · rename_i hkd
          obtain ⟨rfl, hk, _⟩ := hkd
          simp at hi; subst hi
          rw [hkk.key hk]
          obtain ⟨ents, hb, E⟩ := H.entsG hr he
          have hmut : isMut h i := .inr (.inr (.inr (.inr (.inl ⟨_, _, es, he⟩))))
          obtain ⟨S1, S2⟩ := E.set (c := c) hk hv
          rcases run_findG (w := w) L E hk with ⟨⟨e1, _⟩, e2⟩ | ⟨j, b, u, en, e1, e2, e3, e4, e5, e6, e7⟩
          · have E' := S1 e1
            have sb := SetBlock.obj hb (.map (ents.push { key := k, val := v', born := c }) (c + 1))
            have hset : setG c k v es = es ++ [(c, k, v)] := by simp [setG, e1]
            have hclk : clkG c k es = c + 1 := by simp [clkG, e1]
            obtain ⟨q1, q2⟩ := H.set (o := .gmap g' (clkG c k es) (setG c k v es)) hr hmut sb (by rw [hset, hclk]; exact ⟨E'.nodup, _, sb.here, E'.size, E'.get⟩)
            refine ⟨_, ?_, q1, q2⟩
            simp [Instr.mapUpdate, run_underlying ht, run_getObj_map hb, L.check w _ k hk, e2, run_setObj hb]
          · have E' := S2 j b u e1 e2
            have sb := SetBlock.obj hb (.map (ents.modify j fun e => { e with key := k, val := v' }) c)
            have hset : setG c k v es = es.modify j fun e => (e.1, k, v) := by simp [setG, e1]
            have hclk : clkG c k es = c := by simp [clkG, e1]
            obtain ⟨q1, q2⟩ := H.set (o := .gmap g' (clkG c k es) (setG c k v es)) hr hmut sb (by rw [hset, hclk]; exact ⟨E'.nodup, _, sb.here, E'.size, E'.get⟩)
            refine ⟨_, ?_, q1, q2⟩
            have hstay : (Instr.keyThatStays (((ents[j]?).map (·.key)).getD k) k).run P w = .ok k w := by
              rw [e3]
              simp [e4, L.stays w k hk]
            simp only [Instr.mapUpdate, Sem.run_bind, run_underlying ht, Result.andThen_ok, run_getObj_map hb, L.check w _ k hk, e7]
            simp only [hstay, Result.andThen_ok, run_setObj hb]
        · cases hi
      · cases hi
  · cases hi

theorem EntsG.era {g : GKind} {es : List (Nat × Value × Value)} {ents : Array MapEntry} (E : EntsG ρ g es ents) {j : Nat} (hj : j < es.length) : EntsG ρ g (es.eraseIdx j) (ents.eraseIdxIfInBounds j) := by
  have hlt : j < ents.size := by rw [E.size]; exact hj
  have he : ents.eraseIdxIfInBounds j = ents.eraseIdx j hlt := by simp [Array.eraseIdxIfInBounds, hlt]
  rw [he]
  refine ⟨by rw [Array.size_eraseIdx, List.length_eraseIdx, if_pos hj, E.size], ?_, ?_⟩
  · refine List.Nodup.sublist ?_ E.nodup
    exact (List.eraseIdx_sublist _ _).map _
  · intro i b k v hi
    rw [List.getElem?_eraseIdx] at hi
    split at hi
    · rename_i hij
      obtain ⟨g1, en, g2, g3⟩ := E.get i b k v hi
      exact ⟨g1, en, by rw [Array.getElem?_eraseIdx, if_pos hij]; exact g2, g3⟩
    · rename_i hij
      obtain ⟨g1, en, g2, g3⟩ := E.get (i + 1) b k v hi
      exact ⟨g1, en, by rw [Array.getElem?_eraseIdx, if_neg hij]; exact g2, g3⟩

theorem run_iDelG (H : HRel P ρ h w) {t ty : TypeId} {ts : Array TypeId} {g : GKind} {m m' k k' : Value} {h' : Heap} (hts : ts[0]? = some t) (hg : gkOf P t = some g)
    (hi : iDelG g h m k = some h') (hm : VRel ρ m m') (hkk : VRel ρ k k') : ∃ w', (Builtin.delete_ ts ty #[m', k']).run P w = .ok (.tuple #[]) w' ∧ HRel P ρ h' w' ∧ Tr ρ h w ρ h' w' := by
  obtain ⟨kt, et, ht, L⟩ := glaw_of hg
  unfold iDelG at hi
  split at hi
  · rename_i i
    cases hm with
    | map hr =>
      rename_i r
      split at hi
      · rename_i g' c es he
        split at hi
        · rename_i hkd
          obtain ⟨rfl, hk⟩ := hkd
          simp at hi; subst hi
          rw [hkk.key hk]
          obtain ⟨ents, hb, E⟩ := H.entsG hr he
          have hmut : isMut h i := .inr (.inr (.inr (.inr (.inl ⟨_, _, es, he⟩))))
          rcases run_findG (w := w) L E hk with ⟨⟨e1, _⟩, e2⟩ | ⟨j, b, u, en, e1, e2, e3, e4, e5, e6, e7⟩
          · have sb := SetBlock.obj hb (.map ents c)
            have hset : eraG k es = es := by simp [eraG, e1]
            obtain ⟨q1, q2⟩ := H.set (o := .gmap g' c (eraG k es)) hr hmut sb (by rw [hset]; exact ⟨E.nodup, _, sb.here, E.size, E.get⟩)
            refine ⟨_, ?_, q1, q2⟩
            simp [Builtin.delete_, hts, run_underlying ht, run_getObj_map hb, L.check w _ k hk, e2, run_setObj hb]
          · have E' := E.era (List.getElem?_eq_some_iff.1 e2).1
            have sb := SetBlock.obj hb (.map (ents.eraseIdxIfInBounds j) c)
            have hset : eraG k es = es.eraseIdx j := by simp [eraG, e1]
            obtain ⟨q1, q2⟩ := H.set (o := .gmap g' c (eraG k es)) hr hmut sb (by rw [hset]; exact ⟨E'.nodup, _, sb.here, E'.size, E'.get⟩)
            refine ⟨_, ?_, q1, q2⟩
            simp [Builtin.delete_, hts, run_underlying ht, run_getObj_map hb, L.check w _ k hk, e7, run_setObj hb]
        · cases hi
      · cases hi
  · cases hi

theorem run_iRangeG (H : HRel P ρ h w) {t : TypeId} {g : GKind} {x x' v : Value} {h' : Heap} (hg : gkOf P t = some g) (hi : iRangeG h x = some (v, h')) (hx : VRel ρ x x') :
    ∃ w' ρ' v', (Instr.range t x').run P w = .ok v' w' ∧ VRel ρ' v v' ∧ HRel P ρ' h' w' ∧ Tr ρ h w ρ' h' w' := by
  obtain ⟨kt, et, ht, L⟩ := glaw_of hg
  unfold iRangeG at hi
  split at hi
  · rename_i i
    cases hx with
    | map hr =>
      rename_i r
      split at hi
      · rename_i g' c es he
        simp at hi
        obtain ⟨rfl, rfl⟩ := hi
        obtain ⟨ents, hb, E⟩ := H.entsG hr he
        have nb := NewBlock.alloc w (.mapIter (some r.blk) c #[] c)
        have hne : i ≠ h.length := by
          have := (List.getElem?_eq_some_iff.1 he).1
          omega
        obtain ⟨q1, q2⟩ := H.new (h₀ := h) (o := .iter i c [] c) (r := ⟨w.heap.size, 0, 0, P.cellsOf 0, 0⟩) nb rfl rfl rfl (fun _ => .inl rfl)
          ⟨rfl, r, by simp [RMap.add, hne, hr], nb.new⟩
        refine ⟨_, _, .pointer (some ⟨w.heap.size, 0, none⟩), ?_, ?_, q1, q2⟩
        · simp [Instr.range, run_underlying ht, run_getObj_map hb, newObj, Sem.run, Result.andThen]
        · exact VRel.ptr (o := 0) (add_self _ _ _)
      · cases hi
  · cases hi

theorem Done.val {v v' : Value} {h' : Heap} {s : Result Next} {w' : World} {ρ' : RMap} (e : s = .ok (.value v') w') (a : VRel ρ' v v') (b : HRel P ρ' h' w') (c : Tr ρ h w ρ' h' w') : Done P ρ h w v h' s :=
  ⟨_, _, _, _, e, .inl rfl, a, b, c⟩
theorem Done.skip {h' : Heap} {s : Result Next} {w' : World} (e : s = .ok .skip w') (b : HRel P ρ h' w') (c : Tr ρ h w ρ h' w') : Done P ρ h w undef h' s :=
  ⟨_, _, _, _, e, .inr ⟨rfl, rfl⟩, VRel.undef _, b, c⟩

theorem eff_sound {o : Oper} {eo : EOp} {g g' : Operand → Value} (hc : compE P o.op = some eo) (hok : o.op.operands.all opdOk = true) (H : HRel P ρ h w)
    (hg : ∀ x, opdOk x = true → VRel ρ (g x) (g' x)) {v : Value} {h' : Heap} (hi : ieff eo g h = some (v, h')) : Done P ρ h w v h' ((execOp g' o).run P w) := by
  cases ho : o.op with
  | store t a x =>
    rw [ho] at hc hok
    simp [Op.operands] at hok
    simp only [compE] at hc
    split at hc
    · rename_i hk
      simp at hc; subst hc
      simp only [ieff, Option.map_eq_some_iff, Prod.mk.injEq] at hi
      obtain ⟨h'', hi, rfl, rfl⟩ := hi
      obtain ⟨w', q1, q2, q3⟩ := run_iStore H hk hi (hg a hok.1) (hg x hok.2)
      exact Done.skip (w' := w') (by simp [execOp, ho, q1]) q2 q3
    · cases hc
  | box e x =>
    rw [ho] at hc hok
    simp [Op.operands] at hok
    simp [compE] at hc; subst hc
    obtain ⟨w', ρ', v', q1, q2, q3, q4⟩ := run_iBox H hi (hg x hok)
    exact Done.val (v' := v') (w' := w') (by simp [execOp, ho, q1]) q2 q3 q4
  | alloc e =>
    rw [ho] at hc
    simp only [compE, Option.map_eq_some_iff] at hc
    obtain ⟨zs, hz, rfl⟩ := hc
    simp [ieff] at hi
    obtain ⟨rfl, rfl⟩ := hi
    obtain ⟨w', ρ', v', q1, q2, q3, q4⟩ := run_iAlloc H hz
    exact Done.val (v' := v') (w' := w') (by simp [execOp, ho, q1]) q2 q3 q4
  | buildSlice t n ps =>
    rw [ho] at hc hok
    simp only [compE] at hc
    simp only [Op.operands] at hok
    split at hc
    · rename_i e ht
      split at hc
      · rename_i zs hz
        split at hc
        · rename_i hb
          simp at hc; subst hc
          have hq : ∀ q ∈ ps.toList, opdOk q.2 = true := by
            intro q hm
            rw [Array.all_eq_true'] at hok
            exact hok q.2 (by simp; exact ⟨q.1, by simpa using hm⟩)
          have hp := partsRel_total hg (fun i => (i * P.cellsOf e, P.cellsOf e)) ps.toList hq
          obtain ⟨w', ρ', v', q1, q2, q3, q4⟩ := run_iMkSl H ht hz hb.1 hb.2 (qs := ps.map fun (i, x) => (i, g' x)) (by simpa using hp) hi
          exact Done.val (v' := v') (w' := w') (by simp [execOp, ho, q1]) q2 q3 q4
        · cases hc
      · cases hc
    · cases hc
  | makeSlice t l c =>
    rw [ho] at hc hok
    simp [Op.operands] at hok
    simp only [compE] at hc
    split at hc
    · rename_i e ht
      split at hc
      · rename_i zs hz
        simp at hc; subst hc
        obtain ⟨w', ρ', v', q1, q2, q3, q4⟩ := run_iMake H ht hz hi (hg l hok.1) (hg c hok.2)
        exact Done.val (v' := v') (w' := w') (by simp [execOp, ho, q1]) q2 q3 q4
      · cases hc
    · cases hc
  | range t x =>
    rw [ho] at hc hok
    simp [Op.operands] at hok
    simp only [compE, Option.map_eq_some_iff] at hc
    obtain ⟨g, hgk, rfl⟩ := hc
    obtain ⟨w', ρ', v', q1, q2, q3, q4⟩ := run_iRangeG H hgk hi (hg x hok)
    exact Done.val (v' := v') (w' := w') (by simp [execOp, ho, q1]) q2 q3 q4
  | next it b =>
    rw [ho] at hc
    cases b with
    | false => simp [compE] at hc; subst hc; simp [ieff] at hi
    | true => simp [compE] at hc
  | makeMap t r =>
    rw [ho] at hc
    cases r with
    | none =>
      cases hgk : gkOf P t with
      | some g =>
        simp only [compE, hgk, Option.some.injEq] at hc
        subst hc
        simp [ieff] at hi
        obtain ⟨rfl, rfl⟩ := hi
        obtain ⟨w', ρ', v', q1, q2, q3, q4⟩ := run_iMkMapG H t g
        exact Done.val (v' := v') (w' := w') (by simp [execOp, ho, q1]) q2 q3 q4
      | none =>
      have two : eo = .mkMap ∨ ∃ kd, eo = .mkMapI kd := by
        simp only [compE, hgk] at hc
        split at hc
        · split at hc
          · simp at hc; exact .inr ⟨_, hc.symm⟩
          · simp at hc; exact .inl hc.symm
        · simp at hc; exact .inl hc.symm
      rcases two with rfl | ⟨kd, rfl⟩
      · simp [ieff] at hi
        obtain ⟨rfl, rfl⟩ := hi
        obtain ⟨w', ρ', v', q1, q2, q3, q4⟩ := run_iMkMap H t
        exact Done.val (v' := v') (w' := w') (by simp [execOp, ho, q1]) q2 q3 q4
      · simp [ieff] at hi
        obtain ⟨rfl, rfl⟩ := hi
        obtain ⟨w', ρ', v', q1, q2, q3, q4⟩ := run_iMkMapI H t kd
        exact Done.val (v' := v') (w' := w') (by simp [execOp, ho, q1]) q2 q3 q4
    | some r => simp [compE] at hc
  | mapUpdate t m k x =>
    rw [ho] at hc hok
    simp [Op.operands] at hok
    simp only [compE] at hc
    split at hc
    · rename_i g hgk
      simp at hc; subst hc
      simp only [ieff, Option.map_eq_some_iff, Prod.mk.injEq] at hi
      obtain ⟨h'', hi, rfl, rfl⟩ := hi
      obtain ⟨w', q1, q2, q3⟩ := run_iMupdG H hgk hi (hg m hok.1) (hg k hok.2.1) (hg x hok.2.2)
      exact Done.skip (w' := w') (by simp [execOp, ho, q1]) q2 q3
    split at hc
    · rename_i kt et ht
      split at hc
      · rename_i hk
        simp at hc; subst hc
        simp only [ieff, Option.map_eq_some_iff, Prod.mk.injEq] at hi
        obtain ⟨h'', hi, rfl, rfl⟩ := hi
        obtain ⟨w', q1, q2, q3⟩ := run_iMupd H ht hk hi (hg m hok.1) (hg k hok.2.1) (hg x hok.2.2)
        exact Done.skip (w' := w') (by simp [execOp, ho, q1]) q2 q3
      · simp only [Option.map_eq_some_iff] at hc
        obtain ⟨kd, hkd, rfl⟩ := hc
        simp only [ieff, Option.map_eq_some_iff, Prod.mk.injEq] at hi
        obtain ⟨h'', hi, rfl, rfl⟩ := hi
        obtain ⟨w', q1, q2, q3⟩ := run_iMupdI H ht hkd hi (hg m hok.1) (hg k hok.2.1) (hg x hok.2.2)
        exact Done.skip (w' := w') (by simp [execOp, ho, q1]) q2 q3
    · cases hc
  | insert t m k x =>
    rw [ho] at hc hok
    simp [Op.operands] at hok
    simp only [compE] at hc
    split at hc
    · rename_i g hgk
      simp at hc; subst hc
      simp only [ieff, Option.map_eq_some_iff, Prod.mk.injEq] at hi
      obtain ⟨h'', hi, rfl, rfl⟩ := hi
      obtain ⟨w', q1, q2, q3⟩ := run_iMupdG H hgk hi (hg m hok.1) (hg k hok.2.1) (hg x hok.2.2)
      exact Done.skip (w' := w') (by simp [execOp, ho, q1]) q2 q3
    split at hc
    · rename_i kt et ht
      split at hc
      · rename_i hk
        simp at hc; subst hc
        simp only [ieff, Option.map_eq_some_iff, Prod.mk.injEq] at hi
        obtain ⟨h'', hi, rfl, rfl⟩ := hi
        obtain ⟨w', q1, q2, q3⟩ := run_iMupd H ht hk hi (hg m hok.1) (hg k hok.2.1) (hg x hok.2.2)
        exact Done.skip (w' := w') (by simp [execOp, ho, q1]) q2 q3
      · simp only [Option.map_eq_some_iff] at hc
        obtain ⟨kd, hkd, rfl⟩ := hc
        simp only [ieff, Option.map_eq_some_iff, Prod.mk.injEq] at hi
        obtain ⟨h'', hi, rfl, rfl⟩ := hi
        obtain ⟨w', q1, q2, q3⟩ := run_iMupdI H ht hkd hi (hg m hok.1) (hg k hok.2.1) (hg x hok.2.2)
        exact Done.skip (w' := w') (by simp [execOp, ho, q1]) q2 q3
    · cases hc
  | call c =>
    rw [ho] at hc hok
    obtain ⟨callee, args, argTypes⟩ := c
    cases callee with
    | builtin b =>
      cases b with
      | append =>
        simp only [compE] at hc
        split at hc
        · rename_i s x t t' hx ht0
          obtain rfl : args = #[s, x] := Array.ext' hx
          obtain rfl : argTypes = #[t, t'] := Array.ext' ht0
          simp [Op.operands, Call.operands] at hok
          split at hc
          · rename_i hte
            subst hte
            split at hc
            · rename_i e ht
              split at hc
              · rename_i zs hz
                simp at hc; subst hc
                obtain ⟨w', ρ', v', q1, q2, q3, q4⟩ := run_iApp (type := o.type) H ht hz hi (hg s hok.1) (hg x hok.2)
                exact Done.val (v' := v') (w' := w') (by simp [execOp, ho, resolve, invoke, builtin, q1]) q2 q3 q4
              · cases hc
            · cases hc
          · cases hc
        · cases hc
      | delete =>
        simp only [compE] at hc
        split at hc
        · rename_i m k t hx ht0
          obtain rfl : args = #[m, k] := Array.ext' hx
          simp [Op.operands, Call.operands] at hok
          simp only [Option.map_eq_some_iff] at hc
          obtain ⟨g, hgk, rfl⟩ := hc
          simp only [ieff, Option.map_eq_some_iff, Prod.mk.injEq] at hi
          obtain ⟨h'', hi, rfl, rfl⟩ := hi
          obtain ⟨w', q1, q2, q3⟩ := run_iDelG (ty := o.type) H ht0 hgk hi (hg m hok.1) (hg k hok.2)
          exact Done.val (v' := .tuple #[]) (w' := w') (by simp [execOp, ho, resolve, invoke, builtin, q1]) (VRel.undef _) q2 q3
        · cases hc
      | _ => simp [compE] at hc
    | _ => simp [compE] at hc
  | panic x => rw [ho] at hc; simp [compE] at hc; subst hc; simp [ieff] at hi
  | makeInterface t x => rw [ho] at hc; simp [compE] at hc; subst hc; simp [ieff] at hi
  | _ => rw [ho] at hc; simp [compE] at hc

end
end Go.Sim

/-
  The ideal machine: code without open orders.
-/
namespace Go.Sim

inductive IOp where
  | p (o : POp)
  | l (o : LOp)
  | e (o : EOp)
  | call (f : FuncId) (args : List Operand)
  | callv (x : Operand) (args : List Operand)

structure IOper where
  dst : Option Nat
  op : IOp
  guard : Option (Nat × Bool)

/-- An operation of a group: its guard is the group's. -/
structure GOper where
  dst : Option Nat
  op : IOp

/-- An operation of a region whose order is open; 'pre': the operations that come before it in every order. -/
structure DOper where
  op : IOper
  pre : Nat

structure GDOper where
  dst : Option Nat
  op : IOp
  pre : Nat

inductive ICode where
  | skip
  | dops (l : List (Option (Nat × Bool) × List GDOper))
  | ops (g : Option (Nat × Bool)) (l : List GOper)
  | seq (a b : ICode)
  | cut (ls : List Nat) (c : ICode)
  | cond (c : Operand) (a b : ICode)
  | block (id : Nat) (c : ICode)
  | loop (ks ls : List Nat) (c : ICode)
  | exit (id : Nat)
  | ret
  | range (g : Operand) (ls : List Nat) (c : LoopC)

/-- A fence that is wide, in a round or out of one. -/
abbrev FR (R : Option Nat) : Fence := { Fence.wide with round := R }

/-- A call in the ideal machine: whatever the model's state that is related, the model's call returns in a related state. -/
def ICall (P : Program) (F : FuncId) (args : List Value) (h : Heap) (v : Value) (h' : Heap) : Prop :=
  ∀ (ρ : RMap) (args' : Array Value) (w : World), VsRel ρ args args'.toList → HRel P ρ h w →
    Calls P F args' w fun e w' => ∃ v' ρ', e = .returned v' ∧ VRel ρ' v v' ∧ HRel P ρ' h' w' ∧ Tr ρ h w ρ' h' w'

def icall (P : Program) (F : FuncId) (args : List Value) (h : Heap) (K : Value → Heap → Prop) : Prop := ∃ v h', ICall P F args h v h' ∧ K v h'

theorem icall.mono {P : Program} {F : FuncId} {args : List Value} {h : Heap} {K K' : Value → Heap → Prop} (hc : icall P F args h K) (hk : ∀ v h', K v h' → K' v h') : icall P F args h K' :=
  let ⟨v, h', a, b⟩ := hc; ⟨v, h', a, hk v h' b⟩

/-- A round of a range over a function, as yield's caller sees it. -/
def IYield (P : Program) (i : Nat) (args : List Value) (h : Heap) (v : Value) (h' : Heap) : Prop :=
  ∀ (ρ : RMap) (r : RI) (args' : Array Value) (w : World), ρ i = some r → VsRel ρ args args'.toList → HRel P ρ h w →
    ∃ fn tmps asg body, (Instr.yield r.blk args').run P w = .ok (.round r.blk fn tmps asg body) w ∧
      RoundIn Fence.wide 0 P r.blk fn tmps asg body w fun e w' => ∃ v' ρ', e = .returned v' ∧ VRel ρ' v v' ∧ HRel P ρ' h' w' ∧ Tr ρ h w ρ' h' w'

def iyield (P : Program) (i : Nat) (args : List Value) (h : Heap) (K : Value → Heap → Prop) : Prop := ∃ v h', IYield P i args h v h' ∧ K v h'

theorem iyield.mono {P : Program} {i : Nat} {args : List Value} {h : Heap} {K K' : Value → Heap → Prop} (hc : iyield P i args h K) (hk : ∀ v h', K v h' → K' v h') : iyield P i args h K' :=
  let ⟨v, h', a, b⟩ := hc; ⟨v, h', a, hk v h' b⟩

/-- A function that can be called: it has a body. -/
def callOk (P : Program) (f : FuncId) : Bool :=
  match P.funcs[f]? with
  | some fn => fn.name != "runtime.NumGoroutine" && fn.body.isSome
  | none => false

def oletP (o : Option Value) (K : Value → Prop) : Prop :=
  match o with
  | some v => K v
  | none => False

def oletH (o : Option (Value × Heap)) (K : Value → Heap → Prop) : Prop :=
  match o with
  | some (v, h') => K v h'
  | none => False

def callV (P : Program) (x : Value) (args : List Value) (h : Heap) (K : Value → Heap → Prop) : Prop :=
  match x with
  | .func (.func g) first cap => callOk P g = true ∧ icall P g (first.toList ++ args ++ cap.toList) h K
  | .func (.yield i) first cap => (first = #[] ∧ cap = #[]) ∧ iyield P i args h K
  | _ => False

/-- A range over a function: the iterator is called, the loop being an object. -/
def rangeK (P : Program) (g : Value) (ls : List Nat) (vs : List Value) (c : LoopC) (h : Heap) (K : Heap → Prop) : Prop :=
  match g with
  | .func (.func F) first cap => callOk P F = true ∧ icall P F (first.toList ++ [.func (.yield h.length) #[] #[]] ++ cap.toList) (h ++ [.loop c ls vs]) fun _ h' =>
      (∃ c' ls' vs', h'[h.length]? = some (.loop c' ls' vs')) ∧ K (h'.set h.length .dead)
  | _ => False

def stepK (P : Program) (o : IOp) (f : Nat → Value) (h : Heap) (K : Value → Heap → Prop) : Prop :=
  match o with
  | .p o => oletP (ipure o (ev f)) fun v => K v h
  | .l o => oletP (iload o (ev f) h) fun v => K v h
  | .e o => oletH (ieff o (ev f) h) K
  | .call g args => icall P g (args.map (ev f)) h K
  | .callv x args => callV P (ev f x) (args.map (ev f)) h K

def isB (v : Value) (b : Bool) : Bool :=
  match v with
  | .bool c => c == b
  | _ => false

def isBot : Value → Bool
  | .complex _ _ _ => true
  | _ => false

def wantB (g : Option (Nat × Bool)) (f : Nat → Value) : Bool :=
  match g with
  | none => true
  | some (s, b) => isB (f s) b

/-- A guard: the slot must be known. -/
def guardK (v : Value) (b : Bool) (A B : Prop) : Prop :=
  match v with
  | .bool c => if (c == b) = true then A else B
  | .complex _ _ _ => False
  | _ => B

def updO (f : Nat → Value) (d : Option Nat) (v : Value) : Nat → Value :=
  match d with
  | some d => upd f d v
  | none => f

/-- Operations one by one, each with its guard. -/
def iops (P : Program) : List IOper → ((Nat → Value) → Heap → Prop) → (Nat → Value) → Heap → Prop
  | [], K, f, h => K f h
  | o :: os, K, f, h =>
    match o.guard with
    | none => stepK P o.op f h fun v h' => iops P os K (updO f o.dst v) h'
    | some (s, b) => guardK (f s) b (stepK P o.op f h fun v h' => iops P os K (updO f o.dst v) h') (iops P os K (updO f o.dst undef) h)

/-- A group of operations. -/
def gops (P : Program) : List GOper → ((Nat → Value) → Heap → Prop) → (Nat → Value) → Heap → Prop
  | [], K, f, h => K f h
  | o :: os, K, f, h => stepK P o.op f h fun v h' => gops P os K (updO f o.dst v) h'

def undefs : List GOper → (Nat → Value) → (Nat → Value)
  | [], f => f
  | o :: os, f => undefs os (updO f o.dst undef)

def opsK (P : Program) (g : Option (Nat × Bool)) (l : List GOper) (K : (Nat → Value) → Heap → Prop) (f : Nat → Value) (h : Heap) : Prop :=
  match g with
  | none => gops P l K f h
  | some (s, b) => guardK (f s) b (gops P l K f h) (K (undefs l f) h)

def IOp.isE : IOp → Bool
  | .p _ => false
  | .l _ => false
  | _ => true

abbrev Loads := List (Nat × LOp × (Nat → Value) × Value)

def chkPast (pre : Nat) (lo : LOp) (f : Nat → Value) (v : Value) : List (Nat × Heap) → Prop
  | [] => True
  | (e, H) :: r => if pre.testBit e = true then chkPast pre lo f v r else iload lo (ev f) H = some v ∧ chkPast pre lo f v r

def chkFut (pre : Nat) (H : Heap) : Loads → Prop
  | [] => True
  | (j, lo, f, v) :: r => if pre.testBit j = true then chkFut pre H r else iload lo (ev f) H = some v ∧ chkFut pre H r

def dwant (P : Program) (io : IOp) (pre j : Nat) (heaps : List (Nat × Heap)) (loads : Loads) (f : Nat → Value) (h : Heap) (next : List (Nat × Heap) → Loads → Value → Heap → Prop) : Prop :=
  match io with
  | .p po => oletP (ipure po (ev f)) fun v => next heaps loads v h
  | .l lo => oletP (iload lo (ev f) h) fun v => chkPast pre lo f v heaps ∧ next heaps (loads ++ [(j, lo, f, v)]) v h
  | .e (.fl a) => oletH (ieff (.fl a) (ev f) h) fun v h' => oletP (iObj h' v) fun u => chkFut pre h' loads ∧ next (heaps ++ [(j, h)]) (loads ++ [(j, .obj (.const v), f, u)]) v h'
  | .e eo => oletH (ieff eo (ev f) h) fun v h' => chkFut pre h' loads ∧ next (heaps ++ [(j, h)]) loads v h'
  | .call g args => icall P g (args.map (ev f)) h fun v h' => chkFut pre h' loads ∧ next (heaps ++ [(j, h)]) loads v h'
  | .callv x args => callV P (ev f x) (args.map (ev f)) h fun v h' => chkFut pre h' loads ∧ next (heaps ++ [(j, h)]) loads v h'

def dskip (io : IOp) (pre j : Nat) (heaps : List (Nat × Heap)) (loads : Loads) (h : Heap) (next : List (Nat × Heap) → Loads → Value → Heap → Prop) : Prop :=
  match io.isE with
  | false => next heaps loads undef h
  | true => chkFut pre h loads ∧ next (heaps ++ [(j, h)]) loads undef h

/-- A region whose order is open: in the text's order, and what is read must be the same at every stage at which it may be read. -/
def idops (P : Program) : List DOper → Nat → List (Nat × Heap) → Loads → ((Nat → Value) → Heap → Prop) → (Nat → Value) → Heap → Prop
  | [], _, _, _, K, f, h => K f h
  | o :: os, j, heaps, loads, K, f, h =>
    match o.op.guard with
    | none => dwant P o.op.op o.pre j heaps loads f h fun heaps loads v h' => idops P os (j + 1) heaps loads K (updO f o.op.dst v) h'
    | some (s, b) =>
      guardK (f s) b (dwant P o.op.op o.pre j heaps loads f h fun heaps loads v h' => idops P os (j + 1) heaps loads K (updO f o.op.dst v) h')
        (dskip o.op.op o.pre j heaps loads h fun heaps loads v h' => idops P os (j + 1) heaps loads K (updO f o.op.dst v) h')

/-- The same in groups. -/
def gdrun (P : Program) : List GDOper → Nat → List (Nat × Heap) → Loads → (List (Nat × Heap) → Loads → (Nat → Value) → Heap → Prop) → (Nat → Value) → Heap → Prop
  | [], _, heaps, loads, K, f, h => K heaps loads f h
  | o :: os, j, heaps, loads, K, f, h => dwant P o.op o.pre j heaps loads f h fun heaps loads v h' => gdrun P os (j + 1) heaps loads K (updO f o.dst v) h'

def gdskip : List GDOper → Nat → List (Nat × Heap) → Loads → (List (Nat × Heap) → Loads → (Nat → Value) → Heap → Prop) → (Nat → Value) → Heap → Prop
  | [], _, heaps, loads, K, f, h => K heaps loads f h
  | o :: os, j, heaps, loads, K, f, h => dskip o.op o.pre j heaps loads h fun heaps loads v h' => gdskip os (j + 1) heaps loads K (updO f o.dst v) h'

def gdops (P : Program) : List (Option (Nat × Bool) × List GDOper) → Nat → List (Nat × Heap) → Loads → ((Nat → Value) → Heap → Prop) → (Nat → Value) → Heap → Prop
  | [], _, _, _, K, f, h => K f h
  | (none, l) :: gs, j, heaps, loads, K, f, h => gdrun P l j heaps loads (fun heaps loads f h => gdops P gs (j + l.length) heaps loads K f h) f h
  | (some (s, b), l) :: gs, j, heaps, loads, K, f, h =>
    guardK (f s) b (gdrun P l j heaps loads (fun heaps loads f h => gdops P gs (j + l.length) heaps loads K f h) f h)
      (gdskip l j heaps loads (fun heaps loads f h => gdops P gs (j + l.length) heaps loads K f h) f h)

def thenK (next : (Nat → Value) → Heap → Prop) (K : Exit → (Nat → Value) → Heap → Prop) : Exit → (Nat → Value) → Heap → Prop
  | .normal, f, h => next f h
  | e, f, h => K e f h

def inBlockK (id : Nat) (K : Exit → (Nat → Value) → Heap → Prop) : Exit → (Nat → Value) → Heap → Prop
  | .exit i, f, h => if i = id then K .normal f h else K (.exit i) f h
  | e, f, h => K e f h

def condK (c : Value) (a b : Prop) : Prop :=
  match c with
  | .bool t => if t = true then a else b
  | _ => False

/-- What is known of a frame is cut down. -/
def cutK (Q : (Nat → Value) → Heap → Prop) (ls : List Nat) (vs : List Value) (h : Heap) : Prop := Q (ofl ls vs) h

/-- A loop: an invariant of the slots that change, and a measure. -/
def loopK (init : List Value) (h : Heap) (Q : (List Value → Heap → Prop) → List Value → Heap → Prop) : Prop :=
  ∃ (J : List Value → Heap → Prop) (μ : List Value → Heap → Nat), J init h ∧ ∀ (xs : List Value) (hx : Heap), J xs hx → Q (fun ys hy => J ys hy ∧ μ ys hy < μ xs hx) xs hx

abbrev Kont := Exit → (Nat → Value) → Heap → Prop

noncomputable def iwp (P : Program) (c : ICode) : Kont → (Nat → Value) → Heap → Prop :=
  ICode.rec (motive := fun _ => Kont → (Nat → Value) → Heap → Prop)
    (fun K f h => K .normal f h)
    (fun l K f h => gdops P l 0 [] [] (K .normal) f h)
    (fun g l K f h => opsK P g l (K .normal) f h)
    (fun _ _ ia ib K f h => ia (thenK (ib K) K) f h)
    (fun ls _ ic K f h => cutK (ic K) ls (ls.map f) h)
    (fun c _ _ ia ib K f h => condK (ev f c) (ia K f h) (ib K f h))
    (fun id _ ic K f h => ic (inBlockK id K) f h)
    (fun ks ls _ ic K f h => loopK (ls.map f) h fun L xs hx => ic (thenK (fun f' h'' => ks.map f' = ks.map f ∧ L (ls.map f') h'') K) (ofl (ks ++ ls) (ks.map f ++ xs)) hx)
    (fun id K f h => K (.exit id) f h)
    (fun K f h => K .ret f h)
    (fun g ls c K f h => rangeK P (ev f g) ls (ls.map f) c h (K .normal f)) c

theorem iwp_cond {P : Program} {c : Operand} {a b : ICode} {K : Kont} {f : Nat → Value} {h : Heap} : iwp P (.cond c a b) K f h = condK (ev f c) (iwp P a K f h) (iwp P b K f h) := rfl

def compOp (P : Program) (op : Op) : Option IOp :=
  match compP P op with
  | some o => some (.p o)
  | none => match compL P op with
    | some o => some (.l o)
    | none => match compE P op with
      | some o => some (.e o)
      | none => match op with
        | .call { callee := .value (.func f), args, .. } => if callOk P f then some (.call f args.toList) else none
        | .call { callee := .value x, args, .. } => some (.callv x args.toList)
        | _ => none

def compGuard (N : Nat) (ops : Array Oper) : Option (Nat × Bool) → Option (Option (Nat × Bool))
  | none => some none
  | some (j, b) => match (ops[j]?).bind (·.dst) with
    | some s => if s < N then some (some (s, b)) else none
    | none => none

def compOper (P : Program) (N : Nat) (ops : Array Oper) (o : Oper) : Option IOper :=
  if o.op.operands.all opdOk && o.dst.all (· < N) then
    match compOp P o.op, compGuard N ops o.guard with
    | some op, some g => some ⟨o.dst, op, g⟩
    | _, _ => none
  else none

def compList (P : Program) (N : Nat) (ops : Array Oper) : List Oper → Option (List IOper)
  | [] => some []
  | o :: os => match compOper P N ops o, compList P N ops os with
    | some x, some xs => some (x :: xs)
    | _, _ => none

def POp.opds : POp → List Operand
  | .mv x | .un _ x | .conv _ x | .sid x | .lenS x | .lenSl x | .fadr _ x | .fld _ _ _ x | .nilck x | .ext x _ => [x]
  | .pick c a b => [c, a, b]
  | .bin _ x y | .eqb _ x y | .eqnil _ x y | .idxS x y | .idxA _ _ _ x y | .adrSl _ x y | .adrArr _ _ x y => [x, y]
  | .lenArr _ => []
  | .minmax _ xs => xs
  | .slS x lo hi => x :: (lo.toList ++ hi.toList)
  | .slSl _ _ x lo hi => x :: (lo.toList ++ hi.toList)
  | .fn _ first captured => first ++ captured
  | .build _ parts => parts.map (·.2.2)
  | .idxB f x c => [.func f, x, c]

def LOp.opds : LOp → List Operand
  | .load _ _ a => [a]
  | .b2s x => [x]
  | .lookup _ _ m k => [m, k]
  | .lookupI _ _ _ m k => [m, k]
  | .lookupG _ _ _ m k => [m, k]
  | .entry it => [it]
  | .obj x => [x]

def AOp.opds : AOp → List Operand
  | .alloc _ _ => []
  | .mkSl _ _ _ parts => parts.map (·.2.2)
  | .make _ _ _ l c => [l, c]
  | .mkMapG _ => []

def EOp.opds : EOp → List Operand
  | .fl a => a.opds
  | .store _ a v => [a, v]
  | .box _ x => [x]
  | .alloc _ _ => []
  | .mkSl _ _ _ parts => parts.map (·.2.2)
  | .make _ _ _ l c => [l, c]
  | .app _ _ _ s x => [s, x]
  | .mkMap => []
  | .mkMapI _ => []
  | .die => []
  | .mkMapG _ => []
  | .mupdG _ m k v => [m, k, v]
  | .delG _ m k => [m, k]
  | .rangeG x => [x]
  | .next it => [it]
  | .mupdI _ m k v => [m, k, v]
  | .mupd m k v => [m, k, v]

def IOp.opds : IOp → List Operand
  | .p o => o.opds
  | .l o => o.opds
  | .e o => o.opds
  | .call _ args => args
  | .callv x args => x :: args

def tmpsOf : List Operand → List Nat
  | [] => []
  | .tmp t :: xs => t :: tmpsOf xs
  | _ :: xs => tmpsOf xs

/-- The slots that an operation reads. -/
def IOper.reads (o : IOper) : List Nat := (match o.guard with | some (s, _) => [s] | none => []) ++ tmpsOf o.op.opds

/-- The operations that come before: a mask of bits, by the masks of those before. -/
def preOf (pres : List Nat) : List Nat → Nat
  | [] => 0
  | e :: es => (2 ^ e ||| pres.getD e 0) ||| preOf pres es

def calcPre : List (List Nat) → List Nat → List Nat
  | [], acc => acc
  | es :: r, acc => calcPre r (acc ++ [preOf acc es])

def touches (o : DOper) (t : Nat) : Bool := o.op.dst == some t || o.op.reads.contains t

/-- Whoever touches a slot that another one writes comes before it, or behind it, in every order; those that write memory come one behind the other in every order. -/
def pairOk (oj : DOper) (j : Nat) (oi : DOper) (i : Nat) : Bool :=
  (i == j || (match oi.op.dst with
    | none => true
    | some t => !touches oj t || (if i < j then oj.pre.testBit i else oi.pre.testBit j))) &&
  (!(decide (i < j) && oi.op.op.isE && oj.op.op.isE) || oj.pre.testBit i)

def pairsOk (l : List DOper) : Bool := l.zipIdx.all fun (oj, j) => l.zipIdx.all fun (oi, i) => pairOk oj j oi i

/-- The operations that must come before. -/
def edgesOf (o : Oper) : List Nat := o.after.toList.filterMap fun e => if Region.binds .any e then some e.on else none

/-- The edges go backward. -/
def backOk (ops : List Oper) : Nat → Bool
  | i => match ops with
    | [] => true
    | o :: os => (edgesOf o).all (· < i) && backOk os (i + 1)

def zipD : List IOper → List Nat → List DOper
  | o :: os, p :: ps => ⟨o, p⟩ :: zipD os ps
  | _, _ => []

def compD (P : Program) (N : Nat) (ops : Array Oper) : Option (List DOper) :=
  match compList P N ops ops.toList with
  | some ios =>
    if P.follows .mixedOrders && backOk ops.toList 0 && pairsOk (zipD ios (calcPre (ops.toList.map edgesOf) [])) then some (zipD ios (calcPre (ops.toList.map edgesOf) [])) else none
  | none => none

/-! ### What makes new objects may come at any time -/

def isFl (o : DOper) : Bool := match o.op.op with | .e (.fl _) => true | _ => false

def floatsOf (l : List DOper) : List Nat :=
  l.zipIdx.filterMap fun (oi, i) =>
    if (match oi.op.op with | .e eo => eo.toA.isSome | _ => false) && oi.op.guard.isNone && (l.zipIdx.any fun (oj, j) => j != i && oj.op.op.isE && !(oi.pre.testBit j) && !(oj.pre.testBit i)) then some i else none

def flagF (o : IOper) : IOper :=
  match o.op, o.guard with
  | .e eo, none => match eo.toA with | some a => ⟨o.dst, .e (.fl a), none⟩ | none => o
  | _, _ => o

def maskOf (pre : Nat) : List Nat → Nat → Nat
  | [], _ => 0
  | i :: is, q => (if pre.testBit i then 2 ^ q else 0) ||| maskOf pre is (q + 1)

def permF (l : List DOper) (fl : List Nat) : List Nat :=
  let inD := fun i => fl.contains i || fl.any fun a => ((l[a]?).map fun o => o.pre.testBit i).getD false
  (List.range l.length).filter inD ++ (List.range l.length).filter fun i => !inD i

def laidF (l : List DOper) (fl perm : List Nat) : List DOper :=
  perm.filterMap fun i => (l[i]?).map fun o => ⟨if fl.contains i then flagF o.op else o.op, maskOf o.pre perm 0⟩

def distinctN : List Nat → Bool
  | [] => true
  | x :: xs => !(xs.contains x) && distinctN xs

/-- Effects that are ordered, but for those that only make new objects. -/
def pairOkF (oj : DOper) (j : Nat) (oi : DOper) (i : Nat) : Bool :=
  (i == j || (match oi.op.dst with
    | none => true
    | some t => !touches oj t || (if i < j then oj.pre.testBit i else oi.pre.testBit j))) &&
  (!(decide (i < j) && oi.op.op.isE && oj.op.op.isE && !(isFl oi) && !(isFl oj)) || oj.pre.testBit i)

/-- How many come first: those that make new objects, and what they need. -/
def headF (l : List DOper) : Nat := l.length - ((l.reverse.takeWhile fun o => !(isFl o)).length)

def okF (l : List DOper) (perm : List Nat) (pres : List Nat) : Bool :=
  l.length == pres.length && perm.length == pres.length && distinctN perm && perm.all (· < pres.length) &&
  (l.zipIdx.all fun (oj, j) => l.zipIdx.all fun (oi, i) => pairOkF oj j oi i) &&
  (l.zipIdx.all fun (o, q) => if q < headF l then !(o.op.op.isE) || isFl o else !(isFl o)) &&
  (l.zipIdx.all fun (o, q) => (List.range pres.length).all fun k => o.pre.testBit k == (pres.getD (perm.getD q 0) 0).testBit (perm.getD k 0)) &&
  (l.zipIdx.all fun (o, _) => !(isFl o) || o.op.guard.isNone)

def compF (P : Program) (N : Nat) (ops : Array Oper) : Option (List DOper × List Nat) :=
  match compList P N ops ops.toList with
  | some ios =>
    let pres := calcPre (ops.toList.map edgesOf) []
    let l := zipD ios pres
    let fl := floatsOf l
    let perm := permF l fl
    let l' := laidF l fl perm
    if P.follows .mixedOrders && backOk ops.toList 0 && okF l' perm pres then some (l', perm) else none
  | none => none

/-- A region whose order is open. -/
def compDF (P : Program) (N : Nat) (ops : Array Oper) : Option (List DOper) :=
  match compD P N ops with
  | some l => some l
  | none => (compF P N ops).map Prod.fst

/-- Operations with one guard, one behind the other, that leave its slot alone. -/
def groupsOf : List IOper → List (Option (Nat × Bool) × List GOper)
  | [] => []
  | o :: os => match groupsOf os with
    | (g, l) :: gs => if o.guard = g then (g, ⟨o.dst, o.op⟩ :: l) :: gs else (o.guard, [⟨o.dst, o.op⟩]) :: (g, l) :: gs
    | [] => [(o.guard, [⟨o.dst, o.op⟩])]

def leaves (g : Option (Nat × Bool)) (d : Option Nat) : Bool :=
  match g with
  | some (s, _) => d != some s
  | none => true

def dgroupsOf : List DOper → List (Option (Nat × Bool) × List GDOper)
  | [] => []
  | o :: os => match dgroupsOf os with
    | (g, l) :: gs => if o.op.guard = g then (g, ⟨o.op.dst, o.op.op, o.pre⟩ :: l) :: gs else (o.op.guard, [⟨o.op.dst, o.op.op, o.pre⟩]) :: (g, l) :: gs
    | [] => [(o.op.guard, [⟨o.op.dst, o.op.op, o.pre⟩])]

/-- Hints: where what is known of a frame is cut down, and to which slots. -/
abbrev Hints := List (List Nat)

/-- A hint that names no slot is none. -/
def cutO (ls : List Nat) (c : ICode) : ICode :=
  match ls with
  | [] => c
  | l :: ls => .cut (l :: ls) c

def rcode : List (Option (Nat × Bool) × List GOper) → Hints → ICode × Hints
  | [], hs => (.skip, hs)
  | (g, l) :: gs, hs =>
    match gs, hs with
    | [], hs => (.ops g l, hs)
    | gs, h :: hs => let r := rcode gs hs; (.seq (.ops g l) (cutO h r.1), r.2)
    | gs, [] => let r := rcode gs []; (.seq (.ops g l) r.1, r.2)

def compCode (P : Program) (N : Nat) : Code → Hints → Option (ICode × Hints)
  | .skip, hs => some (.skip, hs)
  | .region _ ops false, hs =>
    match compList P N ops ops.toList with
    | some l => if l.all fun o => leaves o.guard o.dst then some (rcode (groupsOf l) hs) else none
    | none => some (.ops none [⟨none, .e .die⟩], hs)
  | .region _ ops true, hs =>
    match compDF P N ops with
    | some l => if l.all fun o => leaves o.op.guard o.op.dst then some (.dops (dgroupsOf l), hs) else none
    | none => none
  | .seq a b, hs =>
    match compCode P N a hs with
    | some (x, h :: hs) => match compCode P N b hs with
      | some (y, hs) => some (.seq x (cutO h y), hs)
      | none => none
    | some (x, []) => match compCode P N b [] with
      | some (y, hs) => some (.seq x y, hs)
      | none => none
    | none => none
  | .cond c a b, hs => if opdOk c then match compCode P N a hs with
    | some (x, hs) => match compCode P N b hs with
      | some (y, hs) => some (.cond c x y, hs)
      | none => none
    | none => none
    else none
  | .block id c, hs => match compCode P N c hs with
    | some (x, hs) => some (.block id x, hs)
    | none => none
  | .loop c, hs =>
    match hs with
    | ks :: ls :: hs => match compCode P N c hs with
      | some (x, hs) => some (.loop ks ls x, hs)
      | none => none
    | _ => none
  | .exit id, hs => some (.exit id, hs)
  | .ret, hs => some (.ret, hs)
  | .rangeFunc g ps asg body, hs =>
    match hs with
    | ls :: hs => if opdOk g && ps.all (· < N) then some (.range g ls ⟨N, ps, asg, body⟩, hs) else none
    | [] => none
  | _, _ => none

/-- The first range over a function in a function's code. -/
def findRange (N : Nat) : Code → Option LoopC
  | .rangeFunc _ ps asg body => some ⟨N, ps, asg, body⟩
  | .seq a b => match findRange N a with | some x => some x | none => findRange N b
  | .cond _ a b => match findRange N a with | some x => some x | none => findRange N b
  | .block _ c => findRange N c
  | .loop c => findRange N c
  | _ => none

def loopOf (P : Program) (F : FuncId) : LoopC :=
  match P.funcs[F]? with
  | some fn => match fn.body with
    | some c => match findRange fn.ntmps c with
      | some x => x
      | none => ⟨0, #[], .skip, .skip⟩
    | none => ⟨0, #[], .skip, .skip⟩
  | none => ⟨0, #[], .skip, .skip⟩

/-- No range over a function. -/
def noRange : Code → Bool
  | .seq a b => noRange a && noRange b
  | .cond _ a b => noRange a && noRange b
  | .block _ c => noRange c
  | .loop c => noRange c
  | .rangeFunc .. => false
  | _ => true

section
variable {P : Program} {N : Nat}

def Post (P : Program) (N B : Nat) (ρ : RMap) (h : Heap) (w : World) (e : Exit) (f' : Nat → Value) (h' : Heap) : Exit → Act → World → Prop :=
  fun e' a' w' => e' = e ∧ ∃ ρ', Rel P N B ρ' f' h' a' w' ∧ Tr ρ h w ρ' h' w'

/-- What code comes to; 'out': it stands outside of all rounds. -/
def Run (P : Program) (N : Nat) (out : Bool) (c : Code) (f : Nat → Value) (h : Heap) (e : Exit) (f' : Nat → Value) (h' : Heap) : Prop :=
  ∀ R, (out = true → R = none) → ∀ B ρ a w, Rel P N B ρ f h a w → c.wpIn (FR R) 0 P (Post P N B ρ h w e f' h') a w

/-- One operation, whatever follows. -/
def OpStep (P : Program) (N : Nat) (o : Oper) (f : Nat → Value) (h : Heap) (v : Value) (h' : Heap) : Prop :=
  ∀ R B ρ a w, Rel P N B ρ f h a w → ∀ (next : Act → World → Prop) (Q : Exit → Act → World → Prop),
    (∀ ρ' v' w', VRel ρ' v v' → HRel P ρ' h' w' → Tr ρ h w ρ' h' w' → next (a.put o.dst v') w') → o.wpIn (FR R) 0 P a w next Q

theorem semAt_any {o : Oper} (hn : ∀ c, o.op ≠ .defer c) (R : Option Nat) (g : Operand → Value) : o.semAt R g = execOp g o := by
  cases R with
  | none => rfl
  | some l => exact Oper.semAt_some l g o hn

theorem wpIn_val {R : Option Nat} {o : Oper} {a : Act} {w w' : World} {next : Act → World → Prop} {Q : Exit → Act → World → Prop} {v : Value} (hn : ∀ c, o.op ≠ .defer c)
    (he : (execOp a.eval o).run P w = .ok (.value v) w') (hk : next (a.put o.dst v) w') : o.wpIn (FR R) 0 P a w next Q := by
  refine ⟨fun _ _ => trivial, ?_⟩
  rw [semAt_any hn, he, Oper.uponIn_value]
  exact hk

theorem wpIn_skip' {R : Option Nat} {o : Oper} {a : Act} {w w' : World} {next : Act → World → Prop} {Q : Exit → Act → World → Prop} (hn : ∀ c, o.op ≠ .defer c)
    (he : (execOp a.eval o).run P w = .ok .skip w') (hk : next (a.put o.dst undef) w') : o.wpIn (FR R) 0 P a w next Q := by
  refine ⟨fun _ _ => trivial, ?_⟩
  rw [semAt_any hn, he, Oper.uponIn_skip]
  exact hk

theorem calls_fr {f : FuncId} {args : Array Value} {w : World} {K : Ending → World → Prop} (h : Calls P f args w K) (R : Option Nat) (n : Nat) : CallsIn (FR R) n P f args w K := by
  cases R with
  | none => exact callsIn_wide.2 h
  | some l => exact (callsIn_wide (n := n)).2 h

theorem round_fr {l : Nat} {f : FuncId} {tmps : Array Value} {asg body : Code} {w : World} {K : Ending → World → Prop} (h : RoundIn Fence.wide 0 P l f tmps asg body w K) (R : Option Nat) :
    RoundIn (FR R) 0 P l f tmps asg body w K := h

theorem callFunc_ok {f : FuncId} (h : callOk P f = true) (args : Array Value) (w : World) : (callFunc f args).run P w = .ok (.enter f args) w := by
  unfold callOk at h
  split at h
  · rename_i fn hf
    simp only [Bool.and_eq_true, bne_iff_ne] at h
    obtain ⟨h1, h2⟩ := h
    have h3 : fn.body ≠ none := by
      intro hb
      simp [hb] at h2
    simp [callFunc, hf, h1, h3]
  · cases h

theorem opStep_enter {o : Oper} {f : Nat → Value} {h : Heap} {g : FuncId} {args : List Value} {v : Value} {h' : Heap} (hc : ICall P g args h v h')
    (hd : ∀ c, o.op ≠ .defer c)
    (he : ∀ B ρ a w, Rel P N B ρ f h a w → ∃ args' : Array Value, VsRel ρ args args'.toList ∧ (execOp a.eval o).run P w = .ok (.enter g args') w) : OpStep P N o f h v h' := by
  intro r B ρ a w R next Q hn
  obtain ⟨args', hv, hr⟩ := he B ρ a w R
  refine ⟨fun _ _ => trivial, ?_⟩
  rw [semAt_any hd, hr, Oper.uponIn_enter]
  refine ⟨fun h => (by cases h), ?_⟩
  refine (calls_fr (hc ρ args' w hv R.heap) r _).mono ?_
  rintro e w' ⟨v', ρ', rfl, h1, h2, h3⟩
  exact hn ρ' v' w' h1 h2 h3

theorem opStep_round {o : Oper} {f : Nat → Value} {h : Heap} {i : Nat} {args : List Value} {v : Value} {h' : Heap} (hc : IYield P i args h v h')
    (hd : ∀ c, o.op ≠ .defer c)
    (he : ∀ B ρ a w, Rel P N B ρ f h a w → ∃ (r : RI) (args' : Array Value), ρ i = some r ∧ VsRel ρ args args'.toList ∧ (execOp a.eval o).run P w = (Instr.yield r.blk args').run P w) : OpStep P N o f h v h' := by
  intro R' B ρ a w R next Q hn
  obtain ⟨r, args', hi, hv, hr⟩ := he B ρ a w R
  obtain ⟨fn, tmps, asg, body, e1, e2⟩ := hc ρ r args' w hi hv R.heap
  refine ⟨fun _ _ => trivial, ?_⟩
  rw [semAt_any hd, hr, e1, Oper.uponIn_round]
  refine ⟨fun h => (by cases h), ?_⟩
  refine (round_fr e2 R').mono ?_
  rintro e w' ⟨v', ρ', rfl, h1, h2, h3⟩
  exact hn ρ' v' w' h1 h2 h3

theorem compOp_nd {op : Op} {io : IOp} (h : compOp P op = some io) : ∀ c, op ≠ .defer c := by
  rintro c rfl
  simp [compOp, compP, compL, compE] at h

theorem compOp_inv {op : Op} {io : IOp} (h : compOp P op = some io) : (∃ o, io = .p o ∧ compP P op = some o) ∨ (∃ o, io = .l o ∧ compL P op = some o) ∨ (∃ o, io = .e o ∧ compE P op = some o) ∨
    (∃ f args at_, op = .call ⟨.value (.func f), args, at_⟩ ∧ callOk P f = true ∧ io = .call f args.toList) ∨ (∃ x args at_, op = .call ⟨.value x, args, at_⟩ ∧ io = .callv x args.toList) := by
  unfold compOp at h
  split at h
  · rename_i o ho; simp at h; exact .inl ⟨o, h.symm, ho⟩
  · split at h
    · rename_i o ho; simp at h; exact .inr (.inl ⟨o, h.symm, ho⟩)
    · split at h
      · rename_i o ho; simp at h; exact .inr (.inr (.inl ⟨o, h.symm, ho⟩))
      · split at h
        · split at h
          · rename_i hc; simp at h; exact .inr (.inr (.inr (.inl ⟨_, _, _, rfl, hc, h.symm⟩)))
          · cases h
        · simp at h; exact .inr (.inr (.inr (.inr ⟨_, _, _, rfl, h.symm⟩)))
        · cases h

theorem opStep_of {o : Oper} {io : IOp} {f : Nat → Value} {h : Heap} {K : Value → Heap → Prop} (hc : compOp P o.op = some io) (hok : o.op.operands.all opdOk = true) (hs : stepK P io f h K) :
    ∃ v h', OpStep P N o f h v h' ∧ K v h' := by
  have hnd := compOp_nd hc
  rcases compOp_inv hc with ⟨po, rfl, hp⟩ | ⟨lo, rfl, hl⟩ | ⟨eo, rfl, he⟩ | ⟨g, args, at_, ho, hco, rfl⟩ | ⟨x, args, at_, ho, rfl⟩
  · simp only [stepK, oletP] at hs
    split at hs
    · rename_i v hv
      refine ⟨v, h, ?_, hs⟩
      intro _ B ρ a w R next Q hn
      obtain ⟨v', h1, h2⟩ := pure_sound w hp hok R.heap.esz (fun x hx => R.ev hx) hv
      exact wpIn_val hnd h1 (hn ρ v' w h2 R.heap (Tr.refl R.heap))
    · exact hs.elim
  · simp only [stepK, oletP] at hs
    split at hs
    · rename_i v hv
      refine ⟨v, h, ?_, hs⟩
      intro _ B ρ a w R next Q hn
      obtain ⟨v', h1, h2⟩ := load_sound hl hok R.heap (fun x hx => R.ev hx) hv
      exact wpIn_val hnd h1 (hn ρ v' w h2 R.heap (Tr.refl R.heap))
    · exact hs.elim
  · simp only [stepK, oletH] at hs
    split at hs
    · rename_i v h' hv
      refine ⟨v, h', ?_, hs⟩
      intro _ B ρ a w R next Q hn
      obtain ⟨nx, w', ρ', v', e1, e2, e3, e4, e5⟩ := eff_sound he hok R.heap (fun x hx => R.ev hx) hv
      rcases e2 with rfl | ⟨rfl, rfl⟩
      · exact wpIn_val hnd e1 (hn ρ' v' w' e3 e4 e5)
      · exact wpIn_skip' hnd e1 (hn ρ' undef w' e3 e4 e5)
    · exact hs.elim
  · obtain ⟨v, h', hcall, hk⟩ := hs
    refine ⟨v, h', opStep_enter hcall hnd ?_, hk⟩
    intro B ρ a w R
    rw [ho] at hok
    simp [Op.operands, Call.operands] at hok
    refine ⟨args.map a.eval, by simpa using VsRel.map_ev (fun x hx => R.ev hx) (xs := args.toList) (by simpa using hok.2), ?_⟩
    simp [execOp, ho, resolve, Act.eval, Deferred.ofValue, invoke, callFunc_ok hco]
  · simp only [stepK, callV] at hs
    rw [ho] at hok
    simp [Op.operands, Call.operands] at hok
    split at hs
    · rename_i g first cap hx
      obtain ⟨hco, v, h', hcall, hk⟩ := hs
      refine ⟨v, h', opStep_enter hcall hnd ?_, hk⟩
      intro B ρ a w R
      have hr := R.ev (x := x) hok.1
      rw [hx] at hr
      generalize hy : a.eval x = y at hr
      cases hr with
      | func _ s1 s2 r1 r2 =>
        rename_i first' cap'
        refine ⟨first' ++ args.map a.eval ++ cap', ?_, ?_⟩
        · have q1 := VsRel.toArr s1 r1
          have q2 := VsRel.map_ev (fun x hx => R.ev hx) (xs := args.toList) (by simpa using hok.2)
          have q3 := VsRel.toArr s2 r2
          simpa using (q1.append q2).append q3
        · simp [execOp, ho, resolve, hy, Deferred.ofValue, invoke, callFunc_ok hco]
    · rename_i i first cap hx
      obtain ⟨⟨rfl, rfl⟩, v, h', hcall, hk⟩ := hs
      refine ⟨v, h', opStep_round hcall hnd ?_, hk⟩
      intro B ρ a w R
      have hr := R.ev (x := x) hok.1
      rw [hx] at hr
      generalize hy : a.eval x = y at hr
      cases hr with
      | yield hi =>
        rename_i r
        refine ⟨r, args.map a.eval, hi, by simpa using VsRel.map_ev (fun x hx => R.ev hx) (xs := args.toList) (by simpa using hok.2), ?_⟩
        simp [execOp, ho, resolve, hy, Deferred.ofValue, invoke]
    · exact hs.elim

end
end Go.Sim
