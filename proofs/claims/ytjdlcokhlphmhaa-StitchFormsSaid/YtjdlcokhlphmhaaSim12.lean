/-
  The model does what the ideal operations on memory say: make, append, maps; all of them.
-/
import Derived.Test.YtjdlcokhlphmhaaSim11
namespace Go.Sim

section
variable {P : Program} {w : World} {ρ : RMap} {h : Heap}

theorem run_iMake (H : HRel P ρ h w) {t e : TypeId} {zs : List Value} {l c l' c' v : Value} {h' : Heap} (ht : P.underlying t = some (.slice e)) (hz : zeroOf P e = some zs)
    (hi : iMake e (P.bytesOf e) zs h l c = some (v, h')) (hl : VRel ρ l l') (hc : VRel ρ c c') :
    ∃ w' ρ' v', (Instr.makeSlice t l' c').run P w = .ok v' w' ∧ VRel ρ' v v' ∧ HRel P ρ' h' w' ∧ Tr ρ h w ρ' h' w' := by
  obtain ⟨i, z, hii, hzz, rfl, hnt, hcl, hlen⟩ := zeroOf_some hz
  unfold iMake at hi
  split at hi
  · rename_i k1 l k2 c
    rw [hl.int_inv, hc.int_inv]
    split at hi
    · rename_i hb
      obtain ⟨h0, h1, h2, h3⟩ := hb
      simp at hi
      obtain ⟨rfl, rfl⟩ := hi
      rw [bytesOf_info hii] at h2
      have hrun := run_make (P := P) w t e i z ht hii hzz k1 k2 l c h0 h1 h2 h3
      have hcr : CellsRel ρ (madeCells z.cells (c.toNat * i.size)) 0 (zrep (vcells z) l.toNat) := by
        intro j x hj
        have hjl : j < l.toNat * i.size := by
          have := (List.getElem?_eq_some_iff.1 hj).1
          rwa [zrep_length, hlen] at this
        have hzs : z.cells.size = i.size := by rw [← hlen]; simp [vcells]
        have hpos : 0 < z.cells.size := by
          rcases Nat.eq_zero_or_pos i.size with q | q
          · rw [q] at hjl; simp at hjl
          · omega
        have hmul : l.toNat * i.size ≤ c.toNat * i.size := Nat.mul_le_mul_right _ (by omega)
        rw [zrep, flatten_get _ _ _ (by rw [hlen]; exact hjl)] at hj
        have hx : x ∈ vcells z := List.mem_of_getElem? hj
        refine ⟨(hcl x hx).2, x, ?_, cvOk.rel (hcl x hx).1⟩
        rw [Nat.zero_add, made_get _ _ _ (by omega) hpos]
        simpa [vcells] using hj
      obtain ⟨q1, q2⟩ := newArr H (NewBlock.alloc w (.cells (madeCells z.cells (c.toNat * i.size)) e)) hcr
      refine ⟨_, _, _, hrun, ?_, q1, q2⟩
      exact sl_rel ρ h.length ⟨w.heap.size, 0, e, P.cellsOf e, (madeCells z.cells (c.toNat * i.size)).size⟩ rfl (by omega) (by unfold maxLen; omega) (by simp [size_madeCells, cellsOf_info hii])
    · cases hi
  · cases hi

theorem run_append_zero {t e : TypeId} {i : TypeInfo} (ht : P.underlying t = some (.slice e)) (hi : P.info? e = some i) (type : TypeId) (b : Option Addr) (n c : Nat) (x : Value) (hn : n ≤ c)
    (hx : x = .slice none 0 0 ∨ ∃ a c2, x = .slice (some a) 0 c2) : (Builtin.append_ #[t, t] type #[.slice b n c, x]).run P w = .ok (.slice b n c) w := by
  rcases hx with rfl | ⟨a, c2, rfl⟩
  · cases b <;> simp [Builtin.append_, run_underlying ht, sizeOf, typeInfo, hi, Builtin.lenOf, hn, Builtin.firstCells, storeCells]
  · cases b <;> simp [Builtin.append_, run_underlying ht, sizeOf, typeInfo, hi, Builtin.lenOf, hn, Builtin.firstCells, loadCells, loadCellsFrom, storeCells]

theorem cells_append {ρ : RMap} {c : Array Value} {xs ys zs : List Value} (hx : ∀ (j : Nat) (x : Value), xs[j]? = some x → isCell x = true ∧ ∃ y, c[j]? = some y ∧ VRel ρ x y) (hz : VsRel ρ zs ys) (h1 : ∀ x ∈ zs, isCell x = true)
    (hc : ∀ (j : Nat) (y : Value), ys[j]? = some y → c[xs.length + j]? = some y) : CellsRel ρ c 0 (xs ++ zs) := by
  intro j x hj
  by_cases hlt : j < xs.length
  · rw [List.getElem?_append_left hlt] at hj
    simpa using hx j x hj
  · rw [List.getElem?_append_right (by omega)] at hj
    obtain ⟨y, hy, hr⟩ := hz.get hj
    refine ⟨h1 x (List.mem_of_getElem? hj), y, ?_, hr⟩
    have := hc _ y hy
    rw [← this]
    congr 1
    omega

theorem run_iApp (H : HRel P ρ h w) {t e : TypeId} {zs : List Value} {type : TypeId} {s x s' x' v : Value} {h' : Heap} (ht : P.underlying t = some (.slice e)) (hz : zeroOf P e = some zs)
    (hi : iApp e (P.cellsOf e) (P.bytesOf e) h s x = some (v, h')) (hs : VRel ρ s s') (hx : VRel ρ x x') :
    ∃ w' ρ' v', (Builtin.append_ #[t, t] type #[s', x']).run P w = .ok v' w' ∧ VRel ρ' v v' ∧ HRel P ρ' h' w' ∧ Tr ρ h w ρ' h' w' := by
  obtain ⟨i, z, hii, hzz, rfl, hnt, hcl, hlen⟩ := zeroOf_some hz
  have hce := cellsOf_info hii
  have hbe := bytesOf_info hii
  have hzs : z.cells.size = i.size := by rw [← hlen]; simp [vcells]
  unfold iApp at hi
  split at hi
  · rename_i news m hn hm
    have hxx := sliceCells_rel H hn hx
    have hzero : m = 0 → (x' = .slice none 0 0 ∨ ∃ a c2, x' = .slice (some a) 0 c2) := by
      intro hm0
      rcases hxx with ⟨e1, _⟩ | ⟨b, o, n2, c2, e1, e2, _⟩
      · exact .inl e1
      · rw [hm] at e2; cases e2; subst hm0; exact .inr ⟨_, _, e1⟩
    have hsome : 0 < m → ∃ b o c2, x' = .slice (some ⟨b, o, none⟩) m c2 ∧ news.length = m * i.size ∧ (∀ v ∈ news, isCell v = true) ∧
        ∃ ys, VsRel ρ news ys ∧ ys.length = m * i.size ∧ ∀ j v, ys[j]? = some v → w.cell? ((⟨b, o, none⟩ : Addr).add j) = some v := by
      intro hm0
      rcases hxx with ⟨e1, e2⟩ | ⟨b, o, n2, c2, e1, e2, e3, e4, ys, e5, e6⟩
      · subst e1
        cases hx
        · simp [lenOfSl] at hm
          omega
        · simp [lenOfSl] at hm
      · rw [hm] at e2; cases e2
        refine ⟨b, o, c2, e1, by rw [e3, hce], e4, ys, e5, by rw [← e5.length, e3, hce], ?_⟩
        intro j v hj
        rw [Addr.add_lit]
        exact e6 j v hj
    split at hi
    · cases hs
      split at hi
      · rename_i hm0
        simp at hi
        obtain ⟨rfl, rfl⟩ := hi
        exact ⟨w, ρ, _, run_append_zero ht hii type none 0 0 x' (Nat.le_refl _) (hzero hm0), .nilSlice, H, Tr.refl H⟩
      · rename_i hm0
        split at hi
        · rename_i hb
          obtain ⟨hb1, hb2⟩ := hb
          simp at hi
          obtain ⟨rfl, rfl⟩ := hi
          obtain ⟨b, o, c2, rfl, f1, f2, ys, f3, f4, f5⟩ := hsome (by omega)
          have hrun := run_append_nil (P := P) w t type e i z ht hii hzz ⟨b, o, none⟩ m c2 ys f4 f5 (by omega) (by unfold maxLen at hb2; omega) (by rw [← hbe]; omega)
          have hge := grownCap_ge w m 0 e
          have hcr : CellsRel ρ (ys.toArray ++ Builtin.zeroCells z.cells (grownCap w m 0 e - m)) 0 news := by
            have := cells_append (ρ := ρ) (c := ys.toArray ++ Builtin.zeroCells z.cells (grownCap w m 0 e - m)) (xs := []) (ys := ys) (zs := news) (by simp) f3 f2 (by
              intro j y hj
              have hlt := (List.getElem?_eq_some_iff.1 hj).1
              rw [Array.getElem?_append_left (by simpa using hlt)]
              simpa using hj)
            simpa using this
          obtain ⟨q1, q2⟩ := newArr H (NewBlock.drew w (.cells (ys.toArray ++ Builtin.zeroCells z.cells (grownCap w m 0 e - m)) e)) hcr
          refine ⟨_, _, _, hrun, ?_, q1, q2⟩
          refine sl_rel ρ h.length ⟨w.heap.size, 0, e, P.cellsOf e, (ys.toArray ++ Builtin.zeroCells z.cells (grownCap w m 0 e - m)).size⟩ rfl hge (grownCap_le_maxLen w m 0 e hb2) ?_
          simp only [Array.size_append, List.size_toArray, size_zeroCells, f4, hzs, hce]
          rw [← Nat.add_mul]
          exact Nat.mul_le_mul_right _ (by omega)
        · cases hi
    · rename_i ii e' n cc
      split at hi
      · rename_i e'' xs hxs
        split at hi
        · rename_i hb
          obtain ⟨rfl, rfl, hb3, hb4, hb5⟩ := hb
          have hs0 := hs
          cases hs with
          | slice hr ho hnc hcm hbd =>
            rename_i o' c' r
            obtain ⟨g1, g2, c, g3, g4, g5⟩ := H.arr hr hxs
            obtain rfl : o' = 0 := by
              rcases ho with ho | ⟨_, q, _⟩
              · omega
              · omega
            have hes := H.esz _ _ hr
            split at hi
            · rename_i hm0
              simp at hi
              obtain ⟨rfl, rfl⟩ := hi
              exact ⟨w, ρ, _, run_append_zero ht hii type _ n c' x' hnc (hzero hm0), hs0, H, Tr.refl H⟩
            · rename_i hm0
              simp at hi
              obtain ⟨rfl, rfl⟩ := hi
              obtain ⟨b, o, c2, rfl, f1, f2, ys, f3, f4, f5⟩ := hsome (by omega)
              rw [hce] at hb3
              have hesz : r.esz = i.size := by rw [hes, hce]
              have hmut : isMut h ii := .inl ⟨_, xs, hxs⟩
              by_cases hroom : n + m ≤ c'
              · have hfit : n * i.size + ys.length ≤ c.size := by
                  rw [f4, g4, ← Nat.add_mul]
                  have := Nat.mul_le_mul_right i.size hroom
                  rw [hesz] at hbd
                  omega
                have hrun := run_append_room (P := P) w t type r.elem i ht hii r.blk n c' c g3 ⟨b, o, none⟩ m c2 ys f4 f5 (f3.oneCell f2) hroom hfit
                have hcs : (c.toList.take (n * i.size) ++ ys ++ c.toList.drop (n * i.size + ys.length)).toArray = (setAt c.toList (n * i.size) ys).toArray := rfl
                rw [hcs] at hrun
                have hsz : (setAt c.toList (n * i.size) ys).toArray.size = c.size := by simp [setAt_length (show n * i.size + ys.length ≤ c.toList.length by simpa using hfit)]
                have hcr : CellsRel ρ (setAt c.toList (n * i.size) ys).toArray 0 (xs ++ news) := by
                  refine cells_append (ys := ys) ?_ f3 f2 ?_
                  · intro j x hj
                    have hlt := (List.getElem?_eq_some_iff.1 hj).1
                    obtain ⟨k1, y, k2, k3⟩ := g5 j x hj
                    refine ⟨k1, y, ?_, k3⟩
                    rw [List.getElem?_toArray, setAt_get (by simpa using hfit), if_pos (by omega)]
                    simpa using k2
                  · intro j y hj
                    have hlt := (List.getElem?_eq_some_iff.1 hj).1
                    rw [List.getElem?_toArray, setAt_get (by simpa using hfit), if_neg (by omega), if_pos (by omega)]
                    rw [← hj]
                    congr 1
                    omega
                have sb := SetBlock.row g3 (setAt c.toList (n * i.size) ys).toArray
                obtain ⟨q1, q2⟩ := H.move (o := .arr r.elem (xs ++ news)) hr hmut sb ⟨rfl, g2, _, sb.here, by rw [hsz, g4], hcr.mono (RMap.le_add H.none)⟩
                refine ⟨_, _, _, hrun, ?_, q1, q2⟩
                exact sl_rel ρ h.length r g2 hroom hcm (by omega)
              · obtain ⟨olds, o1, o2, o3, o4⟩ := g5.window (o := 0) (n := n * i.size) (by omega)
                have hxs' : (xs.drop 0).take (n * i.size) = xs := by rw [List.drop_zero]; exact List.take_of_length_le (by omega)
                rw [hxs'] at o1 o3
                have hold : ∀ j v, olds[j]? = some v → w.cell? ((⟨r.blk, 0, none⟩ : Addr).add j) = some v := by
                  intro j v hj
                  rw [Addr.add_lit, cell_row g3]
                  simpa using o4 j v hj
                have hfits := growslice_fits (need := n + m) (old := c') (bytes := P.bytesOf r.elem) (by omega) hb4
                rw [hbe] at hfits
                have hrun := run_append_grow (P := P) w t type r.elem i z ht hii hzz ⟨r.blk, 0, none⟩ n c' olds o2 hold ⟨b, o, none⟩ m c2 ys f4 f5 (by omega) (by unfold maxLen at hb5; omega) hfits
                have hge := grownCap_ge w (n + m) c' r.elem
                generalize hcc : olds.toArray ++ ys.toArray ++ Builtin.zeroCells z.cells (grownCap w (n + m) c' r.elem - (n + m)) = cc at hrun
                have hccs : cc.size = n * i.size + m * i.size + (grownCap w (n + m) c' r.elem - (n + m)) * i.size := by
                  rw [← hcc]; simp only [Array.size_append, List.size_toArray, size_zeroCells, o2, f4, hzs]
                have hcr : CellsRel ρ cc 0 (xs ++ news) := by
                  refine cells_append (ys := ys) ?_ f3 f2 ?_
                  · intro j x hj
                    have hlt := (List.getElem?_eq_some_iff.1 hj).1
                    obtain ⟨y, k2, k3⟩ := o1.get hj
                    refine ⟨o3 x (List.mem_of_getElem? hj), y, ?_, k3⟩
                    rw [← hcc, Array.append_assoc, Array.getElem?_append_left (by simp; omega)]
                    simpa using k2
                  · intro j y hj
                    have hlt := (List.getElem?_eq_some_iff.1 hj).1
                    rw [← hcc, Array.append_assoc, Array.getElem?_append_right (by simp; omega), Array.getElem?_append_left (by simp; omega)]
                    rw [← hj, List.getElem?_toArray]
                    congr 1
                    simp
                    omega
                have nb := NewBlock.drew w (.cells cc r.elem)
                obtain ⟨q1, q2⟩ := H.new (h₀ := h.set ii .dead) (o := .arr r.elem (xs ++ news)) (r := ⟨w.heap.size, 0, r.elem, P.cellsOf r.elem, cc.size⟩) nb rfl rfl (by simp) (by
                    intro j
                    by_cases hj : j = ii
                    · subst hj; right; rw [List.getElem?_set_self (H.lt hr)]
                    · left; rw [List.getElem?_set_ne (Ne.symm hj)]) ⟨rfl, rfl, cc, nb.new, rfl, hcr.mono (RMap.le_add H.none)⟩
                refine ⟨_, _, _, hrun, ?_, q1, q2⟩
                refine sl_rel ρ h.length ⟨w.heap.size, 0, r.elem, P.cellsOf r.elem, cc.size⟩ rfl hge (grownCap_le_maxLen w (n + m) c' r.elem hb5) ?_
                simp only [hccs, hce]
                rw [← Nat.add_mul, ← Nat.add_mul]
                exact Nat.mul_le_mul_right _ (by omega)
        · cases hi
      · cases hi
    · cases hi
  · cases hi

end
end Go.Sim
