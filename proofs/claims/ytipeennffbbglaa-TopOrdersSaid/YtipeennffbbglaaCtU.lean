/-
  Small facts of memory that many contracts use.
-/
import Derived.Test.YtipeennffbbglaaMg1
import Derived.Test.YtipeennffbbglaaSim24
namespace Go.Proofs.Ytipeennffbbglaa
open Go.Sim

@[simp] theorem pair0 (a b : Value) : (#[a, b] : Array Value)[0]? = some a := rfl
@[simp] theorem pair1 (a b : Value) : (#[a, b] : Array Value)[1]? = some b := rfl

theorem get_last {h : Heap} {o : IObj} : (h ++ [o])[h.length]? = some o := by simp

theorem setAt_one (xs : List Value) (o : Nat) (v : Value) (ho : o < xs.length) : setAt xs o [v] = xs.set o v := by
  unfold setAt
  rw [List.set_eq_take_append_cons_drop, if_pos ho]
  simp

theorem store_at {h : Heap} {i o : Nat} {e : TypeId} {xs : List Value} {v : Value} (hg : h[i]? = some (.arr e xs)) (ho : o < xs.length) (h1 : noTuple v = true) (h2 : vcells v = [v]) : oStore 1 h (pt i o) v = some (undef, h.set i (.arr e (xs.set o v))) := by
  simp only [oStore, iStore, hg, h1, h2, setAt_one _ _ _ ho]
  rw [if_pos ⟨trivial, rfl, by omega⟩]
  rfl

theorem OwnS.one {b : Nat} {hx : Heap} {e : TypeId} {v : Value} {xs : List Value} (o : OwnS b hx e v xs) : noTuple v = true ∧ vcells v = [v] := by
  rcases o with ⟨rfl, _⟩ | ⟨i, _, rfl, _⟩ <;> exact ⟨rfl, rfl⟩

section
variable {h : Heap} {id : Nat}

abbrev hb (h : Heap) (id : Nat) (xs : List UInt8) : Heap := h.set id (.arr 5 (xs.map cv))

theorem hb_get (hid : id < h.length) (xs : List UInt8) : (hb h id xs)[id]? = some (.arr 5 (xs.map cv)) := by simp [hb, hid]

theorem hb_load (hid : id < h.length) {xs : List UInt8} {j : Nat} {c : UInt8} (hj : xs[j]? = some c) : iLoad false 1 (hb h id xs) (pt id j) = some (cv c) := by
  simp [iLoad, objCells, hb_get hid, iPart, hj]

theorem hb_store (hid : id < h.length) {xs : List UInt8} {j : Nat} (c : UInt8) (hj : j < xs.length) : oStore 1 (hb h id xs) (pt id j) (cv c) = some (undef, hb h id (xs.set j c)) := by
  rw [store_at (hb_get hid xs) (by simpa using hj) rfl rfl]
  simp [hb, List.map_set]

theorem adr_sl {e : TypeId} {n j : Nat} (hj : j < n) : iAdrSl 1 (sl e id 0 n) (I j) = some (pt id j) := by
  have : (0 : Int) ≤ (j : Int) ∧ (j : Int) < (n : Int) := by omega
  simp [Go.Sim.sl, iAdrSl, this]

end

/-- One element more: what stays, what comes. -/
theorem app1p {b : Nat} {hx : Heap} {e : TypeId} {bytes : Nat} {v x z : Value} {xs : List Value} {K : Value → Heap → Prop} (o : OwnS b hx e v xs) (hb : (xs.length + 1) * bytes ≤ 140737488355328) (hm : xs.length + 1 ≤ maxLen)
    (h1 : noTuple x = true) (h2 : vcells x = [x]) (hk : ∀ h1 hx', h1 = hx ++ [.arr e [x]] → hx'.length = hx.length + 2 → (∀ d, d < hx.length → (∀ n, v ≠ sl e d 0 n) → hx'[d]? = hx[d]?) → hx'[hx.length + 1]? = some (.arr e (xs ++ [x])) → OH (some (sl e (hx.length + 1) 0 (xs.length + 1), hx')) K) :
    OH (iMkSl e 1 [z] hx [(0, 1, x)]) fun a h2 => OH (iApp e 1 bytes h2 v a) K := by
  have e1 : iMkSl e 1 [z] hx [(0, 1, x)] = some (sl e hx.length 0 1, hx ++ [.arr e [x]]) := by
    simp [iMkSl, fillL, zrep, h1, h2, setAt]
  rw [e1]
  simp only [OH_some]
  have e2 : sliceCells (hx ++ [.arr e [x]]) 1 (sl e hx.length 0 1) = some [x] := by simp [sliceCells, sl, objCells]
  have e3 : lenOfSl (sl e hx.length 0 1) = some 1 := rfl
  rcases o with ⟨rfl, rfl⟩ | ⟨i, hi, rfl, hget⟩
  · have hb' : 1 * bytes ≤ 140737488355328 := by simpa using hb
    have hm' : 1 ≤ maxLen := by simpa using hm
    have e4 : iApp e 1 bytes (hx ++ [.arr e [x]]) (.slice none 0 0) (sl e hx.length 0 1) = some (sl e (hx.length + 1) 0 1, hx ++ [.arr e [x]] ++ [.arr e [x]]) := by
      simp only [iApp, e2, e3]
      rw [if_neg (by omega), if_pos ⟨hb', hm'⟩]
      simp
    rw [e4]
    refine hk _ _ rfl (by simp) (fun d hd _ => by rw [List.getElem?_append_left (by simp; omega), List.getElem?_append_left hd]) (by rw [List.getElem?_append_right (by simp)]; simp)
  · have hlt := (List.getElem?_eq_some_iff.1 hget).1
    have hg : (hx ++ [.arr e [x]])[i]? = some (.arr e xs) := by rw [List.getElem?_append_left hlt]; exact hget
    have e4 : iApp e 1 bytes (hx ++ [.arr e [x]]) (sl e i 0 xs.length) (sl e hx.length 0 1) = some (sl e (hx.length + 1) 0 (xs.length + 1), (hx ++ [IObj.arr e [x]]).set i IObj.dead ++ [IObj.arr e (xs ++ [x])]) := by
      simp only [iApp, e2, e3]
      simp only [sl, hg]
      rw [if_pos ⟨trivial, trivial, by simp, hb, hm⟩, if_neg (by omega)]
      simp
    rw [e4]
    refine hk _ _ rfl (by simp) (fun d hd hne => ?_) (by rw [List.getElem?_append_right (by simp)]; simp)
    have hdi : i ≠ d := by rintro rfl; exact hne _ rfl
    rw [List.getElem?_append_left (by simp; omega), List.getElem?_set_ne hdi, List.getElem?_append_left hd]

theorem sl_inj {e e' : TypeId} {i i' o o' n n' : Nat} (h : sl e i o n = sl e' i' o' n') : i = i' ∧ n = n' := by
  unfold sl at h
  injection h with h1 h2
  injection h1 with h1
  injection h1 with h1
  exact ⟨h1, h2⟩

theorem OwnS.keep {b : Nat} {g g' : Heap} {e : TypeId} {v : Value} {xs : List Value} (o : OwnS b g e v xs) (h : ∀ d n, v = sl e d 0 n → b ≤ d → g'[d]? = g[d]?) : OwnS b g' e v xs := by
  rcases o with ⟨h1, h2⟩ | ⟨i, h1, h2, h3⟩
  · exact .inl ⟨h1, h2⟩
  · exact .inr ⟨i, h1, h2, by rw [h i _ h2 h1]; exact h3⟩

theorem OwnS.lt {b : Nat} {g : Heap} {e : TypeId} {v : Value} {xs : List Value} {d n : Nat} (o : OwnS b g e v xs) (h : v = sl e d 0 n) : b ≤ d ∧ d < g.length ∧ g[d]? = some (.arr e xs) := by
  rcases o with ⟨h1, _⟩ | ⟨i, h1, h2, h3⟩
  · rw [h1] at h; cases h
  · rw [h2] at h
    obtain ⟨rfl, _⟩ := sl_inj h
    exact ⟨h1, (List.getElem?_eq_some_iff.1 h3).1, h3⟩

end Go.Proofs.Ytipeennffbbglaa
