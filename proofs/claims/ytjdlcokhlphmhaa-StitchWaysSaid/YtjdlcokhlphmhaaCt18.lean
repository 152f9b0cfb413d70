/-
  Ways, and its law.
-/
import Derived.Test.YtjdlcokhlphmhaaCt17
namespace Go.Proofs.Ytjdlcokhlphmhaa
open Go.Sim

theorem store_last {h : Heap} {e : TypeId} {a v : Value} (h1 : noTuple v = true) (h2 : vcells v = [v]) : oStore 1 (h ++ [.arr e [a]]) (pt h.length 0) v = some (undef, h ++ [.arr e [v]]) := by
  simp [oStore, iStore, h1, h2, setAt]

theorem get_last {h : Heap} {o : IObj} : (h ++ [o])[h.length]? = some o := by simp

def waysV (k : Int) (ps : List (Int × Int)) (s : List UInt8) : Value :=
  if whyE k ps [s] 16 = 0 then .tuple #[I (waysN (freeP ps) s.length (Lst ps s)), I 0] else .tuple #[I 0, I (whyE k ps [s] 16)]

theorem waysV_ren (k : Int) (ps : List (Int × Int)) (s : List UInt8) : Ren fun _ => waysV k ps s := by
  unfold waysV
  split <;> exact Ren.tuple (l := [fun _ => I _, fun _ => I _]) (.cons (Ren.scal rfl) (.cons (Ren.scal rfl) .nil))

theorem C53 {pv : Value} {ps : List (Int × Int)} {s : List UInt8} {k : Int} {h : Heap} {K : Value → Heap → Prop} (hp : PS h pv ps) (hl : ps.length ≤ 100) (hs : s.length ≤ 1000)
    (hk : K (waysV k ps s) h) : CallP Try.prog 53 [I k, pv, S s] h K := by
  refine callP_gc (v := waysV k ps s) (waysV_ren k ps s) ?_ hk
  refine f53 ?_
  simp only [T53, mkS1, OH_some]
  have hx : EX h (h ++ [.arr 9 [S s]]) := EX.append _ _
  have hss : SS (h ++ [.arr 9 [S s]]) (sl 9 h.length 0 1) [s] := SS.sl (ls := [s]) (by simp [objCells])
  have al : ∀ (e : TypeId) (z : Value) (g : Heap), iAlloc e [z] g = some (pt g.length 0, g ++ [.arr e [z]]) := fun _ _ _ => rfl
  refine C56 (most := 16) (hp.mono hx) hl hss (by simp) (by simp; exact hs) (fun hw => ?_) (fun hw => ?_)
  · simp only [ext_tuple, pair0, pair1, OP_some, al, OH_some, bin_neq, decide_eq_false hw, Bool.not_false]
    rw [store_last rfl rfl]
    simp only [OH_some, IfP_true]
    exact ⟨by unfold waysV; rw [if_neg hw], hx.push _⟩
  · obtain ⟨ht, hse⟩ := whyE_ok hw
    obtain ⟨n, rfl, hn1, hn6⟩ := threadsOk_k ht
    obtain ⟨hlen, hbad⟩ := seamsE_ok hse s (by simp)
    have ls := letters_of hbad
    generalize hh1 : h ++ [.arr 9 [S s]] = h1 at *
    simp only [ext_tuple, pair0, pair1, OP_some, al, OH_some, bin_neq, decide_true, Bool.not_true]
    have hth : TH (h1 ++ [.arr 138 (tcells n (cmOf ps))]) (pt h1.length 0) n (cmOf ps) := ⟨h1.length, rfl, by simp [objCells]⟩
    have x2 : EX h1 (h1 ++ [.arr 138 (tcells n (cmOf ps))]) := EX.append _ _
    generalize h1 ++ [IObj.arr 138 (tcells n (cmOf ps))] = h2 at hth x2 ⊢
    rw [store_last rfl rfl]
    simp only [OH_some, IfP_false]
    have x3 : EX h2 (h2 ++ [.arr 91 [pt h1.length 0]]) := EX.append _ _
    have l2 : iLoad false 1 (h2 ++ [.arr 91 [pt h1.length 0]]) (pt h2.length 0) = some (pt h1.length 0) := load_last rfl
    generalize hh3 : h2 ++ [IObj.arr 91 [pt h1.length 0]] = h3 at x3 l2 ⊢
    have mk : iMkMap h3 = some (.map (some h3.length), h3 ++ [.smap []]) := rfl
    simp only [mk, OH_some]
    have up : oMupd (h3 ++ [.smap []]) (.map (some h3.length)) (.string ⟨#[]⟩) (.int .i64 1) = some (undef, h3 ++ [.smap [(⟨#[]⟩, I 1)]]) := by
      simp [oMupd, iMupd, setS]
    simp only [up, OH_some, al]
    have hi4 : h3.length < (h3 ++ [IObj.smap [(⟨#[]⟩, I 1)]]).length := by simp
    generalize hh4 : h3 ++ [IObj.smap [(⟨#[]⟩, I 1)]] = h4 at hi4 ⊢
    have x4 : EX h3 h4 := by rw [← hh4]; exact EX.append _ _
    have g4 : h4[h3.length]? = some (.smap [(⟨#[]⟩, I 1)]) := by rw [← hh4]; exact get_last
    rw [store_last rfl rfl]
    simp only [OH_some]
    have l1 : iLoad false 1 (h4 ++ [.arr 88 [.map (some h3.length)]]) (pt h4.length 0) = some (.map (some h3.length)) := load_last rfl
    have x5 : EX h4 (h4 ++ [.arr 88 [.map (some h3.length)]]) := EX.append _ _
    generalize hh5 : h4 ++ [IObj.arr 88 [.map (some h3.length)]] = h5 at l1 x5 ⊢
    rw [store_last rfl rfl]
    simp only [OH_some]
    have l3 : iLoad false 1 (h5 ++ [.arr 133 [.func (.func 83) #[] #[pt h4.length 0, pt h2.length 0, pt h5.length 0]]]) (pt h5.length 0) = some (.func (.func 83) #[] #[pt h4.length 0, pt h2.length 0, pt h5.length 0]) := load_last rfl
    have x6 : EX h5 (h5 ++ [.arr 133 [.func (.func 83) #[] #[pt h4.length 0, pt h2.length 0, pt h5.length 0]]]) := EX.append _ _
    generalize hh6 : h5 ++ [IObj.arr 133 [.func (.func 83) #[] #[pt h4.length 0, pt h2.length 0, pt h5.length 0]]] = h6 at l3 x6 ⊢
    have l2 := EX.load ((x4.trans x5).trans x6) l2
    have l1 := EX.load x6 l1
    have hth := hth.mono (((x3.trans x4).trans x5).trans x6)
    have g6 := (x5.trans x6).get g4
    have hxx : EX h h6 := ((((hx.trans x2).trans x3).trans x4).trans x5).trans x6
    have hi6 : h3.length < h6.length := Nat.lt_of_lt_of_le hi4 (x5.trans x6).1
    have hh3l : h.length ≤ h3.length := ((hx.trans x2).trans x3).1
    have e6 : h6 = hmap h6 h3.length [(⟨#[]⟩, I 1)] := by
      unfold hmap
      apply List.ext_getElem?
      intro j
      by_cases hj : h3.length = j
      · subst hj; rw [g6]; simp [hi6]
      · rw [List.getElem?_set_ne hj]
    have ldset : ∀ (es : List (ByteArray × Value)) {agg : Bool} {m : Nat} {a v : Value}, iLoad agg m h6 a = some v → iLoad agg m (hmap h6 h3.length es) a = some v := by
      intro es agg m a v hv
      unfold iLoad at hv ⊢
      split at hv
      · rename_i j o
        have hj : h3.length ≠ j := by
          rintro rfl
          unfold objCells at hv
          rw [g6] at hv
          simp at hv
        have : objCells (hmap h6 h3.length es) j = objCells h6 j := by
          unfold objCells hmap
          rw [List.getElem?_set_ne hj]
        simp only [this]
        exact hv
      · cases hv
    have thset : ∀ es, TH (hmap h6 h3.length es) (pt h1.length 0) n (cmOf ps) := by
      intro es
      obtain ⟨ti, e1, e2⟩ := hth
      refine ⟨ti, e1, ?_⟩
      have hj : h3.length ≠ ti := by
        rintro rfl
        unfold objCells at e2
        rw [g6] at e2
        simp at e2
      unfold objCells hmap at *
      rw [List.getElem?_set_ne hj]
      exact e2
    simp only [l1, l2, l3, OP_some, true_and]
    refine C57 (k := n) hth hn6 hs ls ?_
    rw [Lst_eq hn6 ls]
    simp only [l3, true_and]
    refine callVP_func ok83 ?_
    obtain ⟨q1, q2⟩ := Lst_letters (ps := ps) (letters_le hn6 ls)
    have q3 := Lst_lettersN (ps := ps) hn6 ls
    have hm0 : MG (freeP ps) [(⟨#[]⟩, I 1)] := by
      intro l v hv
      simp only [findS] at hv
      split at hv
      · rename_i hkey
        have : l = [] := key_inj (l := l) (m := []) hkey
        subst this
        exact (Option.some.inj hv).symm
      · cases hv
    conv => arg 4; rw [e6]
    refine C83 (n := n) hi6 (fun es => ldset es l1) (fun es => ldset es l2) (fun es => ldset es l3) thset hn6 s.length q3 q2 hlen hm0 (by simp [findS]) ?_
    intro es' _ _
    exact ⟨by unfold waysV; rw [if_pos hw], hxx.set hh3l _⟩

theorem C12 {ps : List (Int × Int)} {pv : Value} {k : Int} {x : List UInt8} {h : Heap} {K : Value → Heap → Prop} (hp : PSl h pv ps) (hk : ∀ h', K (.bool true) h') : CallP Try.prog 12 [.agg #[I k, pv], S x] h K := by
  refine f12 ?_
  refine pre_threads hp ?_
  intro h2 qv qs hps hl
  simp only [ext_tuple, pair0, pair1, OP_some]
  refine C17 (n := 17) ?_
  have hs : (x.take 17).length ≤ 17 := by rw [List.length_take]; omega
  generalize x.take 17 = s at hs ⊢
  refine C53 hps (by omega) (by omega) ?_
  have pre : ∀ (h2 : Heap) {K : Value → Heap → Prop}, PS h2 qv qs → (∀ h3, PS h3 qv qs → K (I (whyE k qs [s] 16)) h3) → OH (iMkSl 9 1 [.string ⟨#[]⟩] h2 [(0, 1, S s)]) fun x28 h_5 => CallP Try.prog 19 [I k, qv, I 16, x28] h_5 K := by
    intro h2 K hps hk
    simp only [mkS1, OH_some]
    have hx : EX h2 (h2 ++ [.arr 9 [S s]]) := EX.append _ _
    have hss : SS (h2 ++ [.arr 9 [S s]]) (sl 9 h2.length 0 1) [s] := SS.sl (ls := [s]) (by simp [objCells])
    exact C19 (most := 16) (hps.mono hx) (by omega) hss (by simp) (by simp; omega) (hk _ (hps.mono hx))
  unfold waysV
  by_cases hw : whyE k qs [s] 16 = 0
  · rw [if_pos hw]
    simp only [ext_tuple, pair0, pair1, OP_some]
    refine pre h2 hps ?_
    intro h3 hps3
    obtain ⟨ht, hse⟩ := whyE_ok hw
    obtain ⟨n, rfl, hn1, hn6⟩ := threadsOk_k ht
    obtain ⟨hlen, hbad⟩ := seamsE_ok hse s (by simp)
    have ls := letters_le hn6 (letters_of hbad)
    have hg := (threadsOk_good ht).1
    simp only [hw, bin_neq, OP_some, decide_true, Bool.not_true, IfP_false]
    refine C21 hps3 hg (by omega) (by omega) ls ?_
    have mk : iMkMap h3 = some (.map (some h3.length), h3 ++ [.smap []]) := rfl
    simp only [mk, OH_some]
    have hi : h3.length < (h3 ++ [IObj.smap []]).length := by simp
    have e6 : h3 ++ [IObj.smap []] = hmap (h3 ++ [IObj.smap []]) h3.length [] := by simp [hmap]
    have hpp : ∀ es, PS (hmap (h3 ++ [IObj.smap []]) h3.length es) qv qs := fun es => hps3.mono ((EX.append h3 _).set (Nat.le_refl _) _)
    conv => arg 4; rw [e6]
    obtain ⟨q1, q2⟩ := Lst_letters (ps := qs) ls
    refine C54 hi hpp hg (by omega) s.length q1 q2 hlen (fun l v hv => by simp [findS] at hv) ?_
    intro es' _
    have eL : leastF (freeP qs) 6 s.length s = Lst qs s := rfl
    simp only [eL, bin_eql, OP_some, decide_true, q12z19, GdP_tt, q12z21, iPick_t, q12z23]
    refine C20 ?_
    simp only [q12z25, iPick_t, OP_some]
    exact hk _
  · rw [if_neg hw]
    simp only [ext_tuple, pair0, pair1, OP_some]
    refine pre h2 hps ?_
    intro h3 hps3
    simp only [bin_neq, OP_some, decide_eq_false hw, Bool.not_false, IfP_true, bin_eql, decide_true, q12z10, GdP_tt, q12z12, iPick_t, q12z14]
    refine C20 ?_
    simp only [q12z16, iPick_t, OP_some]
    exact hk _

end Go.Proofs.Ytjdlcokhlphmhaa
