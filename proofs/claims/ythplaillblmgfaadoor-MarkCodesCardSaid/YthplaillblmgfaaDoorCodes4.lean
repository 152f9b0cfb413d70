/-
  Part 4 of the texts behind a statement of this seat: DSo, DA, Mp1, Mk1, Mk2, Mk3, Mk4, Mk5, DB, Mk6, Mk7, DC, Mk8, DLv, DKk, DG.
-/
import Derived.Test.YthplaillblmgfaaDoorProg
import Derived.KernelRfl
import Derived.Test.YthplaillblmgfaaDoorCards
import Derived.Test.YthplaillblmgfaaDoorTie
import Derived.LaidMore
import Derived.Lay
import Derived.SevenTiedAt
import Derived.Stop.Joined
import Derived.Test.YthplaillblmgfaaDoorCodes3
namespace Go.Proofs.YthplaillblmgfaaDoor
open Go.Sim

theorem C54 {i : Nat} {ls : List (List UInt8)} {h : Heap} {K : Value → Heap → Prop} (hn : ls ≠ []) (hl : ls.length < 4611686018427387904) (hg : h[i]? = some (.arr 9 (ls.map S))) (hk : K (.tuple #[]) (h.set i (.arr 9 ((sortS ls).map S)))) : CallP Tryd.prog 54 [sl 9 i 0 ls.length] h K :=
  sort_call (fun blk off cap ss w h1 h2 h3 => Go.Proofs.Any.slices_Sort_string Go.Proofs.tlays190 blk off cap ss w h1 h2 h3) hn hl hg hk

theorem C55 {i : Nat} {e : TypeId} {ls : List (List UInt8)} {sep : List UInt8} {h : Heap} {K : Value → Heap → Prop} (hn : ls ≠ []) (hl : ls.length ≤ 1000000) (hj : (Lib.join ls sep).length ≤ 140737488355328) (hg : h[i]? = some (.arr e (ls.map S))) (hk : K (S (Lib.join ls sep)) h) : CallP Tryd.prog 55 [sl e i 0 ls.length, S sep] h K :=
  join_call (fun bk o c xs sep w h1 h2 h3 h4 h5 => Go.Proofs.Any.strings_Join Go.Proofs.tlays156 Go.Proofs.tjoinX bk o c xs sep w h1 h2 h3 h4 h5) hn hl hj hg hk

noncomputable def orcN : ECall := fun _ _ _ => none
theorem orcN_sound : CallE Tryd.prog orcN := ⟨fun _ _ _ _ _ he => by simp [orcN] at he, fun _ _ _ _ _ he => by simp [orcN] at he⟩

theorem sortNilE : (evK Tryd.prog evH 100 orcN 10 (.func 54) [.slice none 0 0] []).map Prod.fst = some (.tuple #[]) := by kernel_rfl

theorem C54n {h : Heap} {K : Value → Heap → Prop} (hk : K (.tuple #[]) h) : CallP Tryd.prog 54 [.slice none 0 0] h K := by
  obtain ⟨h', hc⟩ := evK_call evH 100 10 orcN_sound sortNilE
  exact callP_any (Ren.tuple (l := []) .nil) hc rfl hk

/-- The keys of a map in order: none. -/
theorem C38n {im c : Nat} {h : Heap} {K : Value → Heap → Prop} (hm : h[im]? = some (.gmap .str c (tmap []))) (hk : K (.slice none 0 0) h) : CallP Tryd.prog 38 [.map (some im)] h K := by
  refine callN_gc (Ren.scal rfl) (f38 ?_) hk
  have rg : iRangeG h (.map (some im)) = some (pt h.length 0, h ++ [.iter im c [] c]) := by simp only [iRangeG, hm]
  unfold T38
  simp only [rg, OH_some]
  have x0 : EX h (h ++ [.iter im c [] c]) := EX.append _ _
  have k0 : (h ++ [IObj.iter im c [] c])[h.length]? = some (.iter im c [] c) := get_last
  generalize h ++ [IObj.iter im c [] c] = g at x0 k0 ⊢
  refine loopL (σ := Unit) (fun _ => [.slice none 0 0]) (fun _ => g) (fun _ => True) (fun _ => 0) () rfl rfl trivial ?_
  rintro ⟨⟩ _ L hL
  rw [q38z6, nexts_all (x0.get hm) k0 (fun e he => by simp [tmap] at he)]
  simp only [NxP_some]
  intro pr hpr
  have : pr = (.tuple #[.bool false], g) := by simpa [tmap] using hpr
  subst this
  have x0' : iExt 0 (.tuple #[Value.bool false]) = some (.bool false) := rfl
  simp only [x0', OP_some, IfP_false]
  rw [q38z11]
  refine C54n ?_
  exact ⟨rfl, x0⟩

theorem seen_perm {seen : List Nat} {n : Nat} (hnd : seen.Nodup) (hlt : ∀ b ∈ seen, b < n) (hall : ∀ b, b < n → b ∈ seen) : seen.Perm (List.range n) :=
  (List.perm_ext_iff_of_nodup hnd List.nodup_range).2 fun a => by rw [List.mem_range]; exact ⟨hlt a, hall a⟩

theorem range_map {α β : Type} (l : List α) (d : α) (f : α → β) : (List.range l.length).map (fun b => f (l.getD b d)) = l.map f := by
  apply List.ext_getElem
  · simp
  · intro i h1 h2
    simp at h1
    simp [h1]

/-- The keys of a map in order. -/
theorem C38 {im c : Nat} {l : List (List UInt8 × List UInt8)} {h : Heap} {K : Value → Heap → Prop} (hm : h[im]? = some (.gmap .str c (tmap l))) (hc : l.length ≤ c) (h0 : l ≠ []) (hl : l.length ≤ 1000000) (hk : K (sl 9 h.length 0 l.length) (h ++ [.arr 9 ((sortS (l.map Prod.fst)).map S)])) : CallP Tryd.prog 38 [.map (some im)] h K := by
  have hpos : 0 < l.length := List.length_pos_iff.2 h0
  have plain : plainObj (.arr 9 ((sortS (l.map Prod.fst)).map S)) = true := by
    simp only [plainObj, List.all_map, List.all_eq_true]
    intro x _; rfl
  refine callN_new (V := fun i => sl 9 i 0 l.length) (Ren.sl 9 0 _) plain (f38 ?_) hk
  have rg : iRangeG h (.map (some im)) = some (pt h.length 0, h ++ [.iter im c [] c]) := by simp only [iRangeG, hm]
  unfold T38
  simp only [rg, OH_some]
  have hil : im < h.length := (List.getElem?_eq_some_iff.1 hm).1
  have hlt : ∀ e ∈ tmap l, e.1 < c := fun e he => Nat.lt_of_lt_of_le (tmap_lt he) hc
  refine loopL (σ := List Nat × Value × Heap) (fun q => [q.2.1]) (fun q => q.2.2) (fun q => q.1.Nodup ∧ (∀ b ∈ q.1, b < l.length) ∧ EX h q.2.2 ∧ q.2.2[h.length]? = some (.iter im c q.1 c) ∧ OwnS (h.length + 1) q.2.2 9 q.2.1 (q.1.map fun b => S (l.getD b ([], [])).1)) (fun q => l.length - q.1.length)
    ([], .slice none 0 0, h ++ [.iter im c [] c]) rfl rfl ⟨List.nodup_nil, fun b hb => by simp at hb, EX.append _ _, get_last, .inl ⟨rfl, rfl⟩⟩ ?_
  rintro ⟨seen, vo, g⟩ ⟨hnd, hsl, xg, hi, own⟩ L hL
  simp only at hnd hsl xg hi own hL ⊢
  have hsn : seen.length ≤ l.length := by
    have := nodup_le hnd (m := List.range l.length) fun b hb => List.mem_range.2 (hsl b hb)
    simpa using this
  rw [q38z6, nexts_all (xg.get hm) hi hlt]
  simp only [NxP_some]
  intro pr hpr
  rcases List.mem_append.1 hpr with hpr | hpr
  · split at hpr
    · rename_i hemp
      have : pr = (.tuple #[.bool false], g) := by simpa using hpr
      subst this
      have x0' : iExt 0 (.tuple #[Value.bool false]) = some (.bool false) := rfl
      simp only [x0', OP_some, IfP_false]
      have hall : ∀ b, b < l.length → b ∈ seen := by
        intro b hb
        apply Classical.byContradiction
        intro hns
        have : (b, S l[b].1, S l[b].2) ∈ (tmap l).filter fun e => !seen.contains e.1 := List.mem_filter.2 ⟨tmap_mem.2 ⟨l[b], by simp [hb], rfl, rfl⟩, by simpa using hns⟩
        rw [List.isEmpty_iff.1 hemp] at this
        simp at this
      have hp := seen_perm hnd hsl hall
      have hpm : (seen.map fun b => (l.getD b ([], [])).1).Perm (l.map Prod.fst) := by
        have := hp.map fun b => (l.getD b ([], [])).1
        rwa [range_map l ([], []) Prod.fst] at this
      have hlen : seen.length = l.length := by simpa using hp.length_eq
      have hml : (seen.map fun b => (l.getD b ([], [])).1).length = l.length := by simp [hlen]
      rcases own with ⟨_, e2⟩ | ⟨j, hj, rfl, hg⟩
      · have : seen = [] := by simpa using e2
        subst this
        simp at hlen; omega
      · rw [q38z11]
        have hg' : g[j]? = some (.arr 9 ((seen.map fun b => (l.getD b ([], [])).1).map S)) := by rw [hg, List.map_map]; rfl
        have e1 : (seen.map fun b => S (l.getD b ([], [])).1).length = (seen.map fun b => (l.getD b ([], [])).1).length := by simp
        rw [e1]
        refine C54 (by intro hn; rw [hn] at hml; simp at hml; omega) (by rw [hml]; omega) hg' ?_
        refine ⟨xg.set (by omega) _, j, by omega, ?_, by rw [hml]⟩
        rw [List.getElem?_set_self (List.getElem?_eq_some_iff.1 hg).1, sortS_of_perm hpm]
    · simp at hpr
  · obtain ⟨e, he, rfl⟩ := List.mem_map.1 hpr
    obtain ⟨he1, he2⟩ := List.mem_filter.1 he
    obtain ⟨p, hp, k1, k2⟩ := tmap_mem.1 he1
    have hel := tmap_lt he1
    have hns : e.1 ∉ seen := by simpa using he2
    have x1 : iExt 0 (.tuple #[.bool true, e.2.1, e.2.2]) = some (.bool true) := rfl
    have hgl := (List.getElem?_eq_some_iff.1 hi).1
    have hi2 : (g.set h.length (.iter im c (seen ++ [e.1]) c))[h.length]? = some (.iter im c (seen ++ [e.1]) c) := List.getElem?_set_self hgl
    have hm2 : (g.set h.length (.iter im c (seen ++ [e.1]) c))[im]? = some (.gmap .str c (tmap l)) := by rw [List.getElem?_set_ne (by omega)]; exact xg.get hm
    have en : iEntry (g.set h.length (.iter im c (seen ++ [e.1]) c)) (pt h.length 0) = some (.tuple #[S p.1, S p.2]) := by
      simp only [iEntry, pt, hi2, hm2, List.getLast?_concat, if_true, tmap_find hp, Option.map_some]
    have x2 : iExt 0 (.tuple #[S p.1, S p.2]) = some (S p.1) := rfl
    simp only [x1, OP_some, IfP_true, en, x2]
    have xg2 : EX h (g.set h.length (.iter im c (seen ++ [e.1]) c)) := xg.set (Nat.le_refl _) _
    have own2 : OwnS (h.length + 1) (g.set h.length (.iter im c (seen ++ [e.1]) c)) 9 vo (seen.map fun b => S (l.getD b ([], [])).1) := own.keep fun d n hv hd => by rw [List.getElem?_set_ne (by omega)]
    have hsn2 : seen.length + 1 ≤ l.length := by
      have := nodup_le (l := seen ++ [e.1]) (m := List.range l.length) (List.nodup_append.2 ⟨hnd, by simp, by simpa using fun a ha (h : a = e.1) => hns (h ▸ ha)⟩) fun b hb => by
        rcases List.mem_append.1 hb with hb | hb
        · exact List.mem_range.2 (hsl b hb)
        · rw [List.mem_singleton.1 hb]; exact List.mem_range.2 hel
      simpa using this
    generalize g.set h.length (.iter im c (seen ++ [e.1]) c) = ga at hi2 xg2 own2 ⊢
    refine app1p own2 (by simp; omega) (by simp [maxLen]; omega) rfl rfl ?_
    intro w1 g3 _ hlen3 hold hnew
    have hgal := (List.getElem?_eq_some_iff.1 hi2).1
    have keep : ∀ d, d < h.length + 1 → g3[d]? = ga[d]? := fun d hd => hold d (by omega) fun n hv => by have := (own2.lt hv).1; omega
    simp only [OH_some, true_and]
    have hmap : (seen ++ [e.1]).map (fun b => S (l.getD b ([], [])).1) = seen.map (fun b => S (l.getD b ([], [])).1) ++ [S p.1] := by
      rw [List.map_append]
      simp [hp]
    refine hL (seen ++ [e.1], sl 9 (ga.length + 1) 0 ((seen.map fun b => S (l.getD b ([], [])).1).length + 1), g3) ⟨List.nodup_append.2 ⟨hnd, by simp, by simpa using fun a ha (h : a = e.1) => hns (h ▸ ha)⟩, fun b hb => ?_, ⟨by have := xg2.1; show h.length ≤ g3.length; omega, fun d hd => by rw [keep d (by omega)]; exact xg2.2 d hd⟩, by rw [keep _ (by omega)]; exact hi2, .inr ⟨ga.length + 1, by omega, by rw [hmap]; simp, by rw [hmap]; exact hnew⟩⟩ (by show l.length - (seen ++ [e.1]).length < l.length - seen.length; simp; omega)
    rcases List.mem_append.1 hb with hb | hb
    · exact hsl b hb
    · rw [List.mem_singleton.1 hb]; exact hel

end Go.Proofs.YthplaillblmgfaaDoor


namespace Go.Proofs.YthplaillblmgfaaDoor
open Go.Sim
variable (P : Program) (K : VK)
/-! F10: pommel/mark.Huffman -/
noncomputable def c10 : ICode := .seq (.ops none [⟨(some 2), .p (.mv (.const (.slice none 0 0)))⟩,
 ⟨(some 3), .p (.mv (.const (.int .i64 (0))))⟩,
 ⟨(some 4), .p (.mv (.const (.int .i64 (0))))⟩])
 (.seq (.ops none [⟨(some 5), .p (.mv (.tmp 0))⟩,
 ⟨(some 6), .call 27 [(.const (.int .i64 (0))), (.tmp 5)]⟩,
 ⟨(some 7), .p (.ext (.tmp 6) 0)⟩,
 ⟨(some 8), .p (.ext (.tmp 6) 1)⟩,
 ⟨(some 9), .p (.ext (.tmp 6) 2)⟩,
 ⟨(some 2), .p (.mv (.tmp 7))⟩,
 ⟨(some 3), .p (.mv (.tmp 8))⟩,
 ⟨(some 4), .p (.mv (.tmp 9))⟩])
 (.ret))
theorem k10 : compFn Tryd.prog 10 [[], []] = some (10, c10, [.tmp 2, .tmp 3, .tmp 4]) := by kernel_rfl
def T10 (weights0 : Value) (h : Heap) : Prop :=
 CallP P 27 [(.int .i64 (0)), weights0] h fun x6 h_1 =>
 OP (iExt 0 x6) fun x7 =>
 OP (iExt 1 x6) fun x8 =>
 OP (iExt 2 x6) fun x9 =>
 K (.tuple #[x7, x8, x9]) h_1
theorem e10 (weights0 : Value) (h : Heap) : iwpP P c10 (bodyP [.tmp 2, .tmp 3, .tmp 4] K) (frame0 [weights0]) h = T10 P K weights0 h := by kernel_rfl
theorem f10 {K : VK} {weights0 : Value} {h : Heap} (H : T10 Tryd.prog K weights0 h) : CallP Tryd.prog 10 [weights0] h K :=
 callP_intro k10 (Nat.le_of_ble_eq_true rfl) ((e10 Tryd.prog K weights0 h).mpr H)
/-! F11: pommel/mark.Tucker -/
noncomputable def c11 : ICode := .seq (.ops none [⟨(some 2), .p (.mv (.const (.slice none 0 0)))⟩,
 ⟨(some 3), .p (.mv (.const (.int .i64 (0))))⟩,
 ⟨(some 4), .p (.mv (.const (.int .i64 (0))))⟩])
 (.seq (.ops none [⟨(some 5), .p (.mv (.tmp 0))⟩,
 ⟨(some 6), .call 27 [(.const (.int .i64 (1))), (.tmp 5)]⟩,
 ⟨(some 7), .p (.ext (.tmp 6) 0)⟩,
 ⟨(some 8), .p (.ext (.tmp 6) 1)⟩,
 ⟨(some 9), .p (.ext (.tmp 6) 2)⟩,
 ⟨(some 2), .p (.mv (.tmp 7))⟩,
 ⟨(some 3), .p (.mv (.tmp 8))⟩,
 ⟨(some 4), .p (.mv (.tmp 9))⟩])
 (.ret))
theorem k11 : compFn Tryd.prog 11 [[], []] = some (10, c11, [.tmp 2, .tmp 3, .tmp 4]) := by kernel_rfl
def T11 (weights0 : Value) (h : Heap) : Prop :=
 CallP P 27 [(.int .i64 (1)), weights0] h fun x6 h_1 =>
 OP (iExt 0 x6) fun x7 =>
 OP (iExt 1 x6) fun x8 =>
 OP (iExt 2 x6) fun x9 =>
 K (.tuple #[x7, x8, x9]) h_1
theorem e11 (weights0 : Value) (h : Heap) : iwpP P c11 (bodyP [.tmp 2, .tmp 3, .tmp 4] K) (frame0 [weights0]) h = T11 P K weights0 h := by kernel_rfl
theorem f11 {K : VK} {weights0 : Value} {h : Heap} (H : T11 Tryd.prog K weights0 h) : CallP Tryd.prog 11 [weights0] h K :=
 callP_intro k11 (Nat.le_of_ble_eq_true rfl) ((e11 Tryd.prog K weights0 h).mpr H)
/-! F27: pommel/mark.best -/
noncomputable def c27z8 : ICode := .ops none [⟨(some 27), .p (.pick (.tmp 23) (.const (.bool true)) (.tmp 26))⟩,
 ⟨(some 20), .p (.mv (.tmp 27))⟩]
noncomputable def c27z6 : ICode := .seq (.ops (some (23, false)) [⟨(some 24), .p (.mv (.tmp 1))⟩,
 ⟨(some 25), .p (.lenSl (.tmp 24))⟩,
 ⟨(some 26), .p (.bin .gtr (.tmp 25) (.const (.int .i64 (12))))⟩])
 (.cut [1, 2, 23, 26] c27z8)
noncomputable def c27z18 : ICode := .ops none [⟨(some 41), .p (.pick (.tmp 37) (.const (.bool true)) (.tmp 40))⟩,
 ⟨(some 28), .p (.mv (.tmp 41))⟩]
noncomputable def c27z16 : ICode := .seq (.ops (some (37, false)) [⟨(some 38), .p (.mv (.tmp 1))⟩,
 ⟨(some 39), .call 48 [(.tmp 38)]⟩,
 ⟨(some 40), .p (.bin .gtr (.tmp 39) (.const (.int .i64 (1000))))⟩])
 (.cut [1, 2, 37, 40] c27z18)
noncomputable def c27z14 : ICode := .seq (.ops none [⟨(some 36), .p (.pick (.tmp 32) (.const (.bool true)) (.tmp 35))⟩,
 ⟨(some 37), .p (.mv (.tmp 36))⟩])
 (.cut [1, 2, 37] c27z16)
noncomputable def c27z12 : ICode := .seq (.ops (some (32, false)) [⟨(some 33), .p (.mv (.tmp 1))⟩,
 ⟨(some 34), .call 47 [(.tmp 33)]⟩,
 ⟨(some 35), .p (.bin .lss (.tmp 34) (.const (.int .i64 (0))))⟩])
 (.cut [1, 2, 32, 35] c27z14)
noncomputable def c27z10 : ICode := .cond (.tmp 28) (.seq (.ops none [⟨(some 4), .p (.mv (.const (.slice none 0 0)))⟩,
 ⟨(some 5), .p (.mv (.const (.int .i64 (0))))⟩,
 ⟨(some 6), .p (.mv (.const (.int .i64 (1))))⟩])
 (.ret))
 (.skip)
noncomputable def c27z4 : ICode := .cond (.tmp 20) (.seq (.ops none [⟨(some 4), .p (.mv (.const (.slice none 0 0)))⟩,
 ⟨(some 5), .p (.mv (.const (.int .i64 (0))))⟩,
 ⟨(some 6), .p (.mv (.const (.int .i64 (3))))⟩])
 (.ret))
 (.seq (.seq (.ops none [⟨(some 29), .p (.mv (.tmp 1))⟩,
 ⟨(some 30), .p (.lenSl (.tmp 29))⟩,
 ⟨(some 31), .p (.bin .lss (.tmp 30) (.const (.int .i64 (2))))⟩,
 ⟨(some 32), .p (.mv (.tmp 31))⟩])
 (.cut [1, 2, 32] c27z12)) c27z10)
noncomputable def c27z50 : ICode := .ops none [⟨(some 73), .p (.mv (.tmp 12))⟩,
 ⟨(some 74), .p (.bin .add (.tmp 73) (.const (.int .i64 (1))))⟩,
 ⟨(some 12), .p (.mv (.tmp 74))⟩]
noncomputable def c27z43 : ICode := .seq (.seq (.ops none [⟨(some 71), .p (.mv (.tmp 12))⟩,
 ⟨(some 72), .p (.bin .leq (.tmp 71) (.const (.int .i64 (10))))⟩])
 (.cond (.tmp 72) (.skip)
 (.exit 5)))
 (.seq (.block 6 (.seq (.ops none [⟨(some 75), .p (.mv (.tmp 7))⟩,
 ⟨(some 76), .p (.mv (.tmp 11))⟩,
 ⟨(some 77), .p (.mv (.tmp 12))⟩,
 ⟨(some 78), .callv (.tmp 75) [(.tmp 76), (.tmp 77)]⟩,
 ⟨(some 13), .p (.mv (.tmp 78))⟩])
 (.seq (.ops none [⟨(some 79), .p (.mv (.tmp 13))⟩,
 ⟨(some 80), .p (.bin .leq (.tmp 79) (.const (.int .i64 (1024))))⟩])
 (.cond (.tmp 80) (.dops [(none, [⟨(some 81), .p (.mv (.tmp 9)), 0⟩,
 ⟨(some 82), .p (.mv (.tmp 10)), 0⟩,
 ⟨(some 83), .p (.adrSl 1 (.tmp 81) (.tmp 82)), 3⟩,
 ⟨(some 84), .l (.load false 1 (.tmp 83)), 7⟩,
 ⟨(some 85), .p (.mv (.tmp 11)), 0⟩,
 ⟨(some 86), .p (.mv (.tmp 9)), 0⟩,
 ⟨(some 87), .p (.mv (.tmp 10)), 0⟩,
 ⟨(some 88), .p (.adrSl 1 (.tmp 86) (.tmp 87)), 96⟩,
 ⟨(some 89), .l (.load false 1 (.tmp 88)), 224⟩,
 ⟨(some 90), .p (.mv (.tmp 11)), 0⟩,
 ⟨(some 91), .p (.adrSl 1 (.tmp 89) (.tmp 90)), 992⟩,
 ⟨(some 92), .l (.load false 1 (.tmp 91)), 2016⟩,
 ⟨(some 93), .p (.mv (.tmp 1)), 0⟩,
 ⟨(some 94), .p (.mv (.tmp 10)), 0⟩,
 ⟨(some 95), .p (.adrSl 1 (.tmp 93) (.tmp 94)), 12288⟩,
 ⟨(some 96), .l (.load false 1 (.tmp 95)), 28672⟩,
 ⟨(some 97), .p (.mv (.tmp 12)), 0⟩,
 ⟨(some 98), .p (.bin .mul (.tmp 96) (.tmp 97)), 126976⟩,
 ⟨(some 99), .p (.mv (.tmp 9)), 0⟩,
 ⟨(some 100), .p (.mv (.tmp 10)), 0⟩,
 ⟨(some 101), .p (.bin .add (.tmp 100) (.const (.int .i64 (1)))), 524288⟩,
 ⟨(some 102), .p (.adrSl 1 (.tmp 99) (.tmp 101)), 1835008⟩,
 ⟨(some 103), .l (.load false 1 (.tmp 102)), 3932160⟩,
 ⟨(some 104), .p (.mv (.tmp 13)), 0⟩,
 ⟨(some 105), .p (.adrSl 1 (.tmp 103) (.tmp 104)), 16515072⟩,
 ⟨(some 106), .l (.load false 1 (.tmp 105)), 33292288⟩,
 ⟨(some 107), .p (.bin .add (.tmp 98) (.tmp 106)), 67104768⟩,
 ⟨(some 108), .p (.minmax false [(.tmp 92), (.tmp 107)]), 134217696⟩,
 ⟨(some 109), .p (.adrSl 1 (.tmp 84) (.tmp 85)), 268435455⟩,
 ⟨none, .e (.store 1 (.tmp 109) (.tmp 108)), 536870911⟩])])
 (.skip)))))
 (.cut [1, 7, 9, 10, 11, 12, 67, 68] c27z50))
noncomputable def c27z51 : ICode := .ops none [⟨(some 110), .p (.bin .add (.tmp 68) (.const (.int .i64 (1))))⟩,
 ⟨(some 68), .p (.mv (.tmp 110))⟩]
noncomputable def c27z38 : ICode := .cut [1, 7, 9, 10, 67, 68] c27z51
noncomputable def c27z35 : ICode := .seq (.ops none [⟨(some 69), .p (.bin .lss (.tmp 68) (.tmp 67))⟩])
 (.seq (.cond (.tmp 69) (.skip)
 (.exit 3))
 (.seq (.block 4 (.seq (.ops none [⟨(some 70), .p (.mv (.tmp 68))⟩,
 ⟨(some 11), .p (.mv (.tmp 70))⟩])
 (.seq (.ops none [⟨(some 12), .p (.mv (.const (.int .i64 (1))))⟩])
 (.block 5 (.loop [1, 7, 9, 10, 11, 67, 68] [12] c27z43))))) c27z38))
noncomputable def c27z52 : ICode := .ops none [⟨(some 56), .p (.mv (.tmp 10))⟩,
 ⟨(some 57), .p (.bin .sub (.tmp 56) (.const (.int .i64 (1))))⟩,
 ⟨(some 10), .p (.mv (.tmp 57))⟩]
noncomputable def c27z30 : ICode := .cut [1, 7, 9, 10] c27z52
noncomputable def c27z27 : ICode := .seq (.seq (.ops none [⟨(some 54), .p (.mv (.tmp 10))⟩,
 ⟨(some 55), .p (.bin .geq (.tmp 54) (.const (.int .i64 (0))))⟩])
 (.cond (.tmp 55) (.skip)
 (.exit 1)))
 (.seq (.block 2 (.seq (.ops none [⟨(some 58), .p (.mv (.tmp 9))⟩,
 ⟨(some 59), .p (.mv (.tmp 10))⟩,
 ⟨(some 60), .e (.mkSl 3 1 [(.int .i64 (0))] [(0, 1, (.const (.int .i64 (240000))))])⟩,
 ⟨(some 61), .call 50 [(.tmp 60), (.const (.int .i64 (1025)))]⟩,
 ⟨(some 62), .p (.adrSl 1 (.tmp 58) (.tmp 59))⟩,
 ⟨none, .e (.store 1 (.tmp 62) (.tmp 61))⟩])
 (.seq (.ops none [⟨(some 63), .p (.mv (.tmp 9))⟩,
 ⟨(some 64), .p (.mv (.tmp 10))⟩,
 ⟨(some 65), .p (.adrSl 1 (.tmp 63) (.tmp 64))⟩,
 ⟨(some 66), .l (.load false 1 (.tmp 65))⟩,
 ⟨(some 67), .p (.lenSl (.tmp 66))⟩,
 ⟨(some 68), .p (.mv (.const (.int .i64 (0))))⟩])
 (.block 3 (.loop [1, 7, 9, 10, 67] [68] c27z35))))) c27z30)
noncomputable def c27z67 : ICode := .seq (.seq (.ops none [⟨(some 118), .p (.mv (.tmp 18))⟩,
 ⟨(some 119), .p (.bin .leq (.tmp 118) (.const (.int .i64 (10))))⟩])
 (.cond (.tmp 119) (.skip)
 (.exit 9)))
 (.seq (.block 10 (.seq (.ops none [⟨(some 122), .p (.mv (.tmp 7))⟩,
 ⟨(some 123), .p (.mv (.tmp 15))⟩,
 ⟨(some 124), .p (.mv (.tmp 18))⟩,
 ⟨(some 125), .callv (.tmp 122) [(.tmp 123), (.tmp 124)]⟩,
 ⟨(some 19), .p (.mv (.tmp 125))⟩])
 (.seq (.dops [(none, [⟨(some 126), .p (.mv (.tmp 19)), 0⟩,
 ⟨(some 127), .p (.bin .leq (.tmp 126) (.const (.int .i64 (1024)))), 1⟩,
 ⟨(some 128), .p (.mv (.tmp 127)), 3⟩]),
 ((some (128, true)), [⟨(some 129), .p (.mv (.tmp 17)), 7⟩,
 ⟨(some 130), .p (.mv (.tmp 18)), 7⟩,
 ⟨(some 131), .p (.bin .mul (.tmp 129) (.tmp 130)), 31⟩,
 ⟨(some 132), .p (.mv (.tmp 9)), 7⟩,
 ⟨(some 133), .p (.mv (.tmp 16)), 7⟩,
 ⟨(some 134), .p (.bin .add (.tmp 133) (.const (.int .i64 (1)))), 135⟩,
 ⟨(some 135), .p (.adrSl 1 (.tmp 132) (.tmp 134)), 455⟩,
 ⟨(some 136), .l (.load false 1 (.tmp 135)), 967⟩,
 ⟨(some 137), .p (.mv (.tmp 19)), 7⟩,
 ⟨(some 138), .p (.adrSl 1 (.tmp 136) (.tmp 137)), 4039⟩,
 ⟨(some 139), .l (.load false 1 (.tmp 138)), 8135⟩,
 ⟨(some 140), .p (.bin .add (.tmp 131) (.tmp 139)), 16383⟩,
 ⟨(some 141), .p (.mv (.tmp 9)), 7⟩,
 ⟨(some 142), .p (.mv (.tmp 16)), 7⟩,
 ⟨(some 143), .p (.adrSl 1 (.tmp 141) (.tmp 142)), 98311⟩,
 ⟨(some 144), .l (.load false 1 (.tmp 143)), 229383⟩,
 ⟨(some 145), .p (.mv (.tmp 15)), 7⟩,
 ⟨(some 146), .p (.adrSl 1 (.tmp 144) (.tmp 145)), 1015815⟩,
 ⟨(some 147), .l (.load false 1 (.tmp 146)), 2064391⟩,
 ⟨(some 148), .p (.bin .eql (.tmp 140) (.tmp 147)), 4194303⟩]),
 (none, [⟨(some 149), .p (.pick (.tmp 128) (.tmp 148) (.const (.bool false))), 8388607⟩])])
 (.cond (.tmp 149) (.seq (.ops none [⟨(some 150), .p (.mv (.tmp 14))⟩,
 ⟨(some 151), .p (.mv (.tmp 18))⟩,
 ⟨(some 152), .e (.mkSl 3 1 [(.int .i64 (0))] [(0, 1, (.tmp 151))])⟩,
 ⟨(some 153), .e (.app 3 1 8 (.tmp 150) (.tmp 152))⟩,
 ⟨(some 154), .p (.mv (.tmp 19))⟩,
 ⟨(some 14), .p (.mv (.tmp 153))⟩,
 ⟨(some 15), .p (.mv (.tmp 154))⟩])
 (.exit 9))
 (.skip)))))
 (.ops none [⟨(some 120), .p (.mv (.tmp 18))⟩,
 ⟨(some 121), .p (.bin .add (.tmp 120) (.const (.int .i64 (1))))⟩,
 ⟨(some 18), .p (.mv (.tmp 121))⟩]))
noncomputable def c27z75 : ICode := .ops none [⟨(some 155), .p (.bin .add (.tmp 113) (.const (.int .i64 (1))))⟩,
 ⟨(some 113), .p (.mv (.tmp 155))⟩]
noncomputable def c27z62 : ICode := .cut [7, 9, 14, 15, 111, 112, 113] c27z75
noncomputable def c27z59 : ICode := .seq (.ops none [⟨(some 114), .p (.bin .lss (.tmp 113) (.tmp 112))⟩])
 (.seq (.cond (.tmp 114) (.skip)
 (.exit 7))
 (.seq (.block 8 (.seq (.ops none [⟨(some 115), .p (.mv (.tmp 113))⟩,
 ⟨(some 116), .p (.adrSl 1 (.tmp 111) (.tmp 113))⟩,
 ⟨(some 117), .l (.load false 1 (.tmp 116))⟩,
 ⟨(some 16), .p (.mv (.tmp 115))⟩,
 ⟨(some 17), .p (.mv (.tmp 117))⟩])
 (.seq (.ops none [⟨(some 18), .p (.mv (.const (.int .i64 (1))))⟩])
 (.block 9 (.loop [7, 9, 16, 17, 111, 112, 113] [14, 15, 18] c27z67))))) c27z62))
noncomputable def c27z76 : ICode := .seq (.dops [(none, [⟨(some 156), .p (.mv (.tmp 14)), 0⟩,
 ⟨(some 157), .p (.mv (.tmp 9)), 0⟩,
 ⟨(some 158), .p (.adrSl 1 (.tmp 157) (.const (.int .i64 (0)))), 2⟩,
 ⟨(some 159), .l (.load false 1 (.tmp 158)), 6⟩,
 ⟨(some 160), .p (.adrSl 1 (.tmp 159) (.const (.int .i64 (0)))), 14⟩,
 ⟨(some 161), .l (.load false 1 (.tmp 160)), 30⟩,
 ⟨(some 4), .p (.mv (.tmp 156)), 1⟩,
 ⟨(some 5), .p (.mv (.tmp 161)), 127⟩,
 ⟨(some 6), .p (.mv (.const (.int .i64 (0)))), 255⟩])])
 (.ret)
noncomputable def c27z56 : ICode := .cut [9, 14] c27z76
noncomputable def c27z53 : ICode := .seq (.ops none [⟨(some 14), .p (.mv (.const (.slice none 0 0)))⟩])
 (.seq (.ops none [⟨(some 15), .p (.mv (.const (.int .i64 (0))))⟩])
 (.seq (.seq (.ops none [⟨(some 111), .p (.mv (.tmp 1))⟩,
 ⟨(some 112), .p (.lenSl (.tmp 111))⟩,
 ⟨(some 113), .p (.mv (.const (.int .i64 (0))))⟩])
 (.block 7 (.loop [7, 9, 111, 112] [14, 15, 113] c27z59))) c27z56))
noncomputable def c27z24 : ICode := .cut [1, 7, 9] c27z53
noncomputable def c27z2 : ICode := .seq (.ops none [⟨(some 42), .p (.fn 49 [] [(.tmp 2)])⟩,
 ⟨(some 7), .p (.mv (.tmp 42))⟩])
 (.seq (.ops none [⟨(some 43), .p (.mv (.tmp 1))⟩,
 ⟨(some 44), .p (.lenSl (.tmp 43))⟩,
 ⟨(some 8), .p (.mv (.tmp 44))⟩])
 (.seq (.ops none [⟨(some 45), .p (.mv (.tmp 8))⟩,
 ⟨(some 46), .p (.bin .add (.tmp 45) (.const (.int .i64 (1))))⟩,
 ⟨(some 47), .e (.make 22 24 [(.slice none 0 0)] (.tmp 46) (.tmp 46))⟩,
 ⟨(some 9), .p (.mv (.tmp 47))⟩])
 (.seq (.ops none [⟨(some 48), .p (.mv (.tmp 9))⟩,
 ⟨(some 49), .p (.mv (.tmp 8))⟩,
 ⟨(some 50), .e (.make 3 8 [(.int .i64 (0))] (.const (.int .i64 (1025))) (.const (.int .i64 (1025))))⟩,
 ⟨(some 51), .p (.adrSl 1 (.tmp 48) (.tmp 49))⟩,
 ⟨none, .e (.store 1 (.tmp 51) (.tmp 50))⟩])
 (.seq (.seq (.ops none [⟨(some 52), .p (.mv (.tmp 8))⟩,
 ⟨(some 53), .p (.bin .sub (.tmp 52) (.const (.int .i64 (1))))⟩,
 ⟨(some 10), .p (.mv (.tmp 53))⟩])
 (.block 1 (.loop [1, 7, 9] [10] c27z27))) c27z24))))
noncomputable def c27 : ICode := .seq (.ops none [⟨(some 2), .e (.box 3 (.tmp 0))⟩,
 ⟨(some 4), .p (.mv (.const (.slice none 0 0)))⟩,
 ⟨(some 5), .p (.mv (.const (.int .i64 (0))))⟩,
 ⟨(some 6), .p (.mv (.const (.int .i64 (0))))⟩])
 (.seq (.block 0 (.seq (.seq (.ops none [⟨(some 21), .l (.load false 1 (.tmp 2))⟩,
 ⟨(some 22), .p (.bin .geq (.tmp 21) (.const (.int .i64 (2))))⟩,
 ⟨(some 23), .p (.mv (.tmp 22))⟩])
 (.cut [1, 2, 23] c27z6)) c27z4)) c27z2)
theorem k27 : compFn Tryd.prog 27 [[], [1, 2, 23], [1, 2, 23, 26], [], [], [1, 2, 32], [1, 2, 32, 35], [1, 2, 37], [1, 2, 37, 40], [], [], [], [], [], [], [], [], [1, 7, 9], [10], [], [], [], [], [1, 7, 9, 10, 67], [68], [], [], [], [], [1, 7, 9, 10, 11, 67, 68], [12], [], [], [], [], [1, 7, 9, 10, 11, 12, 67, 68], [1, 7, 9, 10, 67, 68], [1, 7, 9, 10], [1, 7, 9], [], [], [], [7, 9, 111, 112], [14, 15, 113], [], [], [], [], [7, 9, 16, 17, 111, 112, 113], [14, 15, 18], [], [], [], [], [], [], [7, 9, 14, 15, 111, 112, 113], [9, 14], []] = some (162, c27, [.tmp 4, .tmp 5, .tmp 6]) := by kernel_rfl
def K27z0 (_P : Program) (K : VK) : Kont := bodyP [.tmp 4, .tmp 5, .tmp 6] K
def K27z2 : Kont := thenK (iwpP P c27z2 (K27z0 P K)) (K27z0 P K)
def K27z3 : Kont := inBlockK 0 (K27z2 P K)
def K27z4 : Kont := thenK (iwpP P c27z4 (K27z3 P K)) (K27z3 P K)
def K27z10 : Kont := thenK (iwpP P c27z10 (K27z3 P K)) (K27z3 P K)
def K27z24 : Kont := thenK (iwpP P c27z24 (K27z0 P K)) (K27z0 P K)
def K27z26 : Kont := inBlockK 1 (K27z24 P K)
def K27z27 (weights1 after7 least9 : Value) (L1 : LK) : Kont := thenK (fun f' h'' => (([1, 7, 9] : List Nat).map f' : List Value) = [weights1, after7, least9] ∧ L1 (([10] : List Nat).map f') h'') (K27z26 P K)
def K27z30 (weights1 after7 least9 : Value) (L1 : LK) : Kont := thenK (iwpP P c27z30 (K27z27 P K weights1 after7 least9 L1)) (K27z27 P K weights1 after7 least9 L1)
def K27z31 (weights1 after7 least9 : Value) (L1 : LK) : Kont := inBlockK 2 (K27z30 P K weights1 after7 least9 L1)
def K27z34 (weights1 after7 least9 : Value) (L1 : LK) : Kont := inBlockK 3 (K27z31 P K weights1 after7 least9 L1)
def K27z35 (weights1 after7 least9 i10 x67 : Value) (L1 L2 : LK) : Kont := thenK (fun f' h'' => (([1, 7, 9, 10, 67] : List Nat).map f' : List Value) = [weights1, after7, least9, i10, x67] ∧ L2 (([68] : List Nat).map f') h'') (K27z34 P K weights1 after7 least9 L1)
def K27z38 (weights1 after7 least9 i10 x67 : Value) (L1 L2 : LK) : Kont := thenK (iwpP P c27z38 (K27z35 P K weights1 after7 least9 i10 x67 L1 L2)) (K27z35 P K weights1 after7 least9 i10 x67 L1 L2)
def K27z39 (weights1 after7 least9 i10 x67 : Value) (L1 L2 : LK) : Kont := inBlockK 4 (K27z38 P K weights1 after7 least9 i10 x67 L1 L2)
def K27z42 (weights1 after7 least9 i10 x67 : Value) (L1 L2 : LK) : Kont := inBlockK 5 (K27z39 P K weights1 after7 least9 i10 x67 L1 L2)
def K27z43 (weights1 after7 least9 i10 at11 x67 x68 : Value) (L1 L2 L3 : LK) : Kont := thenK (fun f' h'' => (([1, 7, 9, 10, 11, 67, 68] : List Nat).map f' : List Value) = [weights1, after7, least9, i10, at11, x67, x68] ∧ L3 (([12] : List Nat).map f') h'') (K27z42 P K weights1 after7 least9 i10 x67 L1 L2)
def K27z56 : Kont := thenK (iwpP P c27z56 (K27z0 P K)) (K27z0 P K)
def K27z58 : Kont := inBlockK 7 (K27z56 P K)
def K27z59 (after7 least9 x111 x112 : Value) (L1 : LK) : Kont := thenK (fun f' h'' => (([7, 9, 111, 112] : List Nat).map f' : List Value) = [after7, least9, x111, x112] ∧ L1 (([14, 15, 113] : List Nat).map f') h'') (K27z58 P K)
def K27z62 (after7 least9 x111 x112 : Value) (L1 : LK) : Kont := thenK (iwpP P c27z62 (K27z59 P K after7 least9 x111 x112 L1)) (K27z59 P K after7 least9 x111 x112 L1)
def K27z63 (after7 least9 x111 x112 : Value) (L1 : LK) : Kont := inBlockK 8 (K27z62 P K after7 least9 x111 x112 L1)
def K27z66 (after7 least9 x111 x112 : Value) (L1 : LK) : Kont := inBlockK 9 (K27z63 P K after7 least9 x111 x112 L1)
def K27z67 (after7 least9 i16 w17 x111 x112 x113 : Value) (L1 L2 : LK) : Kont := thenK (fun f' h'' => (([7, 9, 16, 17, 111, 112, 113] : List Nat).map f' : List Value) = [after7, least9, i16, w17, x111, x112, x113] ∧ L2 (([14, 15, 18] : List Nat).map f') h'') (K27z66 P K after7 least9 x111 x112 L1)
def p27z6 (weights1 kind2 x23 : Value) (h : Heap) : Prop := CutP (iwpP P c27z6 (K27z4 P K)) [1, 2, 23] [weights1, kind2, x23] h
def p27z8 (weights1 kind2 x23 x26 : Value) (h : Heap) : Prop := CutP (iwpP P c27z8 (K27z4 P K)) [1, 2, 23, 26] [weights1, kind2, x23, x26] h
def p27z12 (weights1 kind2 x32 : Value) (h : Heap) : Prop := CutP (iwpP P c27z12 (K27z10 P K)) [1, 2, 32] [weights1, kind2, x32] h
def p27z14 (weights1 kind2 x32 x35 : Value) (h : Heap) : Prop := CutP (iwpP P c27z14 (K27z10 P K)) [1, 2, 32, 35] [weights1, kind2, x32, x35] h
def p27z16 (weights1 kind2 x37 : Value) (h : Heap) : Prop := CutP (iwpP P c27z16 (K27z10 P K)) [1, 2, 37] [weights1, kind2, x37] h
def p27z18 (weights1 kind2 x37 x40 : Value) (h : Heap) : Prop := CutP (iwpP P c27z18 (K27z10 P K)) [1, 2, 37, 40] [weights1, kind2, x37, x40] h
def p27z27 (weights1 after7 least9 : Value) (L1 : LK) (xs : List Value) (h : Heap) : Prop := CutP (iwpP P c27z27 (K27z27 P K weights1 after7 least9 L1)) ([1, 7, 9] ++ [10]) ([weights1, after7, least9] ++ xs) h
def p27z35 (weights1 after7 least9 i10 x67 : Value) (L1 L2 : LK) (xs : List Value) (h : Heap) : Prop := CutP (iwpP P c27z35 (K27z35 P K weights1 after7 least9 i10 x67 L1 L2)) ([1, 7, 9, 10, 67] ++ [68]) ([weights1, after7, least9, i10, x67] ++ xs) h
def p27z43 (weights1 after7 least9 i10 at11 x67 x68 : Value) (L1 L2 L3 : LK) (xs : List Value) (h : Heap) : Prop := CutP (iwpP P c27z43 (K27z43 P K weights1 after7 least9 i10 at11 x67 x68 L1 L2 L3)) ([1, 7, 9, 10, 11, 67, 68] ++ [12]) ([weights1, after7, least9, i10, at11, x67, x68] ++ xs) h
def p27z50 (weights1 after7 least9 i10 at11 l12 x67 x68 : Value) (L1 L2 L3 : LK) (h : Heap) : Prop := CutP (iwpP P c27z50 (K27z43 P K weights1 after7 least9 i10 at11 x67 x68 L1 L2 L3)) [1, 7, 9, 10, 11, 12, 67, 68] [weights1, after7, least9, i10, at11, l12, x67, x68] h
def p27z51 (weights1 after7 least9 i10 x67 x68 : Value) (L1 L2 : LK) (h : Heap) : Prop := CutP (iwpP P c27z51 (K27z35 P K weights1 after7 least9 i10 x67 L1 L2)) [1, 7, 9, 10, 67, 68] [weights1, after7, least9, i10, x67, x68] h
def p27z52 (weights1 after7 least9 i10 : Value) (L1 : LK) (h : Heap) : Prop := CutP (iwpP P c27z52 (K27z27 P K weights1 after7 least9 L1)) [1, 7, 9, 10] [weights1, after7, least9, i10] h
def p27z53 (weights1 after7 least9 : Value) (h : Heap) : Prop := CutP (iwpP P c27z53 (K27z0 P K)) [1, 7, 9] [weights1, after7, least9] h
def p27z59 (after7 least9 x111 x112 : Value) (L1 : LK) (xs : List Value) (h : Heap) : Prop := CutP (iwpP P c27z59 (K27z59 P K after7 least9 x111 x112 L1)) ([7, 9, 111, 112] ++ [14, 15, 113]) ([after7, least9, x111, x112] ++ xs) h
def p27z67 (after7 least9 i16 w17 x111 x112 x113 : Value) (L1 L2 : LK) (xs : List Value) (h : Heap) : Prop := CutP (iwpP P c27z67 (K27z67 P K after7 least9 i16 w17 x111 x112 x113 L1 L2)) ([7, 9, 16, 17, 111, 112, 113] ++ [14, 15, 18]) ([after7, least9, i16, w17, x111, x112, x113] ++ xs) h
def p27z75 (after7 least9 out14 at15 x111 x112 x113 : Value) (L1 : LK) (h : Heap) : Prop := CutP (iwpP P c27z75 (K27z59 P K after7 least9 x111 x112 L1)) [7, 9, 14, 15, 111, 112, 113] [after7, least9, out14, at15, x111, x112, x113] h
def p27z76 (least9 out14 : Value) (h : Heap) : Prop := CutP (iwpP P c27z76 (K27z0 P K)) [9, 14] [least9, out14] h
theorem q27z8 (weights1 kind2 x23 x26 : Value) (h : Heap) : p27z8 P K weights1 kind2 x23 x26 h =
 (OP (iPick x23 (.bool true) x26) fun x27 =>
 IfP x27
 (K (.tuple #[(.slice none 0 0), (.int .i64 (0)), (.int .i64 (3))]) h)
 (OP (iLenSl weights1) fun x30 =>
 OP (iBin .lss x30 (.int .i64 (2))) fun x31 =>
 p27z12 P K weights1 kind2 x31 h)) := (CutP_def _ _ _ _).trans (by kernel_rfl)
theorem q27z6 (weights1 kind2 x23 : Value) (h : Heap) : p27z6 P K weights1 kind2 x23 h =
 (GdP x23 false
 (OP (iLenSl weights1) fun x25 =>
 OP (iBin .gtr x25 (.int .i64 (12))) fun x26 =>
 p27z8 P K weights1 kind2 x23 x26 h)
 (p27z8 P K weights1 kind2 x23 undef h)) := (CutP_def _ _ _ _).trans (by kernel_rfl)
theorem q27z18 (weights1 kind2 x37 x40 : Value) (h : Heap) : p27z18 P K weights1 kind2 x37 x40 h =
 (OP (iPick x37 (.bool true) x40) fun x41 =>
 IfP x41
 (K (.tuple #[(.slice none 0 0), (.int .i64 (0)), (.int .i64 (1))]) h)
 (OP (iLenSl weights1) fun x44 =>
 OP (iBin .add x44 (.int .i64 (1))) fun x46 =>
 OH (iMake 22 24 [(.slice none 0 0)] h x46 x46) fun x47 h_1 =>
 OH (iMake 3 8 [(.int .i64 (0))] h_1 (.int .i64 (1025)) (.int .i64 (1025))) fun x50 h_2 =>
 OP (iAdrSl 1 x47 x44) fun x51 =>
 OH (oStore 1 h_2 x51 x50) fun _ h_3 =>
 OP (iBin .sub x44 (.int .i64 (1))) fun x53 =>
 LoopP [x53] h_3 fun L1 xs hx =>
 p27z27 P K weights1 (.func (.func 49) #[] #[kind2]) x47 L1 xs hx)) := (CutP_def _ _ _ _).trans (by kernel_rfl)
theorem q27z16 (weights1 kind2 x37 : Value) (h : Heap) : p27z16 P K weights1 kind2 x37 h =
 (GdP x37 false
 (CallP P 48 [weights1] h fun x39 h_1 =>
 OP (iBin .gtr x39 (.int .i64 (1000))) fun x40 =>
 p27z18 P K weights1 kind2 x37 x40 h_1)
 (p27z18 P K weights1 kind2 x37 undef h)) := (CutP_def _ _ _ _).trans (by kernel_rfl)
theorem q27z14 (weights1 kind2 x32 x35 : Value) (h : Heap) : p27z14 P K weights1 kind2 x32 x35 h =
 (OP (iPick x32 (.bool true) x35) fun x36 =>
 p27z16 P K weights1 kind2 x36 h) := (CutP_def _ _ _ _).trans (by kernel_rfl)
theorem q27z12 (weights1 kind2 x32 : Value) (h : Heap) : p27z12 P K weights1 kind2 x32 h =
 (GdP x32 false
 (CallP P 47 [weights1] h fun x34 h_1 =>
 OP (iBin .lss x34 (.int .i64 (0))) fun x35 =>
 p27z14 P K weights1 kind2 x32 x35 h_1)
 (p27z14 P K weights1 kind2 x32 undef h)) := (CutP_def _ _ _ _).trans (by kernel_rfl)
theorem q27z50 (weights1 after7 least9 i10 at11 l12 x67 x68 : Value) (L1 L2 L3 : LK) (h : Heap) : p27z50 P K weights1 after7 least9 i10 at11 l12 x67 x68 L1 L2 L3 h =
 (OP (iBin .add l12 (.int .i64 (1))) fun x74 =>
 ([weights1, after7, least9, i10, at11, x67, x68] : List Value) = [weights1, after7, least9, i10, at11, x67, x68] ∧ L3 [x74] h) := (CutP_def _ _ _ _).trans (by kernel_rfl)
theorem q27z43 (weights1 after7 least9 i10 at11 x67 x68 : Value) (L1 L2 L3 : LK) (l12 : Value) (h : Heap) : p27z43 P K weights1 after7 least9 i10 at11 x67 x68 L1 L2 L3 [l12] h =
 (OP (iBin .leq l12 (.int .i64 (10))) fun x72 =>
 IfP x72
 (CallVP P after7 [at11, l12] h fun x78 h_1 =>
 OP (iBin .leq x78 (.int .i64 (1024))) fun x80 =>
 IfP x80
 (OP (iAdrSl 1 least9 i10) fun x83 =>
 OP (iLoad false 1 h_1 x83) fun x84 =>
 (True) ∧
 OP (iAdrSl 1 least9 i10) fun x88 =>
 OP (iLoad false 1 h_1 x88) fun x89 =>
 (True) ∧
 OP (iAdrSl 1 x89 at11) fun x91 =>
 OP (iLoad false 1 h_1 x91) fun x92 =>
 (True) ∧
 OP (iAdrSl 1 weights1 i10) fun x95 =>
 OP (iLoad false 1 h_1 x95) fun x96 =>
 (True) ∧
 OP (iBin .mul x96 l12) fun x98 =>
 OP (iBin .add i10 (.int .i64 (1))) fun x101 =>
 OP (iAdrSl 1 least9 x101) fun x102 =>
 OP (iLoad false 1 h_1 x102) fun x103 =>
 (True) ∧
 OP (iAdrSl 1 x103 x78) fun x105 =>
 OP (iLoad false 1 h_1 x105) fun x106 =>
 (True) ∧
 OP (iBin .add x98 x106) fun x107 =>
 OP (iMinmax false [x92, x107]) fun x108 =>
 OP (iAdrSl 1 x84 at11) fun x109 =>
 OH (oStore 1 h_1 x109 x108) fun _ h_2 =>
 (True) ∧
 p27z50 P K weights1 after7 least9 i10 at11 l12 x67 x68 L1 L2 L3 h_2)
 (p27z50 P K weights1 after7 least9 i10 at11 l12 x67 x68 L1 L2 L3 h_1))
 (p27z51 P K weights1 after7 least9 i10 x67 x68 L1 L2 h)) := (CutP_def _ _ _ _).trans (by kernel_rfl)
theorem q27z51 (weights1 after7 least9 i10 x67 x68 : Value) (L1 L2 : LK) (h : Heap) : p27z51 P K weights1 after7 least9 i10 x67 x68 L1 L2 h =
 (OP (iBin .add x68 (.int .i64 (1))) fun x110 =>
 ([weights1, after7, least9, i10, x67] : List Value) = [weights1, after7, least9, i10, x67] ∧ L2 [x110] h) := (CutP_def _ _ _ _).trans (by kernel_rfl)
theorem q27z35 (weights1 after7 least9 i10 x67 : Value) (L1 L2 : LK) (x68 : Value) (h : Heap) : p27z35 P K weights1 after7 least9 i10 x67 L1 L2 [x68] h =
 (OP (iBin .lss x68 x67) fun x69 =>
 IfP x69
 (LoopP [(.int .i64 (1))] h fun L3 xs hx =>
 p27z43 P K weights1 after7 least9 i10 x68 x67 x68 L1 L2 L3 xs hx)
 (p27z52 P K weights1 after7 least9 i10 L1 h)) := (CutP_def _ _ _ _).trans (by kernel_rfl)
theorem q27z52 (weights1 after7 least9 i10 : Value) (L1 : LK) (h : Heap) : p27z52 P K weights1 after7 least9 i10 L1 h =
 (OP (iBin .sub i10 (.int .i64 (1))) fun x57 =>
 ([weights1, after7, least9] : List Value) = [weights1, after7, least9] ∧ L1 [x57] h) := (CutP_def _ _ _ _).trans (by kernel_rfl)
theorem q27z27 (weights1 after7 least9 : Value) (L1 : LK) (i10 : Value) (h : Heap) : p27z27 P K weights1 after7 least9 L1 [i10] h =
 (OP (iBin .geq i10 (.int .i64 (0))) fun x55 =>
 IfP x55
 (OH (iMkSl 3 1 [(.int .i64 (0))] h [(0, 1, (.int .i64 (240000)))]) fun x60 h_1 =>
 CallP P 50 [x60, (.int .i64 (1025))] h_1 fun x61 h_2 =>
 OP (iAdrSl 1 least9 i10) fun x62 =>
 OH (oStore 1 h_2 x62 x61) fun _ h_3 =>
 OP (iAdrSl 1 least9 i10) fun x65 =>
 OP (iLoad false 1 h_3 x65) fun x66 =>
 OP (iLenSl x66) fun x67 =>
 LoopP [(.int .i64 (0))] h_3 fun L2 xs hx =>
 p27z35 P K weights1 after7 least9 i10 x67 L1 L2 xs hx)
 (p27z53 P K weights1 after7 least9 h)) := (CutP_def _ _ _ _).trans (by kernel_rfl)
theorem q27z67 (after7 least9 i16 w17 x111 x112 x113 : Value) (L1 L2 : LK) (out14 at15 l18 : Value) (h : Heap) : p27z67 P K after7 least9 i16 w17 x111 x112 x113 L1 L2 [out14, at15, l18] h =
 (OP (iBin .leq l18 (.int .i64 (10))) fun x119 =>
 IfP x119
 (CallVP P after7 [at15, l18] h fun x125 h_1 =>
 OP (iBin .leq x125 (.int .i64 (1024))) fun x127 =>
 GdP x127 true
 (OP (iBin .mul w17 l18) fun x131 =>
 OP (iBin .add i16 (.int .i64 (1))) fun x134 =>
 OP (iAdrSl 1 least9 x134) fun x135 =>
 OP (iLoad false 1 h_1 x135) fun x136 =>
 (True) ∧
 OP (iAdrSl 1 x136 x125) fun x138 =>
 OP (iLoad false 1 h_1 x138) fun x139 =>
 (True) ∧
 OP (iBin .add x131 x139) fun x140 =>
 OP (iAdrSl 1 least9 i16) fun x143 =>
 OP (iLoad false 1 h_1 x143) fun x144 =>
 (True) ∧
 OP (iAdrSl 1 x144 at15) fun x146 =>
 OP (iLoad false 1 h_1 x146) fun x147 =>
 (True) ∧
 OP (iBin .eql x140 x147) fun x148 =>
 OP (iPick x127 x148 (.bool false)) fun x149 =>
 IfP x149
 (OH (iMkSl 3 1 [(.int .i64 (0))] h_1 [(0, 1, l18)]) fun x152 h_2 =>
 OH (iApp 3 1 8 h_2 out14 x152) fun x153 h_3 =>
 p27z75 P K after7 least9 x153 x125 x111 x112 x113 L1 h_3)
 (OP (iBin .add l18 (.int .i64 (1))) fun x121 =>
 ([after7, least9, i16, w17, x111, x112, x113] : List Value) = [after7, least9, i16, w17, x111, x112, x113] ∧ L2 [out14, at15, x121] h_1))
 (OP (iPick x127 undef (.bool false)) fun x149 =>
 IfP x149
 (OH (iMkSl 3 1 [(.int .i64 (0))] h_1 [(0, 1, l18)]) fun x152 h_2 =>
 OH (iApp 3 1 8 h_2 out14 x152) fun x153 h_3 =>
 p27z75 P K after7 least9 x153 x125 x111 x112 x113 L1 h_3)
 (OP (iBin .add l18 (.int .i64 (1))) fun x121 =>
 ([after7, least9, i16, w17, x111, x112, x113] : List Value) = [after7, least9, i16, w17, x111, x112, x113] ∧ L2 [out14, at15, x121] h_1)))
 (p27z75 P K after7 least9 out14 at15 x111 x112 x113 L1 h)) := (CutP_def _ _ _ _).trans (by kernel_rfl)
theorem q27z75 (after7 least9 out14 at15 x111 x112 x113 : Value) (L1 : LK) (h : Heap) : p27z75 P K after7 least9 out14 at15 x111 x112 x113 L1 h =
 (OP (iBin .add x113 (.int .i64 (1))) fun x155 =>
 ([after7, least9, x111, x112] : List Value) = [after7, least9, x111, x112] ∧ L1 [out14, at15, x155] h) := (CutP_def _ _ _ _).trans (by kernel_rfl)
theorem q27z59 (after7 least9 x111 x112 : Value) (L1 : LK) (out14 at15 x113 : Value) (h : Heap) : p27z59 P K after7 least9 x111 x112 L1 [out14, at15, x113] h =
 (OP (iBin .lss x113 x112) fun x114 =>
 IfP x114
 (OP (iAdrSl 1 x111 x113) fun x116 =>
 OP (iLoad false 1 h x116) fun x117 =>
 LoopP [out14, at15, (.int .i64 (1))] h fun L2 xs hx =>
 p27z67 P K after7 least9 x113 x117 x111 x112 x113 L1 L2 xs hx)
 (p27z76 P K least9 out14 h)) := (CutP_def _ _ _ _).trans (by kernel_rfl)
theorem q27z76 (least9 out14 : Value) (h : Heap) : p27z76 P K least9 out14 h =
 (OP (iAdrSl 1 least9 (.int .i64 (0))) fun x158 =>
 OP (iLoad false 1 h x158) fun x159 =>
 (True) ∧
 OP (iAdrSl 1 x159 (.int .i64 (0))) fun x160 =>
 OP (iLoad false 1 h x160) fun x161 =>
 (True) ∧
 K (.tuple #[out14, x161, (.int .i64 (0))]) h) := (CutP_def _ _ _ _).trans (by kernel_rfl)
theorem q27z53 (weights1 after7 least9 : Value) (h : Heap) : p27z53 P K weights1 after7 least9 h =
 (OP (iLenSl weights1) fun x112 =>
 LoopP [(.slice none 0 0), (.int .i64 (0)), (.int .i64 (0))] h fun L1 xs hx =>
 p27z59 P K after7 least9 weights1 x112 L1 xs hx) := (CutP_def _ _ _ _).trans (by kernel_rfl)
def T27 (kind0 weights1 : Value) (h : Heap) : Prop :=
 OH (iBox 3 h kind0) fun kind2 h_1 =>
 OP (iLoad false 1 h_1 kind2) fun x21 =>
 OP (iBin .geq x21 (.int .i64 (2))) fun x22 =>
 p27z6 P K weights1 kind2 x22 h_1
theorem e27 (kind0 weights1 : Value) (h : Heap) : iwpP P c27 (bodyP [.tmp 4, .tmp 5, .tmp 6] K) (frame0 [kind0, weights1]) h = T27 P K kind0 weights1 h := by kernel_rfl
theorem f27 {K : VK} {kind0 weights1 : Value} {h : Heap} (H : T27 Tryd.prog K kind0 weights1 h) : CallP Tryd.prog 27 [kind0, weights1] h K :=
 callP_intro k27 (Nat.le_of_ble_eq_true rfl) ((e27 Tryd.prog K kind0 weights1 h).mpr H)
/-! F44: pommel/mark.place -/
noncomputable def c44 : ICode := .seq (.ops none [⟨(some 4), .p (.mv (.const (.int .i64 (0))))⟩])
 (.seq (.ops none [⟨(some 6), .p (.mv (.tmp 1))⟩,
 ⟨(some 7), .call 45 [(.tmp 6)]⟩,
 ⟨(some 5), .p (.mv (.tmp 7))⟩])
 (.seq (.ops none [⟨(some 8), .p (.mv (.tmp 0))⟩,
 ⟨(some 9), .p (.mv (.tmp 5))⟩,
 ⟨(some 10), .p (.bin .add (.tmp 8) (.tmp 9))⟩,
 ⟨(some 11), .p (.bin .sub (.tmp 10) (.const (.int .i64 (1))))⟩,
 ⟨(some 12), .p (.mv (.tmp 5))⟩,
 ⟨(some 13), .p (.bin .quo (.tmp 11) (.tmp 12))⟩,
 ⟨(some 14), .p (.mv (.tmp 5))⟩,
 ⟨(some 15), .p (.bin .mul (.tmp 13) (.tmp 14))⟩,
 ⟨(some 4), .p (.mv (.tmp 15))⟩])
 (.ret)))
theorem k44 : compFn Tryd.prog 44 [[], [], []] = some (16, c44, [.tmp 4]) := by kernel_rfl
def T44 (at0 length1 : Value) (h : Heap) : Prop :=
 CallP P 45 [length1] h fun x7 h_1 =>
 OP (iBin .add at0 x7) fun x10 =>
 OP (iBin .sub x10 (.int .i64 (1))) fun x11 =>
 OP (iBin .quo x11 x7) fun x13 =>
 OP (iBin .mul x13 x7) fun x15 =>
 K x15 h_1
theorem e44 (at0 length1 : Value) (h : Heap) : iwpP P c44 (bodyP [.tmp 4] K) (frame0 [at0, length1]) h = T44 P K at0 length1 h := by kernel_rfl
theorem f44 {K : VK} {at0 length1 : Value} {h : Heap} (H : T44 Tryd.prog K at0 length1 h) : CallP Tryd.prog 44 [at0, length1] h K :=
 callP_intro k44 (Nat.le_of_ble_eq_true rfl) ((e44 Tryd.prog K at0 length1 h).mpr H)
/-! F45: pommel/mark.room -/
noncomputable def c45 : ICode := .seq (.ops none [⟨(some 2), .p (.mv (.const (.int .i64 (0))))⟩])
 (.seq (.ops none [⟨(some 3), .p (.mv (.tmp 0))⟩,
 ⟨(some 4), .p (.bin .shr (.const (.int .i64 (1024))) (.tmp 3))⟩,
 ⟨(some 2), .p (.mv (.tmp 4))⟩])
 (.ret))
theorem k45 : compFn Tryd.prog 45 [[], []] = some (5, c45, [.tmp 2]) := by kernel_rfl
def T45 (P : Program) (K : VK) (length0 : Value) (h : Heap) : Prop :=
 OP (iBin .shr (.int .i64 (1024)) length0) fun x4 =>
 K x4 h
theorem e45 (length0 : Value) (h : Heap) : iwpP P c45 (bodyP [.tmp 2] K) (frame0 [length0]) h = T45 P K length0 h := by kernel_rfl
theorem f45 {K : VK} {length0 : Value} {h : Heap} (H : T45 Tryd.prog K length0 h) : CallP Tryd.prog 45 [length0] h K :=
 callP_intro k45 (Nat.le_of_ble_eq_true rfl) ((e45 Tryd.prog K length0 h).mpr H)
/-! F47: slices.Min[[]int,int] -/
noncomputable def c47z9 : ICode := .seq (.seq (.ops none [⟨(some 12), .p (.mv (.tmp 4))⟩,
 ⟨(some 13), .p (.mv (.tmp 0))⟩,
 ⟨(some 14), .p (.lenSl (.tmp 13))⟩,
 ⟨(some 15), .p (.bin .lss (.tmp 12) (.tmp 14))⟩])
 (.cond (.tmp 15) (.skip)
 (.exit 0)))
 (.seq (.block 1 (.ops none [⟨(some 18), .p (.mv (.tmp 3))⟩,
 ⟨(some 19), .p (.mv (.tmp 0))⟩,
 ⟨(some 20), .p (.mv (.tmp 4))⟩,
 ⟨(some 21), .p (.adrSl 1 (.tmp 19) (.tmp 20))⟩,
 ⟨(some 22), .l (.load false 1 (.tmp 21))⟩,
 ⟨(some 23), .p (.minmax false [(.tmp 18), (.tmp 22)])⟩,
 ⟨(some 3), .p (.mv (.tmp 23))⟩]))
 (.ops none [⟨(some 16), .p (.mv (.tmp 4))⟩,
 ⟨(some 17), .p (.bin .add (.tmp 16) (.const (.int .i64 (1))))⟩,
 ⟨(some 4), .p (.mv (.tmp 17))⟩]))
noncomputable def c47z14 : ICode := .seq (.ops none [⟨(some 24), .p (.mv (.tmp 3))⟩,
 ⟨(some 2), .p (.mv (.tmp 24))⟩])
 (.ret)
noncomputable def c47z6 : ICode := .cut [3] c47z14
noncomputable def c47z4 : ICode := .seq (.ops none [⟨(some 9), .p (.mv (.tmp 0))⟩,
 ⟨(some 10), .p (.adrSl 1 (.tmp 9) (.const (.int .i64 (0))))⟩,
 ⟨(some 11), .l (.load false 1 (.tmp 10))⟩,
 ⟨(some 3), .p (.mv (.tmp 11))⟩])
 (.seq (.seq (.ops none [⟨(some 4), .p (.mv (.const (.int .i64 (1))))⟩])
 (.block 0 (.loop [0] [3, 4] c47z9))) c47z6)
noncomputable def c47 : ICode := .seq (.ops none [⟨(some 2), .p (.mv (.const (.int .i64 (0))))⟩])
 (.seq (.seq (.ops none [⟨(some 5), .p (.mv (.tmp 0))⟩,
 ⟨(some 6), .p (.lenSl (.tmp 5))⟩,
 ⟨(some 7), .p (.bin .lss (.tmp 6) (.const (.int .i64 (1))))⟩])
 (.cond (.tmp 7) (.ops none [⟨(some 8), .e (.die)⟩,
 ⟨none, .e (.die)⟩])
 (.skip)))
 (.cut [0] c47z4))
theorem k47 : compFn Tryd.prog 47 [[], [], [0], [], [], [0], [3, 4], [], [], [], [3], []] = some (25, c47, [.tmp 2]) := by kernel_rfl
def K47z0 (_P : Program) (K : VK) : Kont := bodyP [.tmp 2] K
def K47z6 : Kont := thenK (iwpP P c47z6 (K47z0 P K)) (K47z0 P K)
def K47z8 : Kont := inBlockK 0 (K47z6 P K)
def K47z9 (x0 : Value) (L1 : LK) : Kont := thenK (fun f' h'' => (([0] : List Nat).map f' : List Value) = [x0] ∧ L1 (([3, 4] : List Nat).map f') h'') (K47z8 P K)
def p47z4 (x0 : Value) (h : Heap) : Prop := CutP (iwpP P c47z4 (K47z0 P K)) [0] [x0] h
def p47z9 (x0 : Value) (L1 : LK) (xs : List Value) (h : Heap) : Prop := CutP (iwpP P c47z9 (K47z9 P K x0 L1)) ([0] ++ [3, 4]) ([x0] ++ xs) h
def p47z14 (m3 : Value) (h : Heap) : Prop := CutP (iwpP P c47z14 (K47z0 P K)) [3] [m3] h
theorem q47z9 (x0 : Value) (L1 : LK) (m3 i4 : Value) (h : Heap) : p47z9 P K x0 L1 [m3, i4] h =
 (OP (iLenSl x0) fun x14 =>
 OP (iBin .lss i4 x14) fun x15 =>
 IfP x15
 (OP (iAdrSl 1 x0 i4) fun x21 =>
 OP (iLoad false 1 h x21) fun x22 =>
 OP (iMinmax false [m3, x22]) fun x23 =>
 OP (iBin .add i4 (.int .i64 (1))) fun x17 =>
 ([x0] : List Value) = [x0] ∧ L1 [x23, x17] h)
 (p47z14 P K m3 h)) := (CutP_def _ _ _ _).trans (by kernel_rfl)
theorem q47z14 (m3 : Value) (h : Heap) : p47z14 P K m3 h =
 (K m3 h) := (CutP_def _ _ _ _).trans (by kernel_rfl)
theorem q47z4 (x0 : Value) (h : Heap) : p47z4 P K x0 h =
 (OP (iAdrSl 1 x0 (.int .i64 (0))) fun x10 =>
 OP (iLoad false 1 h x10) fun x11 =>
 LoopP [x11, (.int .i64 (1))] h fun L1 xs hx =>
 p47z9 P K x0 L1 xs hx) := (CutP_def _ _ _ _).trans (by kernel_rfl)
def T47 (x0 : Value) (h : Heap) : Prop :=
 OP (iLenSl x0) fun x6 =>
 OP (iBin .lss x6 (.int .i64 (1))) fun x7 =>
 IfP x7
 (OH none fun x8 h_1 =>
 OH none fun _ h_2 =>
 p47z4 P K x0 h_2)
 (p47z4 P K x0 h)
theorem e47 (x0 : Value) (h : Heap) : iwpP P c47 (bodyP [.tmp 2] K) (frame0 [x0]) h = T47 P K x0 h := by kernel_rfl
theorem f47 {K : VK} {x0 : Value} {h : Heap} (H : T47 Tryd.prog K x0 h) : CallP Tryd.prog 47 [x0] h K :=
 callP_intro k47 (Nat.le_of_ble_eq_true rfl) ((e47 Tryd.prog K x0 h).mpr H)
/-! F48: slices.Max[[]int,int] -/
noncomputable def c48z9 : ICode := .seq (.seq (.ops none [⟨(some 12), .p (.mv (.tmp 4))⟩,
 ⟨(some 13), .p (.mv (.tmp 0))⟩,
 ⟨(some 14), .p (.lenSl (.tmp 13))⟩,
 ⟨(some 15), .p (.bin .lss (.tmp 12) (.tmp 14))⟩])
 (.cond (.tmp 15) (.skip)
 (.exit 0)))
 (.seq (.block 1 (.ops none [⟨(some 18), .p (.mv (.tmp 3))⟩,
 ⟨(some 19), .p (.mv (.tmp 0))⟩,
 ⟨(some 20), .p (.mv (.tmp 4))⟩,
 ⟨(some 21), .p (.adrSl 1 (.tmp 19) (.tmp 20))⟩,
 ⟨(some 22), .l (.load false 1 (.tmp 21))⟩,
 ⟨(some 23), .p (.minmax true [(.tmp 18), (.tmp 22)])⟩,
 ⟨(some 3), .p (.mv (.tmp 23))⟩]))
 (.ops none [⟨(some 16), .p (.mv (.tmp 4))⟩,
 ⟨(some 17), .p (.bin .add (.tmp 16) (.const (.int .i64 (1))))⟩,
 ⟨(some 4), .p (.mv (.tmp 17))⟩]))
noncomputable def c48z14 : ICode := .seq (.ops none [⟨(some 24), .p (.mv (.tmp 3))⟩,
 ⟨(some 2), .p (.mv (.tmp 24))⟩])
 (.ret)
noncomputable def c48z6 : ICode := .cut [3] c48z14
noncomputable def c48z4 : ICode := .seq (.ops none [⟨(some 9), .p (.mv (.tmp 0))⟩,
 ⟨(some 10), .p (.adrSl 1 (.tmp 9) (.const (.int .i64 (0))))⟩,
 ⟨(some 11), .l (.load false 1 (.tmp 10))⟩,
 ⟨(some 3), .p (.mv (.tmp 11))⟩])
 (.seq (.seq (.ops none [⟨(some 4), .p (.mv (.const (.int .i64 (1))))⟩])
 (.block 0 (.loop [0] [3, 4] c48z9))) c48z6)
noncomputable def c48 : ICode := .seq (.ops none [⟨(some 2), .p (.mv (.const (.int .i64 (0))))⟩])
 (.seq (.seq (.ops none [⟨(some 5), .p (.mv (.tmp 0))⟩,
 ⟨(some 6), .p (.lenSl (.tmp 5))⟩,
 ⟨(some 7), .p (.bin .lss (.tmp 6) (.const (.int .i64 (1))))⟩])
 (.cond (.tmp 7) (.ops none [⟨(some 8), .e (.die)⟩,
 ⟨none, .e (.die)⟩])
 (.skip)))
 (.cut [0] c48z4))
theorem k48 : compFn Tryd.prog 48 [[], [], [0], [], [], [0], [3, 4], [], [], [], [3], []] = some (25, c48, [.tmp 2]) := by kernel_rfl
def K48z0 (_P : Program) (K : VK) : Kont := bodyP [.tmp 2] K
def K48z6 : Kont := thenK (iwpP P c48z6 (K48z0 P K)) (K48z0 P K)
def K48z8 : Kont := inBlockK 0 (K48z6 P K)
def K48z9 (x0 : Value) (L1 : LK) : Kont := thenK (fun f' h'' => (([0] : List Nat).map f' : List Value) = [x0] ∧ L1 (([3, 4] : List Nat).map f') h'') (K48z8 P K)
def p48z4 (x0 : Value) (h : Heap) : Prop := CutP (iwpP P c48z4 (K48z0 P K)) [0] [x0] h
def p48z9 (x0 : Value) (L1 : LK) (xs : List Value) (h : Heap) : Prop := CutP (iwpP P c48z9 (K48z9 P K x0 L1)) ([0] ++ [3, 4]) ([x0] ++ xs) h
def p48z14 (m3 : Value) (h : Heap) : Prop := CutP (iwpP P c48z14 (K48z0 P K)) [3] [m3] h
theorem q48z9 (x0 : Value) (L1 : LK) (m3 i4 : Value) (h : Heap) : p48z9 P K x0 L1 [m3, i4] h =
 (OP (iLenSl x0) fun x14 =>
 OP (iBin .lss i4 x14) fun x15 =>
 IfP x15
 (OP (iAdrSl 1 x0 i4) fun x21 =>
 OP (iLoad false 1 h x21) fun x22 =>
 OP (iMinmax true [m3, x22]) fun x23 =>
 OP (iBin .add i4 (.int .i64 (1))) fun x17 =>
 ([x0] : List Value) = [x0] ∧ L1 [x23, x17] h)
 (p48z14 P K m3 h)) := (CutP_def _ _ _ _).trans (by kernel_rfl)
theorem q48z14 (m3 : Value) (h : Heap) : p48z14 P K m3 h =
 (K m3 h) := (CutP_def _ _ _ _).trans (by kernel_rfl)
theorem q48z4 (x0 : Value) (h : Heap) : p48z4 P K x0 h =
 (OP (iAdrSl 1 x0 (.int .i64 (0))) fun x10 =>
 OP (iLoad false 1 h x10) fun x11 =>
 LoopP [x11, (.int .i64 (1))] h fun L1 xs hx =>
 p48z9 P K x0 L1 xs hx) := (CutP_def _ _ _ _).trans (by kernel_rfl)
def T48 (x0 : Value) (h : Heap) : Prop :=
 OP (iLenSl x0) fun x6 =>
 OP (iBin .lss x6 (.int .i64 (1))) fun x7 =>
 IfP x7
 (OH none fun x8 h_1 =>
 OH none fun _ h_2 =>
 p48z4 P K x0 h_2)
 (p48z4 P K x0 h)
theorem e48 (x0 : Value) (h : Heap) : iwpP P c48 (bodyP [.tmp 2] K) (frame0 [x0]) h = T48 P K x0 h := by kernel_rfl
theorem f48 {K : VK} {x0 : Value} {h : Heap} (H : T48 Tryd.prog K x0 h) : CallP Tryd.prog 48 [x0] h K :=
 callP_intro k48 (Nat.le_of_ble_eq_true rfl) ((e48 Tryd.prog K x0 h).mpr H)
/-! F49: pommel/mark.best$1 -/
noncomputable def c49z4 : ICode := .seq (.ops none [⟨(some 11), .p (.mv (.tmp 0))⟩,
 ⟨(some 12), .p (.mv (.tmp 1))⟩,
 ⟨(some 13), .call 45 [(.tmp 12)]⟩,
 ⟨(some 14), .p (.bin .add (.tmp 11) (.tmp 13))⟩,
 ⟨(some 5), .p (.mv (.tmp 14))⟩])
 (.ret)
noncomputable def c49 : ICode := .seq (.ops none [⟨(some 5), .p (.mv (.const (.int .i64 (0))))⟩])
 (.seq (.seq (.ops none [⟨(some 6), .l (.load false 1 (.tmp 2))⟩,
 ⟨(some 7), .p (.bin .eql (.tmp 6) (.const (.int .i64 (1))))⟩])
 (.cond (.tmp 7) (.ops none [⟨(some 8), .p (.mv (.tmp 0))⟩,
 ⟨(some 9), .p (.mv (.tmp 1))⟩,
 ⟨(some 10), .call 44 [(.tmp 8), (.tmp 9)]⟩,
 ⟨(some 0), .p (.mv (.tmp 10))⟩])
 (.skip)))
 (.cut [0, 1] c49z4))
theorem k49 : compFn Tryd.prog 49 [[], [], [0, 1], []] = some (15, c49, [.tmp 5]) := by kernel_rfl
def K49z0 (_P : Program) (K : VK) : Kont := bodyP [.tmp 5] K
def p49z4 (at0 length1 : Value) (h : Heap) : Prop := CutP (iwpP P c49z4 (K49z0 P K)) [0, 1] [at0, length1] h
theorem q49z4 (at0 length1 : Value) (h : Heap) : p49z4 P K at0 length1 h =
 (CallP P 45 [length1] h fun x13 h_1 =>
 OP (iBin .add at0 x13) fun x14 =>
 K x14 h_1) := (CutP_def _ _ _ _).trans (by kernel_rfl)
def T49 (at0 length1 x2 : Value) (h : Heap) : Prop :=
 OP (iLoad false 1 h x2) fun x6 =>
 OP (iBin .eql x6 (.int .i64 (1))) fun x7 =>
 IfP x7
 (CallP P 44 [at0, length1] h fun x10 h_1 =>
 p49z4 P K x10 length1 h_1)
 (p49z4 P K at0 length1 h)
theorem e49 (at0 length1 x2 : Value) (h : Heap) : iwpP P c49 (bodyP [.tmp 5] K) (frame0 [at0, length1, x2]) h = T49 P K at0 length1 x2 h := by kernel_rfl
theorem f49 {K : VK} {at0 length1 x2 : Value} {h : Heap} (H : T49 Tryd.prog K at0 length1 x2 h) : CallP Tryd.prog 49 [at0, length1, x2] h K :=
 callP_intro k49 (Nat.le_of_ble_eq_true rfl) ((e49 Tryd.prog K at0 length1 x2 h).mpr H)
/-! F50: slices.Repeat[[]int,int] -/
noncomputable def c50z11 : ICode := .ops none [⟨(some 26), .p (.pick (.tmp 23) (.const (.bool true)) (.tmp 25))⟩]
noncomputable def c50z9 : ICode := .seq (.ops (some (23, false)) [⟨(some 24), .p (.mv (.tmp 6))⟩,
 ⟨(some 25), .p (.bin .gtr (.tmp 24) (.const (.int .u64 (9223372036854775807))))⟩])
 (.cut [0, 6, 23, 25] c50z11)
noncomputable def c50z7 : ICode := .cond (.tmp 26) (.ops none [⟨(some 27), .e (.die)⟩,
 ⟨none, .e (.die)⟩])
 (.skip)
noncomputable def c50z17 : ICode := .seq (.seq (.ops none [⟨(some 34), .p (.mv (.tmp 8))⟩,
 ⟨(some 35), .p (.mv (.tmp 7))⟩,
 ⟨(some 36), .p (.lenSl (.tmp 35))⟩,
 ⟨(some 37), .p (.bin .lss (.tmp 34) (.tmp 36))⟩])
 (.cond (.tmp 37) (.skip)
 (.exit 0)))
 (.block 1 (.dops [(none, [⟨(some 38), .p (.mv (.tmp 8)), 0⟩,
 ⟨(some 39), .p (.mv (.tmp 7)), 0⟩,
 ⟨(some 40), .p (.mv (.tmp 8)), 0⟩,
 ⟨(some 41), .p (.slSl 3 1 (.tmp 39) (some (.tmp 40)) none), 6⟩,
 ⟨(some 42), .p (.mv (.tmp 7)), 0⟩,
 ⟨(some 43), .p (.mv (.tmp 8)), 0⟩,
 ⟨(some 44), .p (.slSl 3 1 (.tmp 42) none (some (.tmp 43))), 48⟩,
 ⟨(some 45), .e (.copy (.tmp 41) (.tmp 44)), 126⟩,
 ⟨(some 46), .p (.bin .add (.tmp 38) (.tmp 45)), 255⟩,
 ⟨(some 8), .p (.mv (.tmp 46)), 511⟩])]))
noncomputable def c50z21 : ICode := .seq (.ops none [⟨(some 47), .p (.mv (.tmp 7))⟩,
 ⟨(some 4), .p (.mv (.tmp 47))⟩])
 (.ret)
noncomputable def c50z15 : ICode := .cut [7] c50z21
noncomputable def c50z12 : ICode := .seq (.ops none [⟨(some 28), .p (.mv (.tmp 6))⟩,
 ⟨(some 29), .p (.conv .i64 (.tmp 28))⟩,
 ⟨(some 30), .e (.make 3 8 [(.int .i64 (0))] (.tmp 29) (.tmp 29))⟩,
 ⟨(some 7), .p (.mv (.tmp 30))⟩])
 (.seq (.ops none [⟨(some 31), .p (.mv (.tmp 7))⟩,
 ⟨(some 32), .p (.mv (.tmp 0))⟩,
 ⟨(some 33), .e (.copy (.tmp 31) (.tmp 32))⟩,
 ⟨(some 8), .p (.mv (.tmp 33))⟩])
 (.seq (.block 0 (.loop [7] [8] c50z17)) c50z15))
noncomputable def c50z6 : ICode := .cut [0, 6] c50z12
noncomputable def c50z4 : ICode := .seq (.ops none [⟨(some 13), .p (.mv (.tmp 0))⟩,
 ⟨(some 14), .p (.lenSl (.tmp 13))⟩,
 ⟨(some 15), .p (.conv .u64 (.tmp 14))⟩,
 ⟨(some 16), .p (.mv (.tmp 1))⟩,
 ⟨(some 17), .p (.conv .u64 (.tmp 16))⟩,
 ⟨(some 18), .call 57 [(.tmp 15), (.tmp 17)]⟩,
 ⟨(some 12), .p (.mv (.tmp 18))⟩,
 ⟨(some 19), .p (.ext (.tmp 12) 0)⟩,
 ⟨(some 20), .p (.ext (.tmp 12) 1)⟩,
 ⟨(some 5), .p (.mv (.tmp 19))⟩,
 ⟨(some 6), .p (.mv (.tmp 20))⟩])
 (.seq (.seq (.seq (.ops none [⟨(some 21), .p (.mv (.tmp 5))⟩,
 ⟨(some 22), .p (.bin .gtr (.tmp 21) (.const (.int .u64 (0))))⟩,
 ⟨(some 23), .p (.mv (.tmp 22))⟩])
 (.cut [0, 6, 23] c50z9)) c50z7) c50z6)
noncomputable def c50 : ICode := .seq (.ops none [⟨(some 4), .p (.mv (.const (.slice none 0 0)))⟩])
 (.seq (.seq (.ops none [⟨(some 9), .p (.mv (.tmp 1))⟩,
 ⟨(some 10), .p (.bin .lss (.tmp 9) (.const (.int .i64 (0))))⟩])
 (.cond (.tmp 10) (.ops none [⟨(some 11), .e (.die)⟩,
 ⟨none, .e (.die)⟩])
 (.skip)))
 (.cut [0, 1] c50z4))
theorem k50 : compFn Tryd.prog 50 [[], [], [0, 1], [], [0, 6, 23], [0, 6, 23, 25], [], [0, 6], [], [], [7], [8], [], [], [7], []] = some (48, c50, [.tmp 4]) := by kernel_rfl
def K50z0 (_P : Program) (K : VK) : Kont := bodyP [.tmp 4] K
def K50z6 : Kont := thenK (iwpP P c50z6 (K50z0 P K)) (K50z0 P K)
def K50z7 : Kont := thenK (iwpP P c50z7 (K50z6 P K)) (K50z6 P K)
def K50z15 : Kont := thenK (iwpP P c50z15 (K50z0 P K)) (K50z0 P K)
def K50z16 : Kont := inBlockK 0 (K50z15 P K)
def K50z17 (newslice7 : Value) (L1 : LK) : Kont := thenK (fun f' h'' => (([7] : List Nat).map f' : List Value) = [newslice7] ∧ L1 (([8] : List Nat).map f') h'') (K50z16 P K)
def p50z4 (x0 count1 : Value) (h : Heap) : Prop := CutP (iwpP P c50z4 (K50z0 P K)) [0, 1] [x0, count1] h
def p50z9 (x0 lo6 x23 : Value) (h : Heap) : Prop := CutP (iwpP P c50z9 (K50z7 P K)) [0, 6, 23] [x0, lo6, x23] h
def p50z11 (x0 lo6 x23 x25 : Value) (h : Heap) : Prop := CutP (iwpP P c50z11 (K50z7 P K)) [0, 6, 23, 25] [x0, lo6, x23, x25] h
def p50z12 (x0 lo6 : Value) (h : Heap) : Prop := CutP (iwpP P c50z12 (K50z0 P K)) [0, 6] [x0, lo6] h
def p50z17 (newslice7 : Value) (L1 : LK) (xs : List Value) (h : Heap) : Prop := CutP (iwpP P c50z17 (K50z17 P K newslice7 L1)) ([7] ++ [8]) ([newslice7] ++ xs) h
def p50z21 (newslice7 : Value) (h : Heap) : Prop := CutP (iwpP P c50z21 (K50z0 P K)) [7] [newslice7] h
theorem q50z11 (x0 lo6 x23 x25 : Value) (h : Heap) : p50z11 P K x0 lo6 x23 x25 h =
 (OP (iPick x23 (.bool true) x25) fun x26 =>
 IfP x26
 (OH none fun x27 h_1 =>
 OH none fun _ h_2 =>
 p50z12 P K x0 lo6 h_2)
 (p50z12 P K x0 lo6 h)) := (CutP_def _ _ _ _).trans (by kernel_rfl)
theorem q50z9 (x0 lo6 x23 : Value) (h : Heap) : p50z9 P K x0 lo6 x23 h =
 (GdP x23 false
 (OP (iBin .gtr lo6 (.int .u64 (9223372036854775807))) fun x25 =>
 p50z11 P K x0 lo6 x23 x25 h)
 (p50z11 P K x0 lo6 x23 undef h)) := (CutP_def _ _ _ _).trans (by kernel_rfl)
theorem q50z17 (newslice7 : Value) (L1 : LK) (n8 : Value) (h : Heap) : p50z17 P K newslice7 L1 [n8] h =
 (OP (iLenSl newslice7) fun x36 =>
 OP (iBin .lss n8 x36) fun x37 =>
 IfP x37
 (OP (iSlSl 3 1 newslice7 (some n8) none) fun x41 =>
 OP (iSlSl 3 1 newslice7 none (some n8)) fun x44 =>
 OH (iCopy h x41 x44) fun x45 h_1 =>
 (True) ∧
 OP (iBin .add n8 x45) fun x46 =>
 ([newslice7] : List Value) = [newslice7] ∧ L1 [x46] h_1)
 (p50z21 P K newslice7 h)) := (CutP_def _ _ _ _).trans (by kernel_rfl)
theorem q50z21 (newslice7 : Value) (h : Heap) : p50z21 P K newslice7 h =
 (K newslice7 h) := (CutP_def _ _ _ _).trans (by kernel_rfl)
theorem q50z12 (x0 lo6 : Value) (h : Heap) : p50z12 P K x0 lo6 h =
 (OP (iConv .i64 lo6) fun x29 =>
 OH (iMake 3 8 [(.int .i64 (0))] h x29 x29) fun x30 h_1 =>
 OH (iCopy h_1 x30 x0) fun x33 h_2 =>
 LoopP [x33] h_2 fun L1 xs hx =>
 p50z17 P K x30 L1 xs hx) := (CutP_def _ _ _ _).trans (by kernel_rfl)
theorem q50z4 (x0 count1 : Value) (h : Heap) : p50z4 P K x0 count1 h =
 (OP (iLenSl x0) fun x14 =>
 OP (iConv .u64 x14) fun x15 =>
 OP (iConv .u64 count1) fun x17 =>
 CallP P 57 [x15, x17] h fun x18 h_1 =>
 OP (iExt 0 x18) fun x19 =>
 OP (iExt 1 x18) fun x20 =>
 OP (iBin .gtr x19 (.int .u64 (0))) fun x22 =>
 p50z9 P K x0 x20 x22 h_1) := (CutP_def _ _ _ _).trans (by kernel_rfl)
def T50 (x0 count1 : Value) (h : Heap) : Prop :=
 OP (iBin .lss count1 (.int .i64 (0))) fun x10 =>
 IfP x10
 (OH none fun x11 h_1 =>
 OH none fun _ h_2 =>
 p50z4 P K x0 count1 h_2)
 (p50z4 P K x0 count1 h)
theorem e50 (x0 count1 : Value) (h : Heap) : iwpP P c50 (bodyP [.tmp 4] K) (frame0 [x0, count1]) h = T50 P K x0 count1 h := by kernel_rfl
theorem f50 {K : VK} {x0 count1 : Value} {h : Heap} (H : T50 Tryd.prog K x0 count1 h) : CallP Tryd.prog 50 [x0, count1] h K :=
 callP_intro k50 (Nat.le_of_ble_eq_true rfl) ((e50 Tryd.prog K x0 count1 h).mpr H)
/-! F57: math/bits.Mul -/
/-! F66: math/bits.Mul64 -/
end Go.Proofs.YthplaillblmgfaaDoor

namespace Go.Sim

def rmN (l : Nat) : Nat := 1024 / 2 ^ l
def fitN (at_ l : Nat) : Nat := (at_ + rmN l - 1) / rmN l * rmN l
def aft (r : Bool) (at_ l : Nat) : Nat := (if r then fitN at_ l else at_) + rmN l

def omin : Option Int → Option Int → Option Int
  | none, y => y
  | x, none => x
  | some a, some b => some (min a b)

def stp (r : Bool) (nx : Nat → Option Int) (w : Int) (at_ l : Nat) : Option Int := if aft r at_ l ≤ 1024 then (nx (aft r at_ l)).map (w * l + ·) else none

def lcS (r : Bool) (nx : Nat → Option Int) (w : Int) (at_ : Nat) : Nat → Option Int
  | 0 => none
  | l + 1 => omin (lcS r nx w at_ l) (stp r nx w at_ (l + 1))

/-- The least cost of words from a place on. -/
def lc (r : Bool) : List Int → Nat → Option Int
  | [] => fun _ => some 0
  | w :: ws => fun at_ => lcS r (lc r ws) w at_ 10

theorem lc_cons (r : Bool) (w : Int) (ws : List Int) (at_ : Nat) : lc r (w :: ws) at_ = lcS r (lc r ws) w at_ 10 := rfl

/-- The first length from l on that comes to a cost. -/
def fstL (r : Bool) (nx : Nat → Option Int) (w : Int) (at_ : Nat) (v : Option Int) : Nat → Nat → Option Nat
  | 0, _ => none
  | k + 1, l => if stp r nx w at_ l = v then some l else fstL r nx w at_ v k (l + 1)

def chS (r : Bool) (nx : Nat → List Nat) (at_ : Nat) : Option Nat → List Nat
  | some l => l :: nx (aft r at_ l)
  | none => nx at_

def chL (r : Bool) : List Int → Nat → List Nat
  | [] => fun _ => []
  | w :: ws => fun at_ => chS r (chL r ws) at_ (fstL r (lc r ws) w at_ (lcS r (lc r ws) w at_ 10) 10 1)

theorem chL_cons (r : Bool) (w : Int) (ws : List Int) (at_ : Nat) : chL r (w :: ws) at_ = chS r (chL r ws) at_ (fstL r (lc r ws) w at_ (lc r (w :: ws) at_) 10 1) := rfl

theorem omin_none (x : Option Int) : omin x none = x := by cases x <;> rfl

theorem omin_cases (x y : Option Int) : omin x y = x ∨ omin x y = y := by
  cases x with
  | none => right; rfl
  | some a =>
    cases y with
    | none => left; rfl
    | some b =>
      simp only [omin, Option.some.injEq]
      omega

theorem omin_some {x y : Option Int} (h : x.isSome = true ∨ y.isSome = true) : (omin x y).isSome = true := by
  cases x <;> cases y <;> simp [omin] at *

/-- The least cost is that of some length. -/
theorem lcS_mem {r : Bool} {nx : Nat → Option Int} {w : Int} {at_ : Nat} : ∀ {n : Nat} {v : Int}, lcS r nx w at_ n = some v → ∃ l, 1 ≤ l ∧ l ≤ n ∧ stp r nx w at_ l = some v
  | 0, v, h => by simp [lcS] at h
  | n + 1, v, h => by
    simp only [lcS] at h
    rcases omin_cases (lcS r nx w at_ n) (stp r nx w at_ (n + 1)) with e | e
    · rw [e] at h
      obtain ⟨l, h1, h2, h3⟩ := lcS_mem h
      exact ⟨l, h1, by omega, h3⟩
    · rw [e] at h
      exact ⟨n + 1, by omega, Nat.le_refl _, h⟩

theorem lcS_some {r : Bool} {nx : Nat → Option Int} {w : Int} {at_ : Nat} : ∀ {n l : Nat}, 1 ≤ l → l ≤ n → (stp r nx w at_ l).isSome = true → (lcS r nx w at_ n).isSome = true
  | 0, l, h1, h2, _ => by omega
  | n + 1, l, h1, h2, h3 => by
    simp only [lcS]
    apply omin_some
    by_cases hl : l = n + 1
    · subst hl; exact .inr h3
    · exact .inl (lcS_some h1 (by omega) h3)

theorem stp_some {r : Bool} {nx : Nat → Option Int} {w : Int} {at_ l : Nat} {v : Int} (h : stp r nx w at_ l = some v) : aft r at_ l ≤ 1024 ∧ ∃ u, nx (aft r at_ l) = some u ∧ v = w * l + u := by
  unfold stp at h
  split at h
  · rename_i h1
    simp only [Option.map_eq_some_iff] at h
    obtain ⟨u, h2, h3⟩ := h
    exact ⟨h1, u, h2, h3.symm⟩
  · cases h

/-- Weights as they may be. -/
def okW (ws : List Int) : Prop := ∀ w ∈ ws, 0 ≤ w ∧ w ≤ 1000

theorem lc_bound {r : Bool} {ws : List Int} : ∀ {at_ : Nat} {v : Int}, okW ws → lc r ws at_ = some v → 0 ≤ v ∧ v ≤ 10000 * ws.length := by
  induction ws with
  | nil => intro at_ v _ h; simp [lc] at h; subst h; simp
  | cons w ws ih =>
    intro at_ v hw h
    rw [lc_cons] at h
    obtain ⟨l, h1, h2, h3⟩ := lcS_mem h
    obtain ⟨_, u, h4, rfl⟩ := stp_some h3
    have := ih (fun x hx => hw x (by simp [hx])) h4
    obtain ⟨w0, w1⟩ := hw w (by simp)
    have q1 : 0 ≤ w * (l : Int) := Int.mul_nonneg w0 (by omega)
    have q2 : w * (l : Int) ≤ 1000 * 10 := Int.mul_le_mul w1 (by omega) (by omega) (by omega)
    simp only [List.length_cons]
    omega

theorem fstL_some {r : Bool} {nx : Nat → Option Int} {w : Int} {at_ : Nat} {v : Option Int} : ∀ {k l m : Nat}, fstL r nx w at_ v k l = some m → l ≤ m ∧ m < l + k ∧ stp r nx w at_ m = v
  | 0, l, m, h => by simp [fstL] at h
  | k + 1, l, m, h => by
    simp only [fstL] at h
    split at h
    · rename_i h1
      cases h
      exact ⟨Nat.le_refl _, by omega, h1⟩
    · have := fstL_some h
      exact ⟨by omega, by omega, this.2.2⟩

theorem fstL_ex {r : Bool} {nx : Nat → Option Int} {w : Int} {at_ : Nat} {v : Option Int} : ∀ {k l m : Nat}, l ≤ m → m < l + k → stp r nx w at_ m = v → ∃ j, fstL r nx w at_ v k l = some j
  | 0, l, m, h1, h2, _ => by omega
  | k + 1, l, m, h1, h2, h3 => by
    simp only [fstL]
    split
    · exact ⟨_, rfl⟩
    · rename_i hne
      have : l ≠ m := by rintro rfl; exact hne h3
      exact fstL_ex (m := m) (by omega) (by omega) h3

/-- Where there is a cost, a length comes to it. -/
theorem ch_step {r : Bool} {w : Int} {ws : List Int} {at_ : Nat} {v : Int} (h : lc r (w :: ws) at_ = some v) :
    ∃ l u, fstL r (lc r ws) w at_ (some v) 10 1 = some l ∧ 1 ≤ l ∧ l ≤ 10 ∧ aft r at_ l ≤ 1024 ∧ lc r ws (aft r at_ l) = some u ∧ v = w * l + u ∧ chL r (w :: ws) at_ = l :: chL r ws (aft r at_ l) := by
  have h' := h
  rw [lc_cons] at h'
  obtain ⟨l, h1, h2, h3⟩ := lcS_mem h'
  obtain ⟨j, hj⟩ := fstL_ex (r := r) (nx := lc r ws) (w := w) (at_ := at_) (k := 10) (l := 1) h1 (by omega) h3
  obtain ⟨j1, j2, j3⟩ := fstL_some hj
  obtain ⟨q1, u, q2, q3⟩ := stp_some j3
  refine ⟨j, u, hj, j1, by omega, q1, q2, q3, ?_⟩
  rw [chL_cons, h, hj]
  rfl

/-- There is always a code of few words. -/
theorem lc_some {r : Bool} {ws : List Int} : ∀ {k : Nat}, k + ws.length ≤ 16 → (lc r ws (64 * k)).isSome = true := by
  induction ws with
  | nil => intro k _; rfl
  | cons w ws ih =>
    intro k h
    simp only [List.length_cons] at h
    rw [lc_cons]
    refine lcS_some (l := 4) (by decide) (by decide) ?_
    have e : aft r (64 * k) 4 = 64 * (k + 1) := by
      have e1 : rmN 4 = 64 := by decide
      unfold aft fitN
      rw [e1]
      cases r <;> simp <;> omega
    unfold stp
    rw [e, if_pos (by omega)]
    have := ih (k := k + 1) (by omega)
    revert this
    cases lc r ws (64 * (k + 1)) <;> simp

theorem chL_len {r : Bool} {ws : List Int} : ∀ {at_ : Nat} {v : Int}, lc r ws at_ = some v → (chL r ws at_).length = ws.length ∧ ∀ l ∈ chL r ws at_, 1 ≤ l ∧ l ≤ 10 := by
  induction ws with
  | nil => intro at_ v _; exact ⟨rfl, fun l hl => by cases hl⟩
  | cons w ws ih =>
    intro at_ v h
    obtain ⟨l, u, _, h1, h2, _, h3, _, h4⟩ := ch_step h
    obtain ⟨a, b⟩ := ih h3
    rw [h4]
    refine ⟨by simp [a], fun x hx => ?_⟩
    rcases List.mem_cons.1 hx with rfl | hx
    · exact ⟨h1, h2⟩
    · exact b x hx

end Go.Sim


namespace Go.Proofs.YthplaillblmgfaaDoor
open Go.Sim

theorem C45 {l : Nat} {h : Heap} {K : Value → Heap → Prop} (h1 : 1 ≤ l) (h2 : l ≤ 10) (hk : K (I (rmN l : Nat)) h) : CallP Tryd.prog 45 [I l] h K := by
  refine f45 ?_
  have e : iBin .shr (.int .i64 1024) (I l) = some (I (rmN l : Nat)) := by
    have : l = 1 ∨ l = 2 ∨ l = 3 ∨ l = 4 ∨ l = 5 ∨ l = 6 ∨ l = 7 ∨ l = 8 ∨ l = 9 ∨ l = 10 := by omega
    rcases this with rfl | rfl | rfl | rfl | rfl | rfl | rfl | rfl | rfl | rfl <;> rfl
  simp only [T45, e, OP_some]
  exact hk

theorem rmN_pos {l : Nat} (h1 : 1 ≤ l) (h2 : l ≤ 10) : 1 ≤ rmN l ∧ rmN l ≤ 512 := by
  have : l = 1 ∨ l = 2 ∨ l = 3 ∨ l = 4 ∨ l = 5 ∨ l = 6 ∨ l = 7 ∨ l = 8 ∨ l = 9 ∨ l = 10 := by omega
  rcases this with rfl | rfl | rfl | rfl | rfl | rfl | rfl | rfl | rfl | rfl <;> decide

theorem quoN (a b : Nat) (hb : b ≠ 0) (ha : a < 1000000) : iBin .quo (I a) (I b) = some (I (a / b : Nat)) := by
  have e : ((a : Int).tdiv b) = ((a / b : Nat) : Int) := Int.ofNat_tdiv a b
  have hle : a / b ≤ a := Nat.div_le_self _ _
  simp only [iBin, iInt]
  rw [if_pos trivial, if_neg (by omega), e]
  generalize a / b = q at hle ⊢
  rw [wrap64 (by omega) (by omega)]

theorem fitN_le {at_ l : Nat} (h1 : 1 ≤ l) (h2 : l ≤ 10) : at_ ≤ fitN at_ l ∧ fitN at_ l < at_ + rmN l := by
  have hp := (rmN_pos h1 h2).1
  unfold fitN
  have e := Nat.div_add_mod (at_ + rmN l - 1) (rmN l)
  have m := Nat.mod_lt (at_ + rmN l - 1) hp
  rw [Nat.mul_comm]
  generalize rmN l * ((at_ + rmN l - 1) / rmN l) = z at *
  omega

theorem C44 {at_ l : Nat} {h : Heap} {K : Value → Heap → Prop} (ha : at_ ≤ 1024) (h1 : 1 ≤ l) (h2 : l ≤ 10) (hk : K (I (fitN at_ l : Nat)) h) : CallP Tryd.prog 44 [I at_, I l] h K := by
  refine f44 (C45 h1 h2 ?_)
  obtain ⟨hp, hq⟩ := rmN_pos h1 h2
  have hf := fitN_le (at_ := at_) h1 h2
  have w1 : IntKind.wrap .i64 ((at_ : Int) + (rmN l : Nat)) = ((at_ + rmN l : Nat) : Int) := by rw [wrap64 (by omega) (by omega)]; omega
  have w2 : IntKind.wrap .i64 (((at_ + rmN l : Nat) : Int) - 1) = ((at_ + rmN l - 1 : Nat) : Int) := by rw [wrap64 (by omega) (by omega)]; omega
  have w3 : IntKind.wrap .i64 ((((at_ + rmN l - 1) / rmN l : Nat) : Int) * (rmN l : Nat)) = ((fitN at_ l : Nat) : Int) := by
    rw [← Int.natCast_mul]
    show IntKind.wrap .i64 ((fitN at_ l : Nat) : Int) = _
    exact wrap64 (by omega) (by omega)
  simp only [bin_add, bin_sub, OP_some, w1, w2, quoN _ _ (show rmN l ≠ 0 by omega) (show at_ + rmN l - 1 < 1000000 by omega), bin_mul, w3]
  exact hk

/-- The place behind a word; the kind lies in a cell. -/
theorem C49 {r : Bool} {at_ l k : Nat} {h : Heap} {K : Value → Heap → Prop} (hc : h[k]? = some (.arr 3 [I (if r then 1 else 0)])) (ha : at_ ≤ 1024) (h1 : 1 ≤ l) (h2 : l ≤ 10) (hk : K (I (aft r at_ l : Nat)) h) : CallP Tryd.prog 49 [I at_, I l, pt k 0] h K := by
  refine f49 ?_
  obtain ⟨hp, hq⟩ := rmN_pos h1 h2
  have hf := fitN_le (at_ := at_) h1 h2
  have ld : iLoad false 1 h (pt k 0) = some (I (if r then 1 else 0)) := by simp [iLoad, objCells, hc, iPart]
  have fin : ∀ x : Nat, x ≤ 2000 → aft r at_ l = x + rmN l → p49z4 Tryd.prog K (I x) (I l) h := by
    intro x hx he
    rw [q49z4]
    refine C45 h1 h2 ?_
    have w : IntKind.wrap .i64 ((x : Int) + (rmN l : Nat)) = ((aft r at_ l : Nat) : Int) := by rw [wrap64 (by omega) (by omega), he]; omega
    simp only [bin_add, OP_some, w]
    exact hk
  simp only [T49, ld, OP_some, bin_eql]
  cases r with
  | true =>
    simp only [if_true, decide_true, IfP_true]
    exact C44 ha h1 h2 (fin _ (by omega) (by simp [aft]))
  | false =>
    simp only [Bool.false_eq_true, if_false]
    rw [decide_eq_false (show ¬ ((0 : Int) = 1) by decide)]
    simp only [IfP_false]
    exact fin _ (by omega) (by simp [aft])

/-- The least number. -/
theorem C47 {v : Value} {ns : List Int} {h : Heap} {K : Value → Heap → Prop} (hv : NS h v .i64 ns) (h0 : 0 < ns.length) (hl : ns.length ≤ 1000) (hk : ∀ m, m ∈ ns → (∀ x ∈ ns, m ≤ x) → K (I m) h) : CallP Tryd.prog 47 [v] h K := by
  refine f47 ?_
  obtain ⟨b, o, g1, g2⟩ := hv.get 0 h0
  have g1' : iAdrSl 1 v (.int .i64 (0)) = some (pt b o) := g1
  simp only [T47, hv.len, OP_some, bin_lss, decide_eq_false (show ¬ ((ns.length : Int) < 1) by omega), IfP_false]
  rw [q47z4]
  simp only [g1', g2, OP_some]
  refine loopL (σ := Nat × Int) (fun q => [I q.2, I q.1]) (fun _ => h) (fun q => (1 ≤ q.1 ∧ q.1 ≤ ns.length) ∧ q.2 ∈ ns ∧ ∀ x ∈ ns.take q.1, q.2 ≤ x) (fun q => ns.length - q.1) (1, ns[0]) rfl rfl ⟨⟨Nat.le_refl _, h0⟩, List.getElem_mem _, fun x hx => ?_⟩ ?_
  · cases ns with
    | nil => simp at h0
    | cons y ys => simp at hx; subst hx; exact Int.le_refl _
  rintro ⟨i, m⟩ ⟨⟨hi1, hi⟩, hm, hle⟩ L hL
  simp only at hi1 hi hm hle hL ⊢
  rw [q47z9]
  simp only [hv.len, OP_some, bin_lss, IfP_dec]
  refine ⟨fun hlt => ?_, fun hge => ?_⟩
  · have hil : i < ns.length := by omega
    obtain ⟨b, o, g1, g2⟩ := hv.get i hil
    simp only [g1, g2, OP_some, min2, bin_add, inc i (by omega), true_and]
    refine hL (i + 1, min m ns[i]) ⟨⟨by show 1 ≤ i + 1; omega, by show i + 1 ≤ _; omega⟩, ?_, ?_⟩ (by show ns.length - (i + 1) < ns.length - i; omega)
    · show min m ns[i] ∈ ns
      rcases Int.le_total m ns[i] with h | h
      · rw [Int.min_eq_left h]; exact hm
      · rw [Int.min_eq_right h]; exact List.getElem_mem _
    · intro x hx
      show min m ns[i] ≤ x
      simp only [List.take_succ_eq_append_getElem hil, List.mem_append, List.mem_singleton] at hx
      rcases hx with hx | rfl
      · have := hle x hx; omega
      · omega
  · have : i = ns.length := by omega
    subst this
    rw [List.take_length] at hle
    rw [q47z14]
    exact hk m hm hle

/-- The greatest number. -/
theorem C48 {v : Value} {ns : List Int} {h : Heap} {K : Value → Heap → Prop} (hv : NS h v .i64 ns) (h0 : 0 < ns.length) (hl : ns.length ≤ 1000) (hk : ∀ m, m ∈ ns → (∀ x ∈ ns, x ≤ m) → K (I m) h) : CallP Tryd.prog 48 [v] h K := by
  refine f48 ?_
  obtain ⟨b, o, g1, g2⟩ := hv.get 0 h0
  have g1' : iAdrSl 1 v (.int .i64 (0)) = some (pt b o) := g1
  simp only [T48, hv.len, OP_some, bin_lss, decide_eq_false (show ¬ ((ns.length : Int) < 1) by omega), IfP_false]
  rw [q48z4]
  simp only [g1', g2, OP_some]
  refine loopL (σ := Nat × Int) (fun q => [I q.2, I q.1]) (fun _ => h) (fun q => (1 ≤ q.1 ∧ q.1 ≤ ns.length) ∧ q.2 ∈ ns ∧ ∀ x ∈ ns.take q.1, x ≤ q.2) (fun q => ns.length - q.1) (1, ns[0]) rfl rfl ⟨⟨Nat.le_refl _, h0⟩, List.getElem_mem _, fun x hx => ?_⟩ ?_
  · cases ns with
    | nil => simp at h0
    | cons y ys => simp at hx; subst hx; exact Int.le_refl _
  rintro ⟨i, m⟩ ⟨⟨hi1, hi⟩, hm, hle⟩ L hL
  simp only at hi1 hi hm hle hL ⊢
  rw [q48z9]
  simp only [hv.len, OP_some, bin_lss, IfP_dec]
  refine ⟨fun hlt => ?_, fun hge => ?_⟩
  · have hil : i < ns.length := by omega
    obtain ⟨b, o, g1, g2⟩ := hv.get i hil
    simp only [g1, g2, OP_some, max2', bin_add, inc i (by omega), true_and]
    refine hL (i + 1, max m ns[i]) ⟨⟨by show 1 ≤ i + 1; omega, by show i + 1 ≤ _; omega⟩, ?_, ?_⟩ (by show ns.length - (i + 1) < ns.length - i; omega)
    · show max m ns[i] ∈ ns
      rcases Int.le_total m ns[i] with h | h
      · rw [Int.max_eq_right h]; exact List.getElem_mem _
      · rw [Int.max_eq_left h]; exact hm
    · intro x hx
      show x ≤ max m ns[i]
      simp only [List.take_succ_eq_append_getElem hil, List.mem_append, List.mem_singleton] at hx
      rcases hx with hx | rfl
      · have := hle x hx; omega
      · omega
  · have : i = ns.length := by omega
    subst this
    rw [List.take_length] at hle
    rw [q48z14]
    exact hk m hm hle

noncomputable def orc0 : ECall := fun _ _ _ => none
theorem orc0_sound : CallE Tryd.prog orc0 := ⟨fun _ _ _ _ _ he => by simp [orc0] at he, fun _ _ _ _ _ he => by simp [orc0] at he⟩

theorem mulE : (evK Tryd.prog evH 100 orc0 10 (.func 57) [.int .u64 1, .int .u64 1025] []).map Prod.fst = some (.tuple #[.int .u64 0, .int .u64 1025]) := by kernel_rfl

theorem C57 {h : Heap} {K : Value → Heap → Prop} (hk : K (.tuple #[.int .u64 0, .int .u64 1025]) h) : CallP Tryd.prog 57 [.int .u64 1, .int .u64 1025] h K := by
  obtain ⟨h', hc⟩ := evK_call evH 100 10 orc0_sound mulE
  exact callP_any (Ren.tuple (l := [fun _ => .int .u64 0, fun _ => .int .u64 1025]) (.cons (Ren.scal rfl) (.cons (Ren.scal rfl) .nil))) hc rfl hk

end Go.Proofs.YthplaillblmgfaaDoor


namespace Go.Proofs.YthplaillblmgfaaDoor
open Go.Sim

theorem slSl_lo {e : TypeId} {i n : Nat} {k : Nat} (hk : k ≤ n) : iSlSl e 1 (sl e i 0 n) (some (I k)) none = some (sl e i k (n - k)) := by
  simp [iSlSl, sl, iBounds, natOf, hk]
theorem slSl_hi {e : TypeId} {i n : Nat} {k : Nat} (hk : k ≤ n) : iSlSl e 1 (sl e i 0 n) none (some (I k)) = some (sl e i 0 k) := by
  simp [iSlSl, sl, iBounds, natOf, hk]

theorem zrep_one (x : Value) : ∀ n, zrep [x] n = List.replicate n x
  | 0 => rfl
  | n + 1 => by
    have ih := zrep_one x n
    unfold zrep at ih ⊢
    rw [List.replicate_succ, List.flatten_cons, ih, List.replicate_succ]; rfl

/-- A number again and again. -/
def repX (v : Int) (n : Nat) : List Value := List.replicate n (I v) ++ List.replicate (1025 - n) (I 0)

theorem repX_len (v : Int) {n : Nat} (hn : n ≤ 1025) : (repX v n).length = 1025 := by simp [repX]; omega

theorem copy_rep {h : Heap} {id : Nat} {v : Int} {n : Nat} (hg : h[id]? = some (.arr 3 (repX v n))) (h1 : 1 ≤ n) (hn : n < 1025) :
    iCopy h (sl 3 id n (1025 - n)) (sl 3 id 0 n) = some (I (min n (1025 - n) : Nat), h.set id (.arr 3 (repX v (n + min n (1025 - n))))) := by
  have hl := repX_len v (n := n) (by omega)
  have hs : sliceCells h 1 (sl 3 id 0 n) = some (List.replicate n (I v)) := by
    simp only [sliceCells, sl]
    rw [if_neg (by omega)]
    simp only [objCells, hg, Option.bind_some]
    rw [if_pos (by omega)]
    simp [repX]
  have hm : min n (1025 - n) ≠ 0 := by omega
  have h1 : lenOfSl (sl 3 id n (1025 - n)) = some (1025 - n) := rfl
  have h2 : lenOfSl (sl 3 id 0 n) = some n := rfl
  have hmin : Nat.min n (1025 - n) = min n (1025 - n) := rfl
  simp only [iCopy, hs, h1, h2, hmin]
  rw [if_neg hm]
  simp only [sl, hg]
  rw [if_pos (by omega)]
  congr 3
  have : setAt (repX v n) n ((List.replicate n (I v)).take (min n (1025 - n))) = repX v (n + min n (1025 - n)) := by
    unfold setAt repX
    rw [List.take_left' (by simp), List.take_replicate, List.drop_append, List.drop_eq_nil_of_le (by simp), List.nil_append]
    simp only [List.length_replicate, List.drop_replicate, ← List.append_assoc, List.replicate_append_replicate]
    congr 2 <;> omega
  rw [this]

theorem C50 {v : Int} {i : Nat} {h : Heap} {K : Value → Heap → Prop} (hi : h[i]? = some (.arr 3 [I v])) (hk : K (sl 3 h.length 0 1025) (h ++ [.arr 3 (List.replicate 1025 (I v))])) : CallP Tryd.prog 50 [sl 3 i 0 1, I 1025] h K := by
  refine f50 ?_
  have l1 : iLenSl (sl 3 i 0 1) = some (I 1) := rfl
  simp only [T50, bin_lss, OP_some, decide_eq_false (show ¬ ((1025 : Int) < 0) by decide), IfP_false]
  rw [q50z4]
  have c1 : iConv .u64 (I 1) = some (.int .u64 1) := rfl
  have c2 : iConv .u64 (I 1025) = some (.int .u64 1025) := rfl
  simp only [l1, OP_some, c1, c2]
  refine C57 ?_
  simp only [ext_tuple, pair0, pair1, OP_some, bin_gtr, decide_eq_false (show ¬ ((0 : Int) < 0) by decide)]
  rw [q50z9]
  simp only [GdP_ff, bin_gtr, OP_some, decide_eq_false (show ¬ ((9223372036854775807 : Int) < 1025) by decide)]
  rw [q50z11]
  simp only [iPick_f, OP_some, IfP_false]
  rw [q50z12]
  have c3 : iConv .i64 (.int .u64 1025) = some (I 1025) := rfl
  have mk : iMake 3 8 [(.int .i64 (0))] h (I 1025) (I 1025) = some (sl 3 h.length 0 1025, h ++ [.arr 3 (repX v 0)]) := by
    have : zrep [(.int .i64 (0))] 1025 = repX v 0 := by rw [zrep_one]; rfl
    simp only [iMake]
    rw [if_pos (by decide)]
    simp only [show Int.toNat 1025 = 1025 from rfl, this]
  simp only [c3, OP_some, mk, OH_some]
  have k0 : (h ++ [IObj.arr 3 (repX v 0)])[h.length]? = some (.arr 3 (repX v 0)) := get_last
  have hi' : (h ++ [IObj.arr 3 (repX v 0)])[i]? = some (.arr 3 [I v]) := by
    rw [List.getElem?_append_left (List.getElem?_eq_some_iff.1 hi).1]; exact hi
  have cp : iCopy (h ++ [IObj.arr 3 (repX v 0)]) (sl 3 h.length 0 1025) (sl 3 i 0 1) = some (I 1, h ++ [IObj.arr 3 (repX v 1)]) := by
    have hs : sliceCells (h ++ [IObj.arr 3 (repX v 0)]) 1 (sl 3 i 0 1) = some [I v] := by
      simp [sliceCells, sl, objCells, hi']
    have e1 : lenOfSl (sl 3 h.length 0 1025) = some 1025 := rfl
    have e2 : lenOfSl (sl 3 i 0 1) = some 1 := rfl
    have hmin : Nat.min 1 1025 = 1 := by decide
    simp only [iCopy, hs, e1, e2, hmin]
    rw [if_neg (by decide)]
    simp only [sl, k0]
    rw [if_pos (by rw [repX_len v (by omega)]; omega)]
    congr 2
    rw [List.set_append_right _ _ (Nat.le_refl _), Nat.sub_self]
    have : setAt (repX v 0) 0 ([I v].take 1) = repX v 1 := by
      have key : ∀ m, setAt (List.replicate 0 (I v) ++ List.replicate (m + 1) (I 0)) 0 ([I v].take 1) = List.replicate 1 (I v) ++ List.replicate m (I 0) := by
        intro m
        simp [setAt, List.replicate_succ]
      exact key 1024
    rw [this]; rfl
  simp only [cp, OH_some]
  have hset : ∀ n m, (h ++ [IObj.arr 3 (repX v n)]).set h.length (.arr 3 (repX v m)) = h ++ [IObj.arr 3 (repX v m)] := by
    intro n m
    rw [List.set_append_right _ _ (Nat.le_refl _), Nat.sub_self]; rfl
  refine loopL (σ := Nat) (fun n => [I n]) (fun n => h ++ [.arr 3 (repX v n)]) (fun n => 1 ≤ n ∧ n ≤ 1025) (fun n => 1025 - n) 1 rfl rfl ⟨Nat.le_refl _, by omega⟩ ?_
  rintro n ⟨hn1, hn⟩ L hL
  have ll : iLenSl (sl 3 h.length 0 1025) = some (I 1025) := rfl
  rw [q50z17]
  simp only [ll, OP_some, bin_lss, IfP_dec]
  refine ⟨fun hlt => ?_, fun hge => ?_⟩
  · have hlt' : n < 1025 := by omega
    have w : IntKind.wrap .i64 ((n : Int) + (min n (1025 - n) : Nat)) = ((n + min n (1025 - n) : Nat) : Int) := by rw [wrap64 (by omega) (by omega)]; omega
    simp only [slSl_lo hn, slSl_hi hn, OP_some, copy_rep get_last hn1 hlt', OH_some, bin_add, w, true_and, hset]
    exact hL (n + min n (1025 - n)) ⟨by omega, by omega⟩ (by omega)
  · have : n = 1025 := by omega
    subst this
    rw [q50z21]
    have : repX v 1025 = List.replicate 1025 (I v) := by
      unfold repX
      rw [Nat.sub_self, List.replicate_zero, List.append_nil]
    rw [this]
    exact hk

end Go.Proofs.YthplaillblmgfaaDoor


namespace Go.Proofs.YthplaillblmgfaaDoor
open Go.Sim

/-- Numbers of all places. -/
def rowF (f : Nat → Int) : List Value := (List.range 1025).map fun k => I (f k)
theorem rowF_len (f : Nat → Int) : (rowF f).length = 1025 := by simp [rowF]
theorem rowF_get (f : Nat → Int) {k : Nat} (hk : k < 1025) : (rowF f)[k]? = some (I (f k)) := by simp [rowF, hk]
theorem rowF_set (f : Nat → Int) (a : Nat) (x : Int) : (rowF f).set a (I x) = rowF fun k => if k = a then x else f k := by
  apply List.ext_getElem?
  intro j
  rw [List.getElem?_set]
  by_cases hj : j < 1025
  · rw [rowF_get _ hj, rowF_get _ hj, rowF_len]
    by_cases e : a = j
    · subst e; simp [hj]
    · rw [if_neg e, if_neg (fun h => e h.symm)]
  · rw [List.getElem?_eq_none (by rw [rowF_len]; omega), List.getElem?_eq_none (by rw [rowF_len]; omega)]
    split
    · rw [if_neg (by rw [rowF_len]; omega)]
    · rfl
theorem rangeF_congr {f g : Nat → Int} : ∀ n, (∀ k, k < n → f k = g k) → (List.range n).map (fun k => I (f k)) = (List.range n).map fun k => I (g k)
  | 0, _ => rfl
  | n + 1, h => by rw [List.range_succ, List.map_append, List.map_append, rangeF_congr n fun k hk => h k (by omega), List.map_cons, List.map_cons, h n (by omega)]; rfl
theorem rowF_congr {f g : Nat → Int} (h : ∀ k, k < 1025 → f k = g k) : rowF f = rowF g := rangeF_congr 1025 h
theorem rep_map (v : Int) : ∀ n, List.replicate n (I v) = (List.range n).map fun _ => I v
  | 0 => rfl
  | n + 1 => by rw [List.replicate_succ', List.range_succ, List.map_append, rep_map v n]; rfl
theorem rowF_rep (v : Int) : List.replicate 1025 (I v) = rowF fun _ => v := rep_map v 1025

def encT (top : Int) (o : Option Int) : Int := o.getD top

/-- The table of least costs, from a word on. -/
structure Tb (g : Heap) (il : Nat) (r : Bool) (ws : List Int) (top : Int) (i : Nat) (cs : List Value) : Prop where
  here : g[il]? = some (.arr 22 cs)
  len : cs.length = ws.length + 1
  row : ∀ j, i ≤ j → j ≤ ws.length → ∃ b, cs[j]? = some (sl 3 b 0 1025) ∧ b ≠ il ∧ g[b]? = some (.arr 3 (rowF fun a => encT top (lc r (ws.drop j) a)))

theorem Tb.ex {g g' : Heap} {il i : Nat} {r : Bool} {ws : List Int} {top : Int} {cs : List Value} (x : EX g g') (t : Tb g il r ws top i cs) : Tb g' il r ws top i cs :=
  ⟨x.get t.here, t.len, fun j h1 h2 => let ⟨b, a, c, d⟩ := t.row j h1 h2; ⟨b, a, c, x.get d⟩⟩

/-- A number of the table. -/
theorem Tb.load {g : Heap} {il i j a : Nat} {r : Bool} {ws : List Int} {top : Int} {cs : List Value} (t : Tb g il r ws top i cs) (h1 : i ≤ j) (h2 : j ≤ ws.length) (ha : a ≤ 1024) :
    ∃ b, iAdrSl 1 (sl 22 il 0 (ws.length + 1)) (I j) = some (pt il j) ∧ iLoad false 1 g (pt il j) = some (sl 3 b 0 1025) ∧ iAdrSl 1 (sl 3 b 0 1025) (I a) = some (pt b a) ∧ iLoad false 1 g (pt b a) = some (I (encT top (lc r (ws.drop j) a))) := by
  obtain ⟨b, q1, q2, q3⟩ := t.row j h1 h2
  refine ⟨b, adr_sl (by omega), ?_, adr_sl (by omega), ?_⟩
  · simp [iLoad, objCells, t.here, iPart, q1]
  · simp [iLoad, objCells, q3, iPart, rowF_get _ (show a < 1025 by omega)]

theorem enc_min {x y : Option Int} {c : Int} (hx : ∀ a, x = some a → a ≤ 240000) (hy : ∀ b, y = some b → c + b ≤ 240000) (hc : 0 ≤ c) : min (encT 240000 x) (c + encT 240000 y) = encT 240000 (omin x (y.map (c + ·))) := by
  cases x with
  | none =>
    cases y with
    | none => simp only [encT, omin, Option.map_none, Option.getD_none]; omega
    | some b => have := hy b rfl; simp only [encT, omin, Option.map_some, Option.getD_none, Option.getD_some]; omega
  | some a =>
    have := hx a rfl
    cases y with
    | none => simp only [encT, omin, Option.map_none, Option.getD_none, Option.getD_some]; omega
    | some b => simp only [encT, omin, Option.map_some, Option.getD_some]

theorem ok49 : callOk Tryd.prog 49 = true := by kernel_rfl

theorem lcS_bound {r : Bool} {w : Int} {ws : List Int} {a l : Nat} {v : Int} (hw : okW (w :: ws)) (hl : l ≤ 10) (h : lcS r (lc r ws) w a l = some v) : 0 ≤ v ∧ v ≤ 10000 * (ws.length + 1) := by
  obtain ⟨m, h1, h2, h3⟩ := lcS_mem h
  obtain ⟨_, u, h4, rfl⟩ := stp_some h3
  have := lc_bound (fun x hx => hw x (by simp [hx])) h4
  obtain ⟨w0, w1⟩ := hw w (by simp)
  have q1 : 0 ≤ w * (m : Int) := Int.mul_nonneg w0 (by omega)
  have q2 : w * (m : Int) ≤ 1000 * 10 := Int.mul_le_mul w1 (by omega) (by omega) (by omega)
  omega

theorem stp_eq {r : Bool} {nx : Nat → Option Int} {w : Int} {a l : Nat} (h : aft r a l ≤ 1024) : stp r nx w a l = (nx (aft r a l)).map (w * l + ·) := by unfold stp; rw [if_pos h]
theorem stp_no {r : Bool} {nx : Nat → Option Int} {w : Int} {a l : Nat} (h : ¬ aft r a l ≤ 1024) : stp r nx w a l = none := by unfold stp; rw [if_neg h]

theorem mul_small {w : Int} {l : Nat} (h0 : 0 ≤ w) (h1 : w ≤ 1000) (hl : l ≤ 10) : 0 ≤ w * (l : Int) ∧ w * (l : Int) ≤ 10000 :=
  ⟨Int.mul_nonneg h0 (by omega), by have := Int.mul_le_mul h1 (show (l : Int) ≤ 10 by omega) (by omega) (by omega); omega⟩

/-- One row of the table. -/
theorem row27 {r : Bool} {v : Value} {ws : List Int} {i il bi kd : Nat} {g : Heap} {cs : List Value} {K : Value → Heap → Prop} {L1 : List Value → Heap → Prop}
    (hc : okW ws) (hn : ws.length ≤ 12) (hi : i < ws.length) (hkd : g[kd]? = some (.arr 3 [I (if r then 1 else 0)])) (hil : g[il]? = some (.arr 22 cs)) (hcl : cs.length = ws.length + 1)
    (hci : cs[i]? = some (sl 3 bi 0 1025)) (hbi : g[bi]? = some (.arr 3 (rowF fun _ => 240000))) (hne : bi ≠ il) (hnk : kd ≠ bi)
    (hnx : ∃ b, cs[i + 1]? = some (sl 3 b 0 1025) ∧ b ≠ bi ∧ g[b]? = some (.arr 3 (rowF fun a => encT 240000 (lc r (ws.drop (i + 1)) a))))
    (hvk : NS (g.set bi .dead) v .i64 ws)
    (hk : p27z52 Tryd.prog K v (.func (.func 49) #[] #[pt kd 0]) (sl 22 il 0 (ws.length + 1)) (I i) L1 (g.set bi (.arr 3 (rowF fun a => encT 240000 (lc r (ws.drop i) a))))) :
    LoopP [(.int .i64 (0))] g fun L2 xs hx => p27z35 Tryd.prog K v (.func (.func 49) #[] #[pt kd 0]) (sl 22 il 0 (ws.length + 1)) (I i) (I 1025) L1 L2 xs hx := by
  obtain ⟨b, hb1, hb2, hb3⟩ := hnx
  have hbl := (List.getElem?_eq_some_iff.1 hbi).1
  have hw := hc _ (List.getElem_mem hi)
  have hdrop : ws.drop i = ws[i] :: ws.drop (i + 1) := List.drop_eq_getElem_cons hi
  have hcd : okW (ws.drop i) := fun x hx => hc x (List.mem_of_mem_drop hx)
  have hcd1 : okW (ws.drop (i + 1)) := fun x hx => hc x (List.mem_of_mem_drop hx)
  have hdl : (ws.drop (i + 1)).length ≤ 11 := by rw [List.length_drop]; omega
  -- what is loaded, whatever the row
  have G : ∀ xs : List Value, (g.set bi (.arr 3 xs))[il]? = some (.arr 22 cs) ∧ (g.set bi (.arr 3 xs))[kd]? = some (.arr 3 [I (if r then 1 else 0)]) ∧ (g.set bi (.arr 3 xs))[bi]? = some (.arr 3 xs) ∧
      (g.set bi (.arr 3 xs))[b]? = some (.arr 3 (rowF fun a => encT 240000 (lc r (ws.drop (i + 1)) a))) ∧ NS (g.set bi (.arr 3 xs)) v .i64 ws := by
    intro xs
    refine ⟨by rw [List.getElem?_set_ne hne]; exact hil, by rw [List.getElem?_set_ne (Ne.symm hnk)]; exact hkd, List.getElem?_set_self hbl, by rw [List.getElem?_set_ne (Ne.symm hb2)]; exact hb3, ?_⟩
    refine ⟨hvk.len, fun j hj => ?_, hvk.le⟩
    obtain ⟨b', o', e1, e2⟩ := hvk.get j hj
    refine ⟨b', o', e1, ?_⟩
    have hne' : bi ≠ b' := by
      rintro rfl
      simp [iLoad, objCells, List.getElem?_set_self hbl] at e2
    simp only [iLoad, pt, objCells, List.getElem?_set_ne hne'] at e2 ⊢
    exact e2
  have hp0 : ∀ f : Nat → Int, ∀ xs, xs = rowF f → g.set bi (.arr 3 xs) = g.set bi (.arr 3 (rowF f)) := fun f xs h => by rw [h]
  have hst : g = g.set bi (.arr 3 (rowF fun k => if k < 0 then encT 240000 (lc r (ws.drop i) k) else 240000)) := by
    have e : (rowF fun k => if k < 0 then encT 240000 (lc r (ws.drop i) k) else 240000) = rowF fun _ => 240000 := rowF_congr fun k _ => by simp
    rw [e]
    apply List.ext_getElem?
    intro j
    by_cases hj : bi = j
    · subst hj; rw [List.getElem?_set_self hbl]; exact hbi
    · rw [List.getElem?_set_ne hj]
  refine loopL (σ := Nat) (fun a => [I a]) (fun a => g.set bi (.arr 3 (rowF fun k => if k < a then encT 240000 (lc r (ws.drop i) k) else 240000))) (fun a => a ≤ 1025) (fun a => 1025 - a) 0 rfl hst.symm (Nat.zero_le _) ?_
  intro a ha L2 hL2
  rw [q27z35]
  simp only [bin_lss, OP_some, IfP_dec]
  refine ⟨fun hlt => ?_, fun hge => ?_⟩
  · have hal : a < 1025 := by omega
    -- the lengths
    have e0 : (rowF fun k => if k < a then encT 240000 (lc r (ws.drop i) k) else 240000) = rowF fun k => if k < a then encT 240000 (lc r (ws.drop i) k) else if k = a then encT 240000 (lcS r (lc r (ws.drop (i + 1))) ws[i] a (1 - 1)) else 240000 :=
      rowF_congr fun k _ => by
        by_cases h1 : k < a
        · rw [if_pos h1, if_pos h1]
        · rw [if_neg h1, if_neg h1]
          by_cases h2 : k = a
          · rw [if_pos h2]; rfl
          · rw [if_neg h2]
    refine loopL (σ := Nat) (fun l => [I l]) (fun l => g.set bi (.arr 3 (rowF fun k => if k < a then encT 240000 (lc r (ws.drop i) k) else if k = a then encT 240000 (lcS r (lc r (ws.drop (i + 1))) ws[i] a (l - 1)) else 240000))) (fun l => 1 ≤ l ∧ l ≤ 11) (fun l => 11 - l) 1 rfl (by rw [e0]) ⟨Nat.le_refl _, by omega⟩ ?_
    rintro l ⟨hl1, hl⟩ L3 hL3
    rw [q27z43]
    simp only [bin_leq, OP_some, IfP_dec]
    refine ⟨fun hll => ?_, fun hlg => ?_⟩
    · have hl10 : l ≤ 10 := by omega
      obtain ⟨g1, g2, g3, g4, g5⟩ := G (rowF fun k => if k < a then encT 240000 (lc r (ws.drop i) k) else if k = a then encT 240000 (lcS r (lc r (ws.drop (i + 1))) ws[i] a (l - 1)) else 240000)
      have nxt : ∀ f : Nat → Int, (∀ k, k < 1025 → f k = if k < a then encT 240000 (lc r (ws.drop i) k) else if k = a then encT 240000 (lcS r (lc r (ws.drop (i + 1))) ws[i] a l) else 240000) →
          p27z50 Tryd.prog K v (.func (.func 49) #[] #[pt kd 0]) (sl 22 il 0 (ws.length + 1)) (I i) (I a) (I l) (I 1025) (I a) L1 L2 L3 (g.set bi (.arr 3 (rowF f))) := by
        intro f hf
        rw [q27z50]
        simp only [bin_add, OP_some, inc l (by omega), true_and]
        have := hL3 (l + 1) ⟨by omega, by omega⟩ (by omega)
        rw [Nat.add_sub_cancel] at this
        rw [rowF_congr hf]
        exact this
      refine callVP_fn ok49 (C49 (r := r) g2 (by omega) hl1 hl10 ?_)
      have eS : lcS r (lc r (ws.drop (i + 1))) ws[i] a l = omin (lcS r (lc r (ws.drop (i + 1))) ws[i] a (l - 1)) (stp r (lc r (ws.drop (i + 1))) ws[i] a l) := by
        obtain ⟨m, rfl⟩ : ∃ m, l = m + 1 := ⟨l - 1, by omega⟩
        rfl
      simp only [bin_leq, OP_some, IfP_dec]
      refine ⟨fun hto => ?_, fun hto => ?_⟩
      · have hto' : aft r a l ≤ 1024 := by omega
        obtain ⟨wb, wo, w1, w2⟩ := g5.get i hi
        have ld0 : ∀ {G' : Heap}, G'[il]? = some (.arr 22 cs) → iLoad false 1 G' (pt il i) = some (sl 3 bi 0 1025) := fun h => by simp [iLoad, objCells, h, iPart, hci]
        have ld1 : ∀ {G' : Heap}, G'[il]? = some (.arr 22 cs) → iLoad false 1 G' (pt il (i + 1)) = some (sl 3 b 0 1025) := fun h => by simp [iLoad, objCells, h, iPart, hb1]
        have ad0 : iAdrSl 1 (sl 22 il 0 (ws.length + 1)) (I i) = some (pt il i) := adr_sl (by omega)
        have ad1 : iAdrSl 1 (sl 22 il 0 (ws.length + 1)) (I (i + 1 : Nat)) = some (pt il (i + 1)) := adr_sl (by omega)
        have ada : iAdrSl 1 (sl 3 bi 0 1025) (I a) = some (pt bi a) := adr_sl hal
        have adt : iAdrSl 1 (sl 3 b 0 1025) (I (aft r a l : Nat)) = some (pt b (aft r a l)) := adr_sl (by omega)
        have lda : iLoad false 1 (g.set bi (.arr 3 (rowF fun k => if k < a then encT 240000 (lc r (ws.drop i) k) else if k = a then encT 240000 (lcS r (lc r (ws.drop (i + 1))) ws[i] a (l - 1)) else 240000))) (pt bi a) = some (I (encT 240000 (lcS r (lc r (ws.drop (i + 1))) ws[i] a (l - 1)))) := by
          simp [iLoad, objCells, g3, iPart, rowF_get _ hal]
        have ldt : iLoad false 1 (g.set bi (.arr 3 (rowF fun k => if k < a then encT 240000 (lc r (ws.drop i) k) else if k = a then encT 240000 (lcS r (lc r (ws.drop (i + 1))) ws[i] a (l - 1)) else 240000))) (pt b (aft r a l)) = some (I (encT 240000 (lc r (ws.drop (i + 1)) (aft r a l)))) := by
          simp [iLoad, objCells, g4, iPart, rowF_get _ (show aft r a l < 1025 by omega)]
        have ms := mul_small hw.1 hw.2 hl10
        have wm : IntKind.wrap .i64 (ws[i] * (l : Int)) = ws[i] * (l : Int) := wrap64 (by omega) (by omega)
        have lb : ∀ u, lc r (ws.drop (i + 1)) (aft r a l) = some u → 0 ≤ u ∧ u ≤ 110000 := fun u hu => by have := lc_bound hcd1 hu; omega
        have eb : 0 ≤ encT 240000 (lc r (ws.drop (i + 1)) (aft r a l)) ∧ encT 240000 (lc r (ws.drop (i + 1)) (aft r a l)) ≤ 240000 := by
          cases hq : lc r (ws.drop (i + 1)) (aft r a l) with
          | none => simp [encT]
          | some u => have := lb u hq; simp only [encT, Option.getD_some]; omega
        have wa : IntKind.wrap .i64 (ws[i] * (l : Int) + encT 240000 (lc r (ws.drop (i + 1)) (aft r a l))) = ws[i] * (l : Int) + encT 240000 (lc r (ws.drop (i + 1)) (aft r a l)) := wrap64 (by omega) (by omega)
        have em := enc_min (x := lcS r (lc r (ws.drop (i + 1))) ws[i] a (l - 1)) (y := lc r (ws.drop (i + 1)) (aft r a l)) (c := ws[i] * (l : Int))
          (fun u hu => by rw [hdrop] at hcd; have := lcS_bound hcd (show l - 1 ≤ 10 by omega) hu; omega) (fun u hu => by have := lb u hu; omega) ms.1
        have st : oStore 1 (g.set bi (.arr 3 (rowF fun k => if k < a then encT 240000 (lc r (ws.drop i) k) else if k = a then encT 240000 (lcS r (lc r (ws.drop (i + 1))) ws[i] a (l - 1)) else 240000))) (pt bi a) (I (encT 240000 (omin (lcS r (lc r (ws.drop (i + 1))) ws[i] a (l - 1)) ((lc r (ws.drop (i + 1)) (aft r a l)).map (ws[i] * (l : Int) + ·))))) =
            some (undef, g.set bi (.arr 3 (rowF fun k => if k = a then encT 240000 (omin (lcS r (lc r (ws.drop (i + 1))) ws[i] a (l - 1)) ((lc r (ws.drop (i + 1)) (aft r a l)).map (ws[i] * (l : Int) + ·))) else if k < a then encT 240000 (lc r (ws.drop i) k) else if k = a then encT 240000 (lcS r (lc r (ws.drop (i + 1))) ws[i] a (l - 1)) else 240000))) := by
          rw [store_at g3 (by rw [rowF_len]; exact hal) rfl rfl, rowF_set, List.set_set]
        simp only [ad0, ad1, ada, adt, ld0 g1, ld1 g1, OP_some, true_and, lda, ldt, w1, w2, bin_mul, wm, bin_add, inc i (by omega), wa, min2, em, st, OH_some]
        refine nxt _ fun k _ => ?_
        rw [eS, stp_eq hto']
        by_cases h1 : k = a
        · subst h1; simp
        · simp only [if_neg h1]
      · have hto' : ¬ aft r a l ≤ 1024 := by omega
        refine nxt _ fun k _ => ?_
        rw [eS, stp_no hto', omin_none]
    · have : l = 11 := by omega
      subst this
      rw [q27z51]
      simp only [bin_add, OP_some, inc a (by omega), true_and]
      have := hL2 (a + 1) (by omega) (by omega)
      have e1 : (rowF fun k => if k < a + 1 then encT 240000 (lc r (ws.drop i) k) else 240000) = rowF fun k => if k < a then encT 240000 (lc r (ws.drop i) k) else if k = a then encT 240000 (lcS r (lc r (ws.drop (i + 1))) ws[i] a (11 - 1)) else 240000 :=
        rowF_congr fun k _ => by
          by_cases h1 : k < a
          · rw [if_pos h1, if_pos (by omega)]
          · rw [if_neg h1]
            by_cases h2 : k = a
            · subst h2
              rw [if_pos rfl, if_pos (by omega), hdrop, lc_cons]
            · rw [if_neg h2, if_neg (by omega)]
      rw [e1] at this
      exact this
  · have : a = 1025 := by omega
    subst this
    have e1 : (rowF fun k => if k < 1025 then encT 240000 (lc r (ws.drop i) k) else 240000) = rowF fun k => encT 240000 (lc r (ws.drop i) k) := rowF_congr fun k hk => by rw [if_pos hk]
    rw [e1]
    exact hk

end Go.Proofs.YthplaillblmgfaaDoor


namespace Go.Proofs.YthplaillblmgfaaDoor
open Go.Sim

theorem OwnS.up {b b' : Nat} {g : Heap} {e : TypeId} {v : Value} {xs : List Value} (h : b' ≤ b) (o : OwnS b g e v xs) : OwnS b' g e v xs := o.imp id fun ⟨i, a, r⟩ => ⟨i, Nat.le_trans h a, r⟩

theorem own_ns {b : Nat} {g : Heap} {v : Value} {l : List Nat} (own : OwnS b g 3 v (l.map fun l : Nat => I l)) (hl : l.length ≤ 1000) : NS g v .i64 (l.map fun l : Nat => (l : Int)) := by
  rcases own with ⟨rfl, e2⟩ | ⟨b, _, rfl, e3⟩
  · have : l = [] := by simpa using e2
    subst this
    exact NS.nil _ _
  · have := NS.arr (k := .i64) (e := 3) (ns := l.map fun l : Nat => (l : Int)) (h := g) (i := b) (by rw [e3, List.map_map]; rfl) (by simp [maxLen]; omega)
    simpa using this

theorem fst_step {r : Bool} {nx : Nat → Option Int} {w : Int} {a : Nat} {v : Option Int} {l j : Nat} (hl : l ≤ 10) (h : fstL r nx w a v (11 - l) l = some j) : (stp r nx w a l = v → j = l) ∧ (stp r nx w a l ≠ v → l < 10 ∧ fstL r nx w a v (11 - (l + 1)) (l + 1) = some j) := by
  obtain ⟨m, hm⟩ : ∃ m, 11 - l = m + 1 := ⟨10 - l, by omega⟩
  rw [hm] at h
  simp only [fstL] at h
  refine ⟨fun he => ?_, fun he => ?_⟩
  · rw [if_pos he] at h; cases h; rfl
  · rw [if_neg he] at h
    rw [show 11 - (l + 1) = m by omega]
    refine ⟨?_, h⟩
    apply Classical.byContradiction
    intro hge
    have : m = 0 := by omega
    rw [this] at h
    cases h

/-- The lengths are read off the table. -/
theorem out27 {r : Bool} {v : Value} {ws : List Int} {il kd : Nat} {g : Heap} {cs : List Value} {K : Value → Heap → Prop} (hv : NS g v .i64 ws) (hc : okW ws) (hn : ws.length ≤ 12) (hkd : g[kd]? = some (.arr 3 [I (if r then 1 else 0)])) (t : Tb g il r ws 240000 0 cs)
    {c : Int} (hlc : lc r ws 0 = some c) (hk : ∀ u h', EX g h' → OwnS g.length h' 3 u ((chL r ws 0).map fun l : Nat => I l) → K (.tuple #[u, I c, I 0]) h') :
    p27z53 Tryd.prog K v (.func (.func 49) #[] #[pt kd 0]) (sl 22 il 0 (ws.length + 1)) g := by
  rw [q27z53]
  simp only [hv.len, OP_some]
  refine loopL (σ := Nat × Nat × Value × List Nat × Heap) (fun q => [q.2.2.1, I q.2.1, I q.1]) (fun q => q.2.2.2.2)
    (fun q => q.1 ≤ ws.length ∧ q.2.1 ≤ 1024 ∧ (∃ u, lc r (ws.drop q.1) q.2.1 = some u) ∧ q.2.2.2.1 ++ chL r (ws.drop q.1) q.2.1 = chL r ws 0 ∧ EX g q.2.2.2.2 ∧ OwnS g.length q.2.2.2.2 3 q.2.2.1 (q.2.2.2.1.map fun l : Nat => I l) ∧ q.2.2.2.1.length = q.1) (fun q => ws.length - q.1)
    (0, 0, .slice none 0 0, [], g) rfl rfl ⟨Nat.zero_le _, Nat.zero_le _, ⟨c, by simpa using hlc⟩, by simp, EX.refl _, .inl ⟨rfl, rfl⟩, rfl⟩ ?_
  rintro ⟨i, a, vo, pre, g1⟩ ⟨hi, ha, ⟨u, hu⟩, hpre, x1, own, hpl⟩ L1 hL1
  simp only at hi ha hu hpre x1 own hpl hL1 ⊢
  have t1 := t.ex x1
  rw [q27z59]
  simp only [bin_lss, OP_some, IfP_dec]
  refine ⟨fun hlt => ?_, fun hge => ?_⟩
  · have hil : i < ws.length := by omega
    obtain ⟨wb, wo, w1, w2⟩ := (hv.mono x1).get i hil
    have hw := hc _ (List.getElem_mem hil)
    have hdrop : ws.drop i = ws[i] :: ws.drop (i + 1) := List.drop_eq_getElem_cons hil
    have hcd1 : okW (ws.drop (i + 1)) := fun x hx => hc x (List.mem_of_mem_drop hx)
    have hub := lc_bound (fun x hx => hc x (List.mem_of_mem_drop hx)) hu
    rw [List.length_drop] at hub
    have hul : u ≤ 120000 := by omega
    rw [hdrop] at hu hpre
    obtain ⟨j, u', hj, hj1, hj2, hj3, hj4, hj5, hj6⟩ := ch_step hu
    simp only [w1, w2, OP_some]
    refine loopL (σ := Nat) (fun l => [vo, I a, I l]) (fun _ => g1) (fun l => (1 ≤ l ∧ l ≤ 10) ∧ fstL r (lc r (ws.drop (i + 1))) ws[i] a (some u) (11 - l) l = some j) (fun l => 11 - l) 1 rfl rfl ⟨⟨by decide, by decide⟩, hj⟩ ?_
    rintro l ⟨⟨hl1, hl10⟩, hf⟩ L2 hL2
    obtain ⟨hyes, hno⟩ := fst_step hl10 hf
    rw [q27z67]
    simp only [bin_leq, OP_some, decide_eq_true (show (l : Int) ≤ 10 by omega), IfP_true]
    refine callVP_fn ok49 (C49 (r := r) (x1.get hkd) ha hl1 hl10 ?_)
    have ms := mul_small hw.1 hw.2 hl10
    have goon : stp r (lc r (ws.drop (i + 1))) ws[i] a l ≠ some u → L2 [vo, I a, I (l + 1 : Nat)] g1 := by
      intro hne
      obtain ⟨q1, q2⟩ := hno hne
      exact hL2 (l + 1) ⟨⟨by omega, by omega⟩, q2⟩ (by omega)
    by_cases hto : aft r a l ≤ 1024
    · obtain ⟨b0, a1, a2, a3, a4⟩ := t1.load (j := i) (a := a) (Nat.zero_le _) (by omega) ha
      obtain ⟨b1, c1, c2, c3, c4⟩ := t1.load (j := i + 1) (a := aft r a l) (Nat.zero_le _) (by omega) hto
      rw [hdrop, hu] at a4
      have wm : IntKind.wrap .i64 (ws[i] * (l : Int)) = ws[i] * (l : Int) := wrap64 (by omega) (by omega)
      have lb : ∀ z, lc r (ws.drop (i + 1)) (aft r a l) = some z → 0 ≤ z ∧ z ≤ 120000 := fun z hz => by have := lc_bound hcd1 hz; rw [List.length_drop] at this; omega
      have eb : 0 ≤ encT 240000 (lc r (ws.drop (i + 1)) (aft r a l)) ∧ encT 240000 (lc r (ws.drop (i + 1)) (aft r a l)) ≤ 240000 := by
        cases hq : lc r (ws.drop (i + 1)) (aft r a l) with
        | none => simp [encT]
        | some z => have := lb z hq; simp only [encT, Option.getD_some]; omega
      have wa : IntKind.wrap .i64 (ws[i] * (l : Int) + encT 240000 (lc r (ws.drop (i + 1)) (aft r a l))) = ws[i] * (l : Int) + encT 240000 (lc r (ws.drop (i + 1)) (aft r a l)) := wrap64 (by omega) (by omega)
      have hiff : (ws[i] * (l : Int) + encT 240000 (lc r (ws.drop (i + 1)) (aft r a l)) = u) ↔ stp r (lc r (ws.drop (i + 1))) ws[i] a l = some u := by
        rw [stp_eq hto]
        cases hq : lc r (ws.drop (i + 1)) (aft r a l) with
        | none => simp only [encT, Option.getD_none, Option.map_none]; constructor
                  · intro h; omega
                  · intro h; cases h
        | some z => simp only [encT, Option.getD_some, Option.map_some, Option.some.injEq]
      simp only [bin_leq, OP_some, decide_eq_true (show ((aft r a l : Nat) : Int) ≤ 1024 by omega), GdP_tt, bin_mul, wm, bin_add, inc i (by omega), c1, c2, c3, c4, true_and, wa, a1, a2, a3, a4, bin_eql, iPick_t]
      have e9 : encT 240000 (some u) = u := rfl
      rw [e9]
      by_cases hfound : ws[i] * (l : Int) + encT 240000 (lc r (ws.drop (i + 1)) (aft r a l)) = u
      · obtain rfl := hyes (hiff.1 hfound)
        rw [decide_eq_true hfound]
        simp only [IfP_true]
        refine app1 own x1 (by simp; omega) (by simp [maxLen]; omega) rfl rfl ?_
        intro v' g2 x2 own'
        rw [q27z75]
        simp only [bin_add, OP_some, inc i (by omega), true_and]
        refine hL1 (i + 1, aft r a j, v', pre ++ [j], g2) ⟨by show i + 1 ≤ _; omega, hto, ⟨u', hj4⟩, ?_, x2, by simpa using own', by simp [hpl]⟩ (by show ws.length - (i + 1) < ws.length - i; omega)
        show (pre ++ [j]) ++ chL r (ws.drop (i + 1)) (aft r a j) = _
        rw [hj6] at hpre
        rw [← hpre]; simp
      · rw [decide_eq_false hfound]
        simp only [IfP_false]
        rw [inc l (by omega)]
        exact goon fun h => hfound (hiff.2 h)
    · simp only [bin_leq, OP_some, decide_eq_false (show ¬ ((aft r a l : Nat) : Int) ≤ 1024 by omega), GdP_ft, iPick_f, IfP_false, bin_add, inc l (by omega), true_and]
      exact goon (by rw [stp_no hto]; simp)
  · have : i = ws.length := by omega
    subst this
    obtain ⟨b0, a1, a2, a3, a4⟩ := t1.load (j := 0) (a := 0) (Nat.le_refl _) (by omega) (by decide)
    rw [List.drop_zero, hlc] at a4
    have a1' : iAdrSl 1 (sl 22 il 0 (ws.length + 1)) (.int .i64 (0)) = some (pt il 0) := a1
    have a3' : iAdrSl 1 (sl 3 b0 0 1025) (.int .i64 (0)) = some (pt b0 0) := a3
    rw [q27z76]
    simp only [a1', a2, a3', a4, OP_some, true_and]
    rw [List.drop_length] at hpre
    have hpre' : pre = chL r ws 0 := by rw [← hpre]; simp [chL]
    rw [← hpre'] at hk
    exact hk vo g1 x1 own

end Go.Proofs.YthplaillblmgfaaDoor


namespace Go.Proofs.YthplaillblmgfaaDoor
open Go.Sim

set_option maxHeartbeats 1000000 in
theorem C27 {r : Bool} {v : Value} {ws : List Int} {h : Heap} {K : Value → Heap → Prop} (hv : NS h v .i64 ws) (hl : ws.length ≤ 1000)
    (hlong : 12 < ws.length → ∀ h', EX h h' → K (.tuple #[.slice none 0 0, I 0, I 3]) h')
    (hbad : ws.length ≤ 12 → ¬ (2 ≤ ws.length ∧ okW ws) → ∀ h', EX h h' → K (.tuple #[.slice none 0 0, I 0, I 1]) h')
    (hk : 2 ≤ ws.length → ws.length ≤ 12 → okW ws → ∀ c u h', lc r ws 0 = some c → EX h h' → OwnS h.length h' 3 u ((chL r ws 0).map fun l : Nat => I l) → K (.tuple #[u, I c, I 0]) h') :
    CallP Tryd.prog 27 [I (if r then 1 else 0), v] h K := by
  refine f27 ?_
  have bx : iBox 3 h (I (if r then 1 else 0)) = some (pt h.length 0, h ++ [.arr 3 [I (if r then 1 else 0)]]) := rfl
  have ld : iLoad false 1 (h ++ [IObj.arr 3 [I (if r then 1 else 0)]]) (pt h.length 0) = some (I (if r then 1 else 0)) := load_last rfl
  simp only [T27, bx, OH_some, ld, OP_some, bin_geq, decide_eq_false (show ¬ (2 : Int) ≤ (if r = true then 1 else 0) by cases r <;> decide)]
  have x0 : EX h (h ++ [.arr 3 [I (if r then 1 else 0)]]) := EX.append _ _
  have k0 : (h ++ [IObj.arr 3 [I (if r then 1 else 0)]])[h.length]? = some (.arr 3 [I (if r then 1 else 0)]) := get_last
  have ln : h.length < (h ++ [IObj.arr 3 [I (if r then 1 else 0)]]).length := by simp
  generalize h ++ [IObj.arr 3 [I (if r then 1 else 0)]] = h1 at x0 k0 ln ⊢
  have hv1 := hv.mono x0
  rw [q27z6]
  simp only [GdP_ff, hv1.len, OP_some, bin_gtr]
  rw [q27z8]
  simp only [iPick_f, OP_some, IfP_dec]
  refine ⟨fun hgt => hlong (by omega) _ x0, fun hle => ?_⟩
  have hle12 : ws.length ≤ 12 := by omega
  simp only [hv1.len, OP_some, bin_lss]
  rw [q27z12]
  by_cases h2 : ws.length < 2
  · simp only [decide_eq_true (show (ws.length : Int) < 2 by omega), GdP_tf, q27z14, iPick_t, OP_some, q27z16, q27z18, IfP_true]
    exact hbad hle12 (by omega) _ x0
  simp only [decide_eq_false (show ¬ (ws.length : Int) < 2 by omega), GdP_ff]
  refine C47 hv1 (by omega) hl ?_
  intro m hm hmle
  simp only [bin_lss, OP_some, q27z14, iPick_f]
  by_cases hm0 : m < 0
  · simp only [decide_eq_true hm0, q27z16, GdP_tf, q27z18, iPick_t, OP_some, IfP_true]
    exact hbad hle12 (fun hc => by have := (hc.2 m hm).1; omega) _ x0
  simp only [decide_eq_false hm0, q27z16, GdP_ff]
  refine C48 hv1 (by omega) hl ?_
  intro M hM hMle
  simp only [bin_gtr, OP_some]
  rw [q27z18]
  simp only [iPick_f, OP_some, IfP_dec]
  refine ⟨fun hb => hbad hle12 (fun hc => by have := (hc.2 M hM).2; omega) _ x0, fun hb => ?_⟩
  have hok : okW ws := fun w hw => ⟨by have := hmle w hw; omega, by have := hMle w hw; omega⟩
  obtain ⟨c, hc⟩ := Option.isSome_iff_exists.1 (lc_some (r := r) (ws := ws) (k := 0) (by omega))
  rw [Nat.mul_zero] at hc
  have w1 : IntKind.wrap .i64 ((ws.length : Int) + 1) = ((ws.length + 1 : Nat) : Int) := by rw [wrap64 (by omega) (by omega)]; omega
  have w2 : IntKind.wrap .i64 ((ws.length : Int) - 1) = (ws.length : Int) - 1 := wrap64 (by omega) (by omega)
  have mk1 : iMake 22 24 [(.slice none 0 0)] h1 (I (ws.length + 1 : Nat)) (I (ws.length + 1 : Nat)) = some (sl 22 h1.length 0 (ws.length + 1), h1 ++ [.arr 22 (List.replicate (ws.length + 1) (.slice none 0 0))]) := by
    simp only [iMake]
    rw [if_pos (by omega), zrep_one]; rfl
  have mk2 : ∀ g : Heap, iMake 3 8 [(.int .i64 (0))] g (.int .i64 (1025)) (.int .i64 (1025)) = some (sl 3 g.length 0 1025, g ++ [.arr 3 (rowF fun _ => 0)]) := by
    intro g
    simp only [iMake]
    rw [if_pos (by decide)]
    have : zrep [(.int .i64 (0))] (Int.toNat 1025) = rowF fun _ => 0 := by rw [show Int.toNat 1025 = 1025 from rfl, zrep_one]; exact rowF_rep 0
    rw [this]; rfl
  simp only [hv1.len, OP_some, bin_add, w1, mk1, mk2, OH_some, adr_sl (show ws.length < ws.length + 1 by omega), bin_sub, w2]
  have k1 : (h1 ++ [IObj.arr 22 (List.replicate (ws.length + 1) (.slice none 0 0))] ++ [IObj.arr 3 (rowF fun _ => 0)])[h1.length]? = some (.arr 22 (List.replicate (ws.length + 1) (.slice none 0 0))) := by
    rw [List.append_assoc, List.getElem?_append_right (Nat.le_refl _), Nat.sub_self]; rfl
  have k2 : (h1 ++ [IObj.arr 22 (List.replicate (ws.length + 1) (.slice none 0 0))] ++ [IObj.arr 3 (rowF fun _ => 0)])[h1.length + 1]? = some (.arr 3 (rowF fun _ => 0)) := by
    rw [List.getElem?_append_right (by simp)]; simp
  have x2 : EX h1 (h1 ++ [IObj.arr 22 (List.replicate (ws.length + 1) (.slice none 0 0))] ++ [IObj.arr 3 (rowF fun _ => 0)]) := (EX.append _ _).push _
  have l2 : (h1 ++ [IObj.arr 22 (List.replicate (ws.length + 1) (.slice none 0 0))]).length = h1.length + 1 := by simp
  rw [l2]
  generalize h1 ++ [IObj.arr 22 (List.replicate (ws.length + 1) (.slice none 0 0))] ++ [IObj.arr 3 (rowF fun _ => 0)] = g0 at k1 k2 x2 ⊢
  rw [store_at k1 (by simp) rfl rfl]
  simp only [OH_some]
  have hil : h1.length < g0.length := (List.getElem?_eq_some_iff.1 k1).1
  refine loopL (σ := Nat × List Value × Heap) (fun q => [I ((q.1 : Int) - 1)]) (fun q => q.2.2) (fun q => q.1 ≤ ws.length ∧ EX h1 q.2.2 ∧ Tb q.2.2 h1.length r ws 240000 q.1 q.2.1) (fun q => q.1)
    (ws.length, (List.replicate (ws.length + 1) (.slice none 0 0)).set ws.length (sl 3 (h1.length + 1) 0 1025), g0.set h1.length (.arr 22 ((List.replicate (ws.length + 1) (.slice none 0 0)).set ws.length (sl 3 (h1.length + 1) 0 1025)))) rfl rfl
    ⟨Nat.le_refl _, x2.set (Nat.le_refl _) _, List.getElem?_set_self hil, by simp, fun j hj1 hj2 => ?_⟩ ?_
  · obtain rfl : j = ws.length := Nat.le_antisymm hj2 hj1
    refine ⟨h1.length + 1, by simp, by omega, ?_⟩
    rw [List.getElem?_set_ne (by omega), k2, List.drop_length]
    rfl
  rintro ⟨i, cs, g⟩ ⟨hi, xg, t⟩ L hL
  simp only at hi xg t hL ⊢
  rw [q27z27]
  simp only [bin_geq, OP_some, IfP_dec]
  refine ⟨fun hge => ?_, fun hlt => ?_⟩
  · obtain ⟨k, rfl⟩ : ∃ k, i = k + 1 := ⟨i - 1, by omega⟩
    have ek : ((k + 1 : Nat) : Int) - 1 = (k : Int) := by omega
    have mks : iMkSl 3 1 [(.int .i64 (0))] g [(0, 1, (.int .i64 (240000)))] = some (sl 3 g.length 0 1, g ++ [.arr 3 [I 240000]]) := rfl
    rw [ek]
    simp only [mks, OH_some]
    refine C50 get_last ?_
    have kil := (xg.trans (EX.append g [IObj.arr 3 [I 240000]])).push [IObj.arr 3 (List.replicate 1025 (I 240000))]
    have kt : (g ++ [IObj.arr 3 [I 240000]] ++ [IObj.arr 3 (List.replicate 1025 (I 240000))])[h1.length]? = some (.arr 22 cs) := ((EX.append g [IObj.arr 3 [I 240000]]).push _).get t.here
    have hck : k < cs.length := by rw [t.len]; omega
    simp only [adr_sl (show k < ws.length + 1 by omega), OP_some]
    rw [store_at kt hck rfl rfl]
    simp only [OH_some]
    have lbi : (g ++ [IObj.arr 3 [I 240000]]).length = g.length + 1 := by simp
    rw [lbi]
    have kbi : (g ++ [IObj.arr 3 [I 240000]] ++ [IObj.arr 3 (List.replicate 1025 (I 240000))])[g.length + 1]? = some (.arr 3 (rowF fun _ => 240000)) := by
      rw [List.getElem?_append_right (by simp), rowF_rep]; simp
    have hilg := (List.getElem?_eq_some_iff.1 t.here).1
    have kold : ∀ d, d < g.length → (g ++ [IObj.arr 3 [I 240000]] ++ [IObj.arr 3 (List.replicate 1025 (I 240000))])[d]? = g[d]? := fun d hd => ((EX.append g [IObj.arr 3 [I 240000]]).push _).2 d hd
    generalize g ++ [IObj.arr 3 [I 240000]] ++ [IObj.arr 3 (List.replicate 1025 (I 240000))] = ga at kil kt kbi kold ⊢
    have hilga := (List.getElem?_eq_some_iff.1 kt).1
    have xa : EX h1 (ga.set h1.length (.arr 22 (cs.set k (sl 3 (g.length + 1) 0 1025)))) := kil.set (Nat.le_refl _) _
    have ka : (ga.set h1.length (.arr 22 (cs.set k (sl 3 (g.length + 1) 0 1025))))[h1.length]? = some (.arr 22 (cs.set k (sl 3 (g.length + 1) 0 1025))) := List.getElem?_set_self hilga
    have kb : (ga.set h1.length (.arr 22 (cs.set k (sl 3 (g.length + 1) 0 1025))))[g.length + 1]? = some (.arr 3 (rowF fun _ => 240000)) := by rw [List.getElem?_set_ne (by omega)]; exact kbi
    have kc : ∀ b, b < g.length → b ≠ h1.length → (ga.set h1.length (.arr 22 (cs.set k (sl 3 (g.length + 1) 0 1025))))[b]? = g[b]? := fun b hb hne => by rw [List.getElem?_set_ne (Ne.symm hne)]; exact kold b hb
    generalize ga.set h1.length (.arr 22 (cs.set k (sl 3 (g.length + 1) 0 1025))) = gb at xa ka kb kc ⊢
    have ldr : iLoad false 1 gb (pt h1.length k) = some (sl 3 (g.length + 1) 0 1025) := by simp [iLoad, objCells, ka, iPart, hck]
    have lr : iLenSl (sl 3 (g.length + 1) 0 1025) = some (I 1025) := rfl
    simp only [ldr, OP_some, lr]
    obtain ⟨b, rb1, rb2, rb3⟩ := t.row (k + 1) (Nat.le_refl _) hi
    have hbg := (List.getElem?_eq_some_iff.1 rb3).1
    refine row27 (i := k) (bi := g.length + 1) (cs := cs.set k (sl 3 (g.length + 1) 0 1025)) hok hle12 (by omega) (xa.get k0) ka (by simp [t.len]) (by simp [hck]) kb (by omega) (by omega) ⟨b, ?_, by omega, ?_⟩ (hv.mono ((x0.trans xa).set (by omega) _)) ?_
    · rw [List.getElem?_set_ne (by omega)]; exact rb1
    · rw [kc b hbg rb2]; exact rb3
    rw [q27z52]
    have w3 : IntKind.wrap .i64 ((k : Int) - 1) = (k : Int) - 1 := wrap64 (by omega) (by omega)
    simp only [bin_sub, w3, OP_some, true_and]
    refine hL (k, cs.set k (sl 3 (g.length + 1) 0 1025), gb.set (g.length + 1) (.arr 3 (rowF fun a => encT 240000 (lc r (ws.drop k) a)))) ⟨by show k ≤ _; omega, xa.set (by omega) _, by rw [List.getElem?_set_ne (by omega)]; exact ka, by simp [t.len], fun j hj1 hj2 => ?_⟩ (by show k < k + 1; omega)
    by_cases hjk : j = k
    · subst hjk
      exact ⟨g.length + 1, by simp [hck], by omega, List.getElem?_set_self (List.getElem?_eq_some_iff.1 kb).1⟩
    · obtain ⟨b', q1, q2, q3⟩ := t.row j (by omega) hj2
      have hb' := (List.getElem?_eq_some_iff.1 q3).1
      exact ⟨b', by rw [List.getElem?_set_ne (by omega)]; exact q1, q2, by rw [List.getElem?_set_ne (by omega), kc b' hb' q2]; exact q3⟩
  · obtain rfl : i = 0 := by omega
    refine out27 (hv.mono (x0.trans xg)) hok hle12 (xg.get k0) t hc ?_
    intro u h' x3 hu
    exact hk (by omega) hle12 hok c u h' hc (x0.trans (xg.trans x3)) (OwnS.up (x0.trans xg).1 hu)

theorem trip (a b c : Value) : (#[a, b, c] : Array Value)[0]? = some a ∧ (#[a, b, c] : Array Value)[1]? = some b ∧ (#[a, b, c] : Array Value)[2]? = some c := ⟨rfl, rfl, rfl⟩

theorem C10 {v : Value} {ws : List Int} {h : Heap} {K : Value → Heap → Prop} (hv : NS h v .i64 ws) (hl : ws.length ≤ 1000)
    (hlong : 12 < ws.length → ∀ h', EX h h' → K (.tuple #[.slice none 0 0, I 0, I 3]) h')
    (hbad : ws.length ≤ 12 → ¬ (2 ≤ ws.length ∧ okW ws) → ∀ h', EX h h' → K (.tuple #[.slice none 0 0, I 0, I 1]) h')
    (hk : 2 ≤ ws.length → ws.length ≤ 12 → okW ws → ∀ c u h', lc false ws 0 = some c → EX h h' → OwnS h.length h' 3 u ((chL false ws 0).map fun l : Nat => I l) → K (.tuple #[u, I c, I 0]) h') : CallP Tryd.prog 10 [v] h K := by
  refine f10 (C27 (r := false) hv hl (fun a h' x => ?_) (fun a b h' x => ?_) (fun a b c d e h' f x g => ?_))
  · simp only [ext_tuple, (trip _ _ _).1, (trip _ _ _).2.1, (trip _ _ _).2.2, OP_some]; exact hlong a h' x
  · simp only [ext_tuple, (trip _ _ _).1, (trip _ _ _).2.1, (trip _ _ _).2.2, OP_some]; exact hbad a b h' x
  · simp only [ext_tuple, (trip _ _ _).1, (trip _ _ _).2.1, (trip _ _ _).2.2, OP_some]; exact hk a b c d e h' f x g

theorem C11 {v : Value} {ws : List Int} {h : Heap} {K : Value → Heap → Prop} (hv : NS h v .i64 ws) (hl : ws.length ≤ 1000)
    (hlong : 12 < ws.length → ∀ h', EX h h' → K (.tuple #[.slice none 0 0, I 0, I 3]) h')
    (hbad : ws.length ≤ 12 → ¬ (2 ≤ ws.length ∧ okW ws) → ∀ h', EX h h' → K (.tuple #[.slice none 0 0, I 0, I 1]) h')
    (hk : 2 ≤ ws.length → ws.length ≤ 12 → okW ws → ∀ c u h', lc true ws 0 = some c → EX h h' → OwnS h.length h' 3 u ((chL true ws 0).map fun l : Nat => I l) → K (.tuple #[u, I c, I 0]) h') : CallP Tryd.prog 11 [v] h K := by
  refine f11 (C27 (r := true) hv hl (fun a h' x => ?_) (fun a b h' x => ?_) (fun a b c d e h' f x g => ?_))
  · simp only [ext_tuple, (trip _ _ _).1, (trip _ _ _).2.1, (trip _ _ _).2.2, OP_some]; exact hlong a h' x
  · simp only [ext_tuple, (trip _ _ _).1, (trip _ _ _).2.1, (trip _ _ _).2.2, OP_some]; exact hbad a b h' x
  · simp only [ext_tuple, (trip _ _ _).1, (trip _ _ _).2.1, (trip _ _ _).2.2, OP_some]; exact hk a b c d e h' f x g

end Go.Proofs.YthplaillblmgfaaDoor


namespace Go.Proofs.YthplaillblmgfaaDoor
open Go.Sim
variable (P : Program) (K : VK)
/-! F12: pommel/pommelref08.Numbers -/
/-! F14: pommel/pommelref08.Choose -/
noncomputable def c14z54 : ICode := .seq (.ops none [⟨(some 118), .p (.mv (.tmp 12))⟩,
 ⟨(some 119), .p (.mv (.tmp 14))⟩,
 ⟨(some 120), .call 32 [(.tmp 119)]⟩,
 ⟨(some 121), .p (.bin .add (.tmp 118) (.tmp 120))⟩,
 ⟨(some 12), .p (.mv (.tmp 121))⟩])
 (.exit 8)
noncomputable def c14z48 : ICode := .ops none [⟨(some 87), .p (.mv (.tmp 14))⟩,
 ⟨(some 88), .p (.bin .add (.tmp 87) (.const (.int .i64 (1))))⟩,
 ⟨(some 14), .p (.mv (.tmp 88))⟩]
noncomputable def c14z45 : ICode := .seq (.seq (.ops none [⟨(some 85), .p (.mv (.tmp 14))⟩,
 ⟨(some 86), .p (.bin .leq (.tmp 85) (.const (.int .i64 (10))))⟩])
 (.cond (.tmp 86) (.skip)
 (.exit 8)))
 (.seq (.block 9 (.seq (.dops [(none, [⟨(some 89), .p (.mv (.tmp 6)), 0⟩,
 ⟨(some 90), .p (.mv (.tmp 13)), 0⟩,
 ⟨(some 91), .p (.bin .add (.tmp 90) (.const (.int .i64 (1)))), 2⟩,
 ⟨(some 92), .p (.adrSl 1 (.tmp 89) (.tmp 91)), 7⟩,
 ⟨(some 93), .l (.load false 1 (.tmp 92)), 15⟩,
 ⟨(some 94), .p (.mv (.tmp 0)), 0⟩,
 ⟨(some 95), .p (.mv (.tmp 13)), 0⟩,
 ⟨(some 96), .p (.adrSl 1 (.tmp 94) (.tmp 95)), 96⟩,
 ⟨(some 97), .l (.load false 1 (.tmp 96)), 224⟩,
 ⟨(some 98), .p (.mv (.tmp 12)), 0⟩,
 ⟨(some 99), .p (.mv (.tmp 14)), 0⟩,
 ⟨(some 100), .p (.mv (.tmp 1)), 0⟩,
 ⟨(some 101), .call 30 [(.tmp 93), (.tmp 97), (.tmp 98), (.tmp 99), (.tmp 100), (.const (.int .i64 (1099511627776)))], 4095⟩,
 ⟨(some 102), .p (.mv (.tmp 6)), 0⟩,
 ⟨(some 103), .p (.mv (.tmp 13)), 0⟩,
 ⟨(some 104), .p (.adrSl 1 (.tmp 102) (.tmp 103)), 24576⟩,
 ⟨(some 105), .l (.load false 1 (.tmp 104)), 57344⟩,
 ⟨(some 106), .p (.mv (.tmp 12)), 0⟩,
 ⟨(some 107), .p (.adrSl 1 (.tmp 105) (.tmp 106)), 253952⟩,
 ⟨(some 108), .l (.load false 1 (.tmp 107)), 516096⟩,
 ⟨(some 109), .p (.bin .eql (.tmp 101) (.tmp 108)), 1048575⟩])])
 (.cond (.tmp 109) (.seq (.ops none [⟨(some 110), .p (.mv (.tmp 11))⟩,
 ⟨(some 111), .p (.mv (.tmp 14))⟩,
 ⟨(some 112), .e (.mkSl 3 1 [(.int .i64 (0))] [(0, 1, (.tmp 111))])⟩,
 ⟨(some 113), .e (.app 3 1 8 (.tmp 110) (.tmp 112))⟩,
 ⟨(some 11), .p (.mv (.tmp 113))⟩])
 (.seq (.seq (.ops none [⟨(some 114), .p (.mv (.tmp 1))⟩])
 (.cond (.tmp 114) (.ops none [⟨(some 115), .p (.mv (.tmp 12))⟩,
 ⟨(some 116), .p (.mv (.tmp 14))⟩,
 ⟨(some 117), .call 31 [(.tmp 115), (.tmp 116)]⟩,
 ⟨(some 12), .p (.mv (.tmp 117))⟩])
 (.skip)))
 (.cut [0, 1, 6, 11, 12, 13, 14] c14z54)))
 (.skip)))) c14z48)
noncomputable def c14z56 : ICode := .ops none [⟨(some 83), .p (.mv (.tmp 13))⟩,
 ⟨(some 84), .p (.bin .add (.tmp 83) (.const (.int .i64 (1))))⟩,
 ⟨(some 13), .p (.mv (.tmp 84))⟩]
noncomputable def c14z41 : ICode := .cut [0, 1, 6, 11, 12, 13] c14z56
noncomputable def c14z38 : ICode := .seq (.seq (.ops none [⟨(some 79), .p (.mv (.tmp 13))⟩,
 ⟨(some 80), .p (.mv (.tmp 0))⟩,
 ⟨(some 81), .p (.lenSl (.tmp 80))⟩,
 ⟨(some 82), .p (.bin .lss (.tmp 79) (.tmp 81))⟩])
 (.cond (.tmp 82) (.skip)
 (.exit 6)))
 (.seq (.block 7 (.seq (.ops none [⟨(some 14), .p (.mv (.const (.int .i64 (1))))⟩])
 (.block 8 (.loop [0, 1, 6, 13] [11, 12, 14] c14z45)))) c14z41)
noncomputable def c14z57 : ICode := .seq (.dops [(none, [⟨(some 122), .p (.mv (.tmp 11)), 0⟩,
 ⟨(some 123), .p (.mv (.tmp 6)), 0⟩,
 ⟨(some 124), .p (.adrSl 1 (.tmp 123) (.const (.int .i64 (0)))), 2⟩,
 ⟨(some 125), .l (.load false 1 (.tmp 124)), 6⟩,
 ⟨(some 126), .p (.adrSl 1 (.tmp 125) (.const (.int .i64 (0)))), 14⟩,
 ⟨(some 127), .l (.load false 1 (.tmp 126)), 30⟩,
 ⟨(some 4), .p (.mv (.tmp 122)), 1⟩,
 ⟨(some 5), .p (.mv (.tmp 127)), 127⟩])])
 (.ret)
noncomputable def c14z35 : ICode := .cut [6, 11] c14z57
noncomputable def c14z33 : ICode := .seq (.ops none [⟨(some 78), .e (.mkSl 3 0 [(.int .i64 (0))] [])⟩,
 ⟨(some 11), .p (.mv (.tmp 78))⟩,
 ⟨(some 12), .p (.mv (.const (.int .i64 (0))))⟩])
 (.seq (.seq (.ops none [⟨(some 13), .p (.mv (.const (.int .i64 (0))))⟩])
 (.block 6 (.loop [0, 1, 6] [11, 12, 13] c14z38))) c14z35)
def K14z0 (_P : Program) (K : VK) : Kont := bodyP [.tmp 4, .tmp 5] K
def K14z35 : Kont := thenK (iwpP P c14z35 (K14z0 P K)) (K14z0 P K)
def K14z37 : Kont := inBlockK 6 (K14z35 P K)
def K14z38 (w0 rising1 cost6 : Value) (L1 : LK) : Kont := thenK (fun f' h'' => (([0, 1, 6] : List Nat).map f' : List Value) = [w0, rising1, cost6] ∧ L1 (([11, 12, 13] : List Nat).map f') h'') (K14z37 P K)
def K14z41 (w0 rising1 cost6 : Value) (L1 : LK) : Kont := thenK (iwpP P c14z41 (K14z38 P K w0 rising1 cost6 L1)) (K14z38 P K w0 rising1 cost6 L1)
def K14z42 (w0 rising1 cost6 : Value) (L1 : LK) : Kont := inBlockK 7 (K14z41 P K w0 rising1 cost6 L1)
def K14z44 (w0 rising1 cost6 : Value) (L1 : LK) : Kont := inBlockK 8 (K14z42 P K w0 rising1 cost6 L1)
def K14z45 (w0 rising1 cost6 i13 : Value) (L1 L2 : LK) : Kont := thenK (fun f' h'' => (([0, 1, 6, 13] : List Nat).map f' : List Value) = [w0, rising1, cost6, i13] ∧ L2 (([11, 12, 14] : List Nat).map f') h'') (K14z44 P K w0 rising1 cost6 L1)
def K14z48 (w0 rising1 cost6 i13 : Value) (L1 L2 : LK) : Kont := thenK (iwpP P c14z48 (K14z45 P K w0 rising1 cost6 i13 L1 L2)) (K14z45 P K w0 rising1 cost6 i13 L1 L2)
def K14z49 (w0 rising1 cost6 i13 : Value) (L1 L2 : LK) : Kont := inBlockK 9 (K14z48 P K w0 rising1 cost6 i13 L1 L2)
def p14z33 (w0 rising1 cost6 : Value) (h : Heap) : Prop := CutP (iwpP P c14z33 (K14z0 P K)) [0, 1, 6] [w0, rising1, cost6] h
def p14z38 (w0 rising1 cost6 : Value) (L1 : LK) (xs : List Value) (h : Heap) : Prop := CutP (iwpP P c14z38 (K14z38 P K w0 rising1 cost6 L1)) ([0, 1, 6] ++ [11, 12, 13]) ([w0, rising1, cost6] ++ xs) h
def p14z45 (w0 rising1 cost6 i13 : Value) (L1 L2 : LK) (xs : List Value) (h : Heap) : Prop := CutP (iwpP P c14z45 (K14z45 P K w0 rising1 cost6 i13 L1 L2)) ([0, 1, 6, 13] ++ [11, 12, 14]) ([w0, rising1, cost6, i13] ++ xs) h
def p14z54 (w0 rising1 cost6 out11 at12 i13 n14 : Value) (L1 L2 : LK) (h : Heap) : Prop := CutP (iwpP P c14z54 (K14z49 P K w0 rising1 cost6 i13 L1 L2)) [0, 1, 6, 11, 12, 13, 14] [w0, rising1, cost6, out11, at12, i13, n14] h
def p14z56 (w0 rising1 cost6 out11 at12 i13 : Value) (L1 : LK) (h : Heap) : Prop := CutP (iwpP P c14z56 (K14z38 P K w0 rising1 cost6 L1)) [0, 1, 6, 11, 12, 13] [w0, rising1, cost6, out11, at12, i13] h
def p14z57 (cost6 out11 : Value) (h : Heap) : Prop := CutP (iwpP P c14z57 (K14z0 P K)) [6, 11] [cost6, out11] h
theorem q14z54 (w0 rising1 cost6 out11 at12 i13 n14 : Value) (L1 L2 : LK) (h : Heap) : p14z54 P K w0 rising1 cost6 out11 at12 i13 n14 L1 L2 h =
 (CallP P 32 [n14] h fun x120 h_1 =>
 OP (iBin .add at12 x120) fun x121 =>
 p14z56 P K w0 rising1 cost6 out11 x121 i13 L1 h_1) := (CutP_def _ _ _ _).trans (by kernel_rfl)
theorem q14z45 (w0 rising1 cost6 i13 : Value) (L1 L2 : LK) (out11 at12 n14 : Value) (h : Heap) : p14z45 P K w0 rising1 cost6 i13 L1 L2 [out11, at12, n14] h =
 (OP (iBin .leq n14 (.int .i64 (10))) fun x86 =>
 IfP x86
 (OP (iBin .add i13 (.int .i64 (1))) fun x91 =>
 OP (iAdrSl 1 cost6 x91) fun x92 =>
 OP (iLoad false 1 h x92) fun x93 =>
 (True) ∧
 OP (iAdrSl 1 w0 i13) fun x96 =>
 OP (iLoad false 1 h x96) fun x97 =>
 (True) ∧
 CallP P 30 [x93, x97, at12, n14, rising1, (.int .i64 (1099511627776))] h fun x101 h_1 =>
 (True) ∧
 OP (iAdrSl 1 cost6 i13) fun x104 =>
 OP (iLoad false 1 h_1 x104) fun x105 =>
 (iLoad false 1 h x104 = some x105 ∧ True) ∧
 OP (iAdrSl 1 x105 at12) fun x107 =>
 OP (iLoad false 1 h_1 x107) fun x108 =>
 (iLoad false 1 h x107 = some x108 ∧ True) ∧
 OP (iBin .eql x101 x108) fun x109 =>
 IfP x109
 (OH (iMkSl 3 1 [(.int .i64 (0))] h_1 [(0, 1, n14)]) fun x112 h_2 =>
 OH (iApp 3 1 8 h_2 out11 x112) fun x113 h_3 =>
 IfP rising1
 (CallP P 31 [at12, n14] h_3 fun x117 h_4 =>
 p14z54 P K w0 rising1 cost6 x113 x117 i13 n14 L1 L2 h_4)
 (p14z54 P K w0 rising1 cost6 x113 at12 i13 n14 L1 L2 h_3))
 (OP (iBin .add n14 (.int .i64 (1))) fun x88 =>
 ([w0, rising1, cost6, i13] : List Value) = [w0, rising1, cost6, i13] ∧ L2 [out11, at12, x88] h_1))
 (p14z56 P K w0 rising1 cost6 out11 at12 i13 L1 h)) := (CutP_def _ _ _ _).trans (by kernel_rfl)
theorem q14z56 (w0 rising1 cost6 out11 at12 i13 : Value) (L1 : LK) (h : Heap) : p14z56 P K w0 rising1 cost6 out11 at12 i13 L1 h =
 (OP (iBin .add i13 (.int .i64 (1))) fun x84 =>
 ([w0, rising1, cost6] : List Value) = [w0, rising1, cost6] ∧ L1 [out11, at12, x84] h) := (CutP_def _ _ _ _).trans (by kernel_rfl)
theorem q14z38 (w0 rising1 cost6 : Value) (L1 : LK) (out11 at12 i13 : Value) (h : Heap) : p14z38 P K w0 rising1 cost6 L1 [out11, at12, i13] h =
 (OP (iLenSl w0) fun x81 =>
 OP (iBin .lss i13 x81) fun x82 =>
 IfP x82
 (LoopP [out11, at12, (.int .i64 (1))] h fun L2 xs hx =>
 p14z45 P K w0 rising1 cost6 i13 L1 L2 xs hx)
 (p14z57 P K cost6 out11 h)) := (CutP_def _ _ _ _).trans (by kernel_rfl)
theorem q14z57 (cost6 out11 : Value) (h : Heap) : p14z57 P K cost6 out11 h =
 (OP (iAdrSl 1 cost6 (.int .i64 (0))) fun x124 =>
 OP (iLoad false 1 h x124) fun x125 =>
 (True) ∧
 OP (iAdrSl 1 x125 (.int .i64 (0))) fun x126 =>
 OP (iLoad false 1 h x126) fun x127 =>
 (True) ∧
 K (.tuple #[out11, x127]) h) := (CutP_def _ _ _ _).trans (by kernel_rfl)
theorem q14z33 (w0 rising1 cost6 : Value) (h : Heap) : p14z33 P K w0 rising1 cost6 h =
 (OH (iMkSl 3 0 [(.int .i64 (0))] h []) fun x78 h_1 =>
 LoopP [x78, (.int .i64 (0)), (.int .i64 (0))] h_1 fun L1 xs hx =>
 p14z38 P K w0 rising1 cost6 L1 xs hx) := (CutP_def _ _ _ _).trans (by kernel_rfl)
/-! F15: pommel/pommelref01.Same -/
noncomputable def c15z6 : ICode := .ops none [⟨(some 14), .p (.pick (.tmp 9) (.tmp 13) (.const (.bool false)))⟩,
 ⟨(some 4), .p (.mv (.tmp 14))⟩]
noncomputable def c15z4 : ICode := .seq (.ops (some (9, true)) [⟨(some 10), .p (.mv (.tmp 1))⟩,
 ⟨(some 11), .p (.mv (.tmp 0))⟩,
 ⟨(some 12), .call 33 [(.tmp 10), (.tmp 11)]⟩,
 ⟨(some 13), .p (.un .not (.tmp 12))⟩])
 (.cut [9, 13] c15z6)
noncomputable def c15z2 : ICode := .ret
noncomputable def c15 : ICode := .seq (.ops none [⟨(some 4), .p (.mv (.const (.bool false)))⟩])
 (.seq (.seq (.ops none [⟨(some 5), .p (.mv (.tmp 0))⟩,
 ⟨(some 6), .p (.mv (.tmp 1))⟩,
 ⟨(some 7), .call 33 [(.tmp 5), (.tmp 6)]⟩,
 ⟨(some 8), .p (.un .not (.tmp 7))⟩,
 ⟨(some 9), .p (.mv (.tmp 8))⟩])
 (.cut [0, 1, 9] c15z4)) c15z2)
theorem k15 : compFn Tryd.prog 15 [[], [0, 1, 9], [9, 13], []] = some (15, c15, [.tmp 4]) := by kernel_rfl
def K15z0 (_P : Program) (K : VK) : Kont := bodyP [.tmp 4] K
def K15z2 : Kont := thenK (iwpP P c15z2 (K15z0 P K)) (K15z0 P K)
def p15z4 (a0 b1 x9 : Value) (h : Heap) : Prop := CutP (iwpP P c15z4 (K15z2 P K)) [0, 1, 9] [a0, b1, x9] h
def p15z6 (x9 x13 : Value) (h : Heap) : Prop := CutP (iwpP P c15z6 (K15z2 P K)) [9, 13] [x9, x13] h
theorem q15z6 (x9 x13 : Value) (h : Heap) : p15z6 P K x9 x13 h =
 (OP (iPick x9 x13 (.bool false)) fun x14 =>
 K x14 h) := (CutP_def _ _ _ _).trans (by kernel_rfl)
theorem q15z4 (a0 b1 x9 : Value) (h : Heap) : p15z4 P K a0 b1 x9 h =
 (GdP x9 true
 (CallP P 33 [b1, a0] h fun x12 h_1 =>
 OP (iUn .not x12) fun x13 =>
 p15z6 P K x9 x13 h_1)
 (p15z6 P K x9 undef h)) := (CutP_def _ _ _ _).trans (by kernel_rfl)
def T15 (a0 b1 : Value) (h : Heap) : Prop :=
 CallP P 33 [a0, b1] h fun x7 h_1 =>
 OP (iUn .not x7) fun x8 =>
 p15z4 P K a0 b1 x8 h_1
theorem e15 (a0 b1 : Value) (h : Heap) : iwpP P c15 (bodyP [.tmp 4] K) (frame0 [a0, b1]) h = T15 P K a0 b1 h := by kernel_rfl
theorem f15 {K : VK} {a0 b1 : Value} {h : Heap} (H : T15 Tryd.prog K a0 b1 h) : CallP Tryd.prog 15 [a0, b1] h K :=
 callP_intro k15 (Nat.le_of_ble_eq_true rfl) ((e15 Tryd.prog K a0 b1 h).mpr H)
/-! F28: pommel/pommelref08.in -/
noncomputable def c28z6 : ICode := .ops none [⟨(some 14), .p (.pick (.tmp 10) (.tmp 13) (.const (.bool false)))⟩,
 ⟨(some 6), .p (.mv (.tmp 14))⟩]
noncomputable def c28z4 : ICode := .seq (.ops (some (10, true)) [⟨(some 11), .p (.mv (.tmp 0))⟩,
 ⟨(some 12), .p (.mv (.tmp 2))⟩,
 ⟨(some 13), .p (.bin .leq (.tmp 11) (.tmp 12))⟩])
 (.cut [10, 13] c28z6)
noncomputable def c28z2 : ICode := .ret
noncomputable def c28 : ICode := .seq (.ops none [⟨(some 6), .p (.mv (.const (.bool false)))⟩])
 (.seq (.seq (.ops none [⟨(some 7), .p (.mv (.tmp 0))⟩,
 ⟨(some 8), .p (.mv (.tmp 1))⟩,
 ⟨(some 9), .p (.bin .geq (.tmp 7) (.tmp 8))⟩,
 ⟨(some 10), .p (.mv (.tmp 9))⟩])
 (.cut [0, 2, 10] c28z4)) c28z2)
theorem k28 : compFn Tryd.prog 28 [[], [0, 2, 10], [10, 13], []] = some (15, c28, [.tmp 6]) := by kernel_rfl
def K28z0 (_P : Program) (K : VK) : Kont := bodyP [.tmp 6] K
def K28z2 : Kont := thenK (iwpP P c28z2 (K28z0 P K)) (K28z0 P K)
def p28z4 (v0 high2 x10 : Value) (h : Heap) : Prop := CutP (iwpP P c28z4 (K28z2 P K)) [0, 2, 10] [v0, high2, x10] h
def p28z6 (x10 x13 : Value) (h : Heap) : Prop := CutP (iwpP P c28z6 (K28z2 P K)) [10, 13] [x10, x13] h
theorem q28z6 (x10 x13 : Value) (h : Heap) : p28z6 P K x10 x13 h =
 (OP (iPick x10 x13 (.bool false)) fun x14 =>
 K x14 h) := (CutP_def _ _ _ _).trans (by kernel_rfl)
theorem q28z4 (v0 high2 x10 : Value) (h : Heap) : p28z4 P K v0 high2 x10 h =
 (GdP x10 true
 (OP (iBin .leq v0 high2) fun x13 =>
 p28z6 P K x10 x13 h)
 (p28z6 P K x10 undef h)) := (CutP_def _ _ _ _).trans (by kernel_rfl)
def T28 (v0 low1 high2 : Value) (h : Heap) : Prop :=
 OP (iBin .geq v0 low1) fun x9 =>
 p28z4 P K v0 high2 x9 h
theorem e28 (v0 low1 high2 : Value) (h : Heap) : iwpP P c28 (bodyP [.tmp 6] K) (frame0 [v0, low1, high2]) h = T28 P K v0 low1 high2 h := by kernel_rfl
theorem f28 {K : VK} {v0 low1 high2 : Value} {h : Heap} (H : T28 Tryd.prog K v0 low1 high2 h) : CallP Tryd.prog 28 [v0, low1, high2] h K :=
 callP_intro k28 (Nat.le_of_ble_eq_true rfl) ((e28 Tryd.prog K v0 low1 high2 h).mpr H)
/-! F30: pommel/pommelref08.step -/
noncomputable def c30z10 : ICode := .ops none [⟨(some 32), .p (.pick (.tmp 22) (.const (.bool true)) (.tmp 31))⟩]
noncomputable def c30z8 : ICode := .seq (.ops (some (22, false)) [⟨(some 23), .p (.mv (.tmp 0))⟩,
 ⟨(some 24), .p (.mv (.tmp 2))⟩,
 ⟨(some 25), .p (.mv (.tmp 3))⟩,
 ⟨(some 26), .call 32 [(.tmp 25)]⟩,
 ⟨(some 27), .p (.bin .add (.tmp 24) (.tmp 26))⟩,
 ⟨(some 28), .p (.adrSl 1 (.tmp 23) (.tmp 27))⟩,
 ⟨(some 29), .l (.load false 1 (.tmp 28))⟩,
 ⟨(some 30), .p (.mv (.tmp 5))⟩,
 ⟨(some 31), .p (.bin .eql (.tmp 29) (.tmp 30))⟩])
 (.cut [0, 1, 2, 3, 5, 22, 31] c30z10)
noncomputable def c30z6 : ICode := .cond (.tmp 32) (.seq (.ops none [⟨(some 33), .p (.mv (.tmp 5))⟩,
 ⟨(some 12), .p (.mv (.tmp 33))⟩])
 (.ret))
 (.skip)
noncomputable def c30z5 : ICode := .seq (.ops none [⟨(some 34), .p (.mv (.tmp 1))⟩,
 ⟨(some 35), .p (.mv (.tmp 3))⟩,
 ⟨(some 36), .p (.bin .mul (.tmp 34) (.tmp 35))⟩,
 ⟨(some 37), .p (.mv (.tmp 0))⟩,
 ⟨(some 38), .p (.mv (.tmp 2))⟩,
 ⟨(some 39), .p (.mv (.tmp 3))⟩,
 ⟨(some 40), .call 32 [(.tmp 39)]⟩,
 ⟨(some 41), .p (.bin .add (.tmp 38) (.tmp 40))⟩,
 ⟨(some 42), .p (.adrSl 1 (.tmp 37) (.tmp 41))⟩,
 ⟨(some 43), .l (.load false 1 (.tmp 42))⟩,
 ⟨(some 44), .p (.bin .add (.tmp 36) (.tmp 43))⟩,
 ⟨(some 12), .p (.mv (.tmp 44))⟩])
 (.ret)
noncomputable def c30z4 : ICode := .seq (.seq (.seq (.ops none [⟨(some 17), .p (.mv (.tmp 2))⟩,
 ⟨(some 18), .p (.mv (.tmp 3))⟩,
 ⟨(some 19), .call 32 [(.tmp 18)]⟩,
 ⟨(some 20), .p (.bin .add (.tmp 17) (.tmp 19))⟩,
 ⟨(some 21), .p (.bin .gtr (.tmp 20) (.const (.int .i64 (1024))))⟩,
 ⟨(some 22), .p (.mv (.tmp 21))⟩])
 (.cut [0, 1, 2, 3, 5, 22] c30z8)) c30z6) c30z5
noncomputable def c30 : ICode := .seq (.ops none [⟨(some 12), .p (.mv (.const (.int .i64 (0))))⟩])
 (.seq (.seq (.ops none [⟨(some 13), .p (.mv (.tmp 4))⟩])
 (.cond (.tmp 13) (.ops none [⟨(some 14), .p (.mv (.tmp 2))⟩,
 ⟨(some 15), .p (.mv (.tmp 3))⟩,
 ⟨(some 16), .call 31 [(.tmp 14), (.tmp 15)]⟩,
 ⟨(some 2), .p (.mv (.tmp 16))⟩])
 (.skip)))
 (.cut [0, 1, 2, 3, 5] c30z4))
theorem k30 : compFn Tryd.prog 30 [[], [], [0, 1, 2, 3, 5], [0, 1, 2, 3, 5, 22], [0, 1, 2, 3, 5, 22, 31], [], [], [], []] = some (45, c30, [.tmp 12]) := by kernel_rfl
def K30z0 (_P : Program) (K : VK) : Kont := bodyP [.tmp 12] K
def K30z5 : Kont := thenK (iwpP P c30z5 (K30z0 P K)) (K30z0 P K)
def K30z6 : Kont := thenK (iwpP P c30z6 (K30z5 P K)) (K30z5 P K)
def p30z4 (next0 w1 at2 n3 never5 : Value) (h : Heap) : Prop := CutP (iwpP P c30z4 (K30z0 P K)) [0, 1, 2, 3, 5] [next0, w1, at2, n3, never5] h
def p30z8 (next0 w1 at2 n3 never5 x22 : Value) (h : Heap) : Prop := CutP (iwpP P c30z8 (K30z6 P K)) [0, 1, 2, 3, 5, 22] [next0, w1, at2, n3, never5, x22] h
def p30z10 (next0 w1 at2 n3 never5 x22 x31 : Value) (h : Heap) : Prop := CutP (iwpP P c30z10 (K30z6 P K)) [0, 1, 2, 3, 5, 22, 31] [next0, w1, at2, n3, never5, x22, x31] h
theorem q30z10 (next0 w1 at2 n3 never5 x22 x31 : Value) (h : Heap) : p30z10 P K next0 w1 at2 n3 never5 x22 x31 h =
 (OP (iPick x22 (.bool true) x31) fun x32 =>
 IfP x32
 (K never5 h)
 (OP (iBin .mul w1 n3) fun x36 =>
 CallP P 32 [n3] h fun x40 h_1 =>
 OP (iBin .add at2 x40) fun x41 =>
 OP (iAdrSl 1 next0 x41) fun x42 =>
 OP (iLoad false 1 h_1 x42) fun x43 =>
 OP (iBin .add x36 x43) fun x44 =>
 K x44 h_1)) := (CutP_def _ _ _ _).trans (by kernel_rfl)
theorem q30z8 (next0 w1 at2 n3 never5 x22 : Value) (h : Heap) : p30z8 P K next0 w1 at2 n3 never5 x22 h =
 (GdP x22 false
 (CallP P 32 [n3] h fun x26 h_1 =>
 OP (iBin .add at2 x26) fun x27 =>
 OP (iAdrSl 1 next0 x27) fun x28 =>
 OP (iLoad false 1 h_1 x28) fun x29 =>
 OP (iBin .eql x29 never5) fun x31 =>
 p30z10 P K next0 w1 at2 n3 never5 x22 x31 h_1)
 (p30z10 P K next0 w1 at2 n3 never5 x22 undef h)) := (CutP_def _ _ _ _).trans (by kernel_rfl)
theorem q30z4 (next0 w1 at2 n3 never5 : Value) (h : Heap) : p30z4 P K next0 w1 at2 n3 never5 h =
 (CallP P 32 [n3] h fun x19 h_1 =>
 OP (iBin .add at2 x19) fun x20 =>
 OP (iBin .gtr x20 (.int .i64 (1024))) fun x21 =>
 p30z8 P K next0 w1 at2 n3 never5 x21 h_1) := (CutP_def _ _ _ _).trans (by kernel_rfl)
def T30 (next0 w1 at2 n3 rising4 never5 : Value) (h : Heap) : Prop :=
 IfP rising4
 (CallP P 31 [at2, n3] h fun x16 h_1 =>
 p30z4 P K next0 w1 x16 n3 never5 h_1)
 (p30z4 P K next0 w1 at2 n3 never5 h)
theorem e30 (next0 w1 at2 n3 rising4 never5 : Value) (h : Heap) : iwpP P c30 (bodyP [.tmp 12] K) (frame0 [next0, w1, at2, n3, rising4, never5]) h = T30 P K next0 w1 at2 n3 rising4 never5 h := by kernel_rfl
theorem f30 {K : VK} {next0 w1 at2 n3 rising4 never5 : Value} {h : Heap} (H : T30 Tryd.prog K next0 w1 at2 n3 rising4 never5 h) : CallP Tryd.prog 30 [next0, w1, at2, n3, rising4, never5] h K :=
 callP_intro k30 (Nat.le_of_ble_eq_true rfl) ((e30 Tryd.prog K next0 w1 at2 n3 rising4 never5 h).mpr H)
/-! F31: pommel/pommelref08.fit -/
noncomputable def c31 : ICode := .seq (.ops none [⟨(some 4), .p (.mv (.const (.int .i64 (0))))⟩])
 (.seq (.dops [(none, [⟨(some 5), .p (.mv (.tmp 0)), 0⟩,
 ⟨(some 6), .p (.mv (.tmp 1)), 0⟩,
 ⟨(some 7), .call 32 [(.tmp 6)], 2⟩,
 ⟨(some 8), .p (.bin .add (.tmp 5) (.tmp 7)), 7⟩,
 ⟨(some 9), .p (.bin .sub (.tmp 8) (.const (.int .i64 (1)))), 15⟩,
 ⟨(some 10), .p (.mv (.tmp 1)), 0⟩,
 ⟨(some 11), .call 32 [(.tmp 10)], 38⟩,
 ⟨(some 12), .p (.bin .quo (.tmp 9) (.tmp 11)), 127⟩,
 ⟨(some 13), .p (.mv (.tmp 1)), 0⟩,
 ⟨(some 14), .call 32 [(.tmp 13)], 358⟩,
 ⟨(some 15), .p (.bin .mul (.tmp 12) (.tmp 14)), 1023⟩,
 ⟨(some 4), .p (.mv (.tmp 15)), 2047⟩])])
 (.ret))
theorem k31 : compFn Tryd.prog 31 [[], []] = some (16, c31, [.tmp 4]) := by kernel_rfl
def T31 (at0 length1 : Value) (h : Heap) : Prop :=
 CallP P 32 [length1] h fun x7 h_1 =>
 (True) ∧
 OP (iBin .add at0 x7) fun x8 =>
 OP (iBin .sub x8 (.int .i64 (1))) fun x9 =>
 CallP P 32 [length1] h_1 fun x11 h_2 =>
 (True) ∧
 OP (iBin .quo x9 x11) fun x12 =>
 CallP P 32 [length1] h_2 fun x14 h_3 =>
 (True) ∧
 OP (iBin .mul x12 x14) fun x15 =>
 K x15 h_3
theorem e31 (at0 length1 : Value) (h : Heap) : iwpP P c31 (bodyP [.tmp 4] K) (frame0 [at0, length1]) h = T31 P K at0 length1 h := by kernel_rfl
theorem f31 {K : VK} {at0 length1 : Value} {h : Heap} (H : T31 Tryd.prog K at0 length1 h) : CallP Tryd.prog 31 [at0, length1] h K :=
 callP_intro k31 (Nat.le_of_ble_eq_true rfl) ((e31 Tryd.prog K at0 length1 h).mpr H)
/-! F32: pommel/pommelref08.part -/
noncomputable def c32 : ICode := .seq (.ops none [⟨(some 2), .p (.mv (.const (.int .i64 (0))))⟩])
 (.seq (.ops none [⟨(some 3), .p (.mv (.tmp 0))⟩,
 ⟨(some 4), .p (.bin .shr (.const (.int .i64 (1024))) (.tmp 3))⟩,
 ⟨(some 2), .p (.mv (.tmp 4))⟩])
 (.ret))
theorem k32 : compFn Tryd.prog 32 [[], []] = some (5, c32, [.tmp 2]) := by kernel_rfl
def T32 (P : Program) (K : VK) (length0 : Value) (h : Heap) : Prop :=
 OP (iBin .shr (.int .i64 (1024)) length0) fun x4 =>
 K x4 h
theorem e32 (length0 : Value) (h : Heap) : iwpP P c32 (bodyP [.tmp 2] K) (frame0 [length0]) h = T32 P K length0 h := by kernel_rfl
theorem f32 {K : VK} {length0 : Value} {h : Heap} (H : T32 Tryd.prog K length0 h) : CallP Tryd.prog 32 [length0] h K :=
 callP_intro k32 (Nat.le_of_ble_eq_true rfl) ((e32 Tryd.prog K length0 h).mpr H)
/-! F33: pommel/pommelref01.Before -/
noncomputable def c33z11 : ICode := .ops none [⟨(some 15), .p (.pick (.tmp 10) (.tmp 14) (.const (.bool false)))⟩]
noncomputable def c33z9 : ICode := .seq (.ops (some (10, true)) [⟨(some 11), .p (.mv (.tmp 5))⟩,
 ⟨(some 12), .p (.mv (.tmp 1))⟩,
 ⟨(some 13), .p (.lenSl (.tmp 12))⟩,
 ⟨(some 14), .p (.bin .lss (.tmp 11) (.tmp 13))⟩])
 (.cut [0, 1, 5, 10, 14] c33z11)
noncomputable def c33z7 : ICode := .cond (.tmp 15) (.skip)
 (.exit 0)
noncomputable def c33z6 : ICode := .seq (.block 1 (.seq (.dops [(none, [⟨(some 18), .p (.mv (.tmp 0)), 0⟩,
 ⟨(some 19), .p (.mv (.tmp 5)), 0⟩,
 ⟨(some 20), .p (.adrSl 1 (.tmp 18) (.tmp 19)), 3⟩,
 ⟨(some 21), .l (.load false 1 (.tmp 20)), 7⟩,
 ⟨(some 22), .p (.mv (.tmp 1)), 0⟩,
 ⟨(some 23), .p (.mv (.tmp 5)), 0⟩,
 ⟨(some 24), .p (.adrSl 1 (.tmp 22) (.tmp 23)), 48⟩,
 ⟨(some 25), .l (.load false 1 (.tmp 24)), 112⟩,
 ⟨(some 26), .p (.bin .neq (.tmp 21) (.tmp 25)), 255⟩])])
 (.cond (.tmp 26) (.seq (.dops [(none, [⟨(some 27), .p (.mv (.tmp 0)), 0⟩,
 ⟨(some 28), .p (.mv (.tmp 5)), 0⟩,
 ⟨(some 29), .p (.adrSl 1 (.tmp 27) (.tmp 28)), 3⟩,
 ⟨(some 30), .l (.load false 1 (.tmp 29)), 7⟩,
 ⟨(some 31), .p (.mv (.tmp 1)), 0⟩,
 ⟨(some 32), .p (.mv (.tmp 5)), 0⟩,
 ⟨(some 33), .p (.adrSl 1 (.tmp 31) (.tmp 32)), 48⟩,
 ⟨(some 34), .l (.load false 1 (.tmp 33)), 112⟩,
 ⟨(some 35), .p (.bin .lss (.tmp 30) (.tmp 34)), 255⟩,
 ⟨(some 4), .p (.mv (.tmp 35)), 511⟩])])
 (.ret))
 (.skip))))
 (.ops none [⟨(some 16), .p (.mv (.tmp 5))⟩,
 ⟨(some 17), .p (.bin .add (.tmp 16) (.const (.int .i64 (1))))⟩,
 ⟨(some 5), .p (.mv (.tmp 17))⟩])
noncomputable def c33z5 : ICode := .seq (.seq (.seq (.ops none [⟨(some 6), .p (.mv (.tmp 5))⟩,
 ⟨(some 7), .p (.mv (.tmp 0))⟩,
 ⟨(some 8), .p (.lenSl (.tmp 7))⟩,
 ⟨(some 9), .p (.bin .lss (.tmp 6) (.tmp 8))⟩,
 ⟨(some 10), .p (.mv (.tmp 9))⟩])
 (.cut [0, 1, 5, 10] c33z9)) c33z7) c33z6
noncomputable def c33z16 : ICode := .seq (.ops none [⟨(some 36), .p (.mv (.tmp 0))⟩,
 ⟨(some 37), .p (.lenSl (.tmp 36))⟩,
 ⟨(some 38), .p (.mv (.tmp 1))⟩,
 ⟨(some 39), .p (.lenSl (.tmp 38))⟩,
 ⟨(some 40), .p (.bin .lss (.tmp 37) (.tmp 39))⟩,
 ⟨(some 4), .p (.mv (.tmp 40))⟩])
 (.ret)
noncomputable def c33z2 : ICode := .cut [0, 1] c33z16
noncomputable def c33 : ICode := .seq (.ops none [⟨(some 4), .p (.mv (.const (.bool false)))⟩])
 (.seq (.seq (.ops none [⟨(some 5), .p (.mv (.const (.int .i64 (0))))⟩])
 (.block 0 (.loop [0, 1] [5] c33z5))) c33z2)
theorem k33 : compFn Tryd.prog 33 [[], [], [0, 1], [5], [0, 1, 5, 10], [0, 1, 5, 10, 14], [], [], [], [], [], [0, 1], []] = some (41, c33, [.tmp 4]) := by kernel_rfl
def K33z0 (_P : Program) (K : VK) : Kont := bodyP [.tmp 4] K
def K33z2 : Kont := thenK (iwpP P c33z2 (K33z0 P K)) (K33z0 P K)
def K33z4 : Kont := inBlockK 0 (K33z2 P K)
def K33z5 (a0 b1 : Value) (L1 : LK) : Kont := thenK (fun f' h'' => (([0, 1] : List Nat).map f' : List Value) = [a0, b1] ∧ L1 (([5] : List Nat).map f') h'') (K33z4 P K)
def K33z6 (a0 b1 : Value) (L1 : LK) : Kont := thenK (iwpP P c33z6 (K33z5 P K a0 b1 L1)) (K33z5 P K a0 b1 L1)
def K33z7 (a0 b1 : Value) (L1 : LK) : Kont := thenK (iwpP P c33z7 (K33z6 P K a0 b1 L1)) (K33z6 P K a0 b1 L1)
def p33z5 (a0 b1 : Value) (L1 : LK) (xs : List Value) (h : Heap) : Prop := CutP (iwpP P c33z5 (K33z5 P K a0 b1 L1)) ([0, 1] ++ [5]) ([a0, b1] ++ xs) h
def p33z9 (a0 b1 i5 x10 : Value) (L1 : LK) (h : Heap) : Prop := CutP (iwpP P c33z9 (K33z7 P K a0 b1 L1)) [0, 1, 5, 10] [a0, b1, i5, x10] h
def p33z11 (a0 b1 i5 x10 x14 : Value) (L1 : LK) (h : Heap) : Prop := CutP (iwpP P c33z11 (K33z7 P K a0 b1 L1)) [0, 1, 5, 10, 14] [a0, b1, i5, x10, x14] h
def p33z16 (a0 b1 : Value) (h : Heap) : Prop := CutP (iwpP P c33z16 (K33z0 P K)) [0, 1] [a0, b1] h
theorem q33z11 (a0 b1 i5 x10 x14 : Value) (L1 : LK) (h : Heap) : p33z11 P K a0 b1 i5 x10 x14 L1 h =
 (OP (iPick x10 x14 (.bool false)) fun x15 =>
 IfP x15
 (OP (iAdrSl 1 a0 i5) fun x20 =>
 OP (iLoad false 1 h x20) fun x21 =>
 (True) ∧
 OP (iAdrSl 1 b1 i5) fun x24 =>
 OP (iLoad false 1 h x24) fun x25 =>
 (True) ∧
 OP (iBin .neq x21 x25) fun x26 =>
 IfP x26
 (OP (iAdrSl 1 a0 i5) fun x29 =>
 OP (iLoad false 1 h x29) fun x30 =>
 (True) ∧
 OP (iAdrSl 1 b1 i5) fun x33 =>
 OP (iLoad false 1 h x33) fun x34 =>
 (True) ∧
 OP (iBin .lss x30 x34) fun x35 =>
 K x35 h)
 (OP (iBin .add i5 (.int .i64 (1))) fun x17 =>
 ([a0, b1] : List Value) = [a0, b1] ∧ L1 [x17] h))
 (p33z16 P K a0 b1 h)) := (CutP_def _ _ _ _).trans (by kernel_rfl)
theorem q33z9 (a0 b1 i5 x10 : Value) (L1 : LK) (h : Heap) : p33z9 P K a0 b1 i5 x10 L1 h =
 (GdP x10 true
 (OP (iLenSl b1) fun x13 =>
 OP (iBin .lss i5 x13) fun x14 =>
 p33z11 P K a0 b1 i5 x10 x14 L1 h)
 (p33z11 P K a0 b1 i5 x10 undef L1 h)) := (CutP_def _ _ _ _).trans (by kernel_rfl)
theorem q33z5 (a0 b1 : Value) (L1 : LK) (i5 : Value) (h : Heap) : p33z5 P K a0 b1 L1 [i5] h =
 (OP (iLenSl a0) fun x8 =>
 OP (iBin .lss i5 x8) fun x9 =>
 p33z9 P K a0 b1 i5 x9 L1 h) := (CutP_def _ _ _ _).trans (by kernel_rfl)
theorem q33z16 (a0 b1 : Value) (h : Heap) : p33z16 P K a0 b1 h =
 (OP (iLenSl a0) fun x37 =>
 OP (iLenSl b1) fun x39 =>
 OP (iBin .lss x37 x39) fun x40 =>
 K x40 h) := (CutP_def _ _ _ _).trans (by kernel_rfl)
def T33 (a0 b1 : Value) (h : Heap) : Prop :=
 LoopP [(.int .i64 (0))] h fun L1 xs hx =>
 p33z5 P K a0 b1 L1 xs hx
theorem e33 (a0 b1 : Value) (h : Heap) : iwpP P c33 (bodyP [.tmp 4] K) (frame0 [a0, b1]) h = T33 P K a0 b1 h := by kernel_rfl
theorem f33 {K : VK} {a0 b1 : Value} {h : Heap} (H : T33 Tryd.prog K a0 b1 h) : CallP Tryd.prog 33 [a0, b1] h K :=
 callP_intro k33 (Nat.le_of_ble_eq_true rfl) ((e33 Tryd.prog K a0 b1 h).mpr H)
end Go.Proofs.YthplaillblmgfaaDoor

namespace Go.Proofs.YthplaillblmgfaaDoor
open Go.Sim

theorem C32 {l : Nat} {h : Heap} {K : Value → Heap → Prop} (h1 : 1 ≤ l) (h2 : l ≤ 10) (hk : K (I (rmN l : Nat)) h) : CallP Tryd.prog 32 [I l] h K := by
  refine f32 ?_
  have e : iBin .shr (.int .i64 1024) (I l) = some (I (rmN l : Nat)) := by
    have : l = 1 ∨ l = 2 ∨ l = 3 ∨ l = 4 ∨ l = 5 ∨ l = 6 ∨ l = 7 ∨ l = 8 ∨ l = 9 ∨ l = 10 := by omega
    rcases this with rfl | rfl | rfl | rfl | rfl | rfl | rfl | rfl | rfl | rfl <;> rfl
  simp only [T32, e, OP_some]
  exact hk

theorem C31 {at_ l : Nat} {h : Heap} {K : Value → Heap → Prop} (ha : at_ ≤ 1024) (h1 : 1 ≤ l) (h2 : l ≤ 10) (hk : K (I (fitN at_ l : Nat)) h) : CallP Tryd.prog 31 [I at_, I l] h K := by
  refine f31 (C32 h1 h2 ?_)
  obtain ⟨hp, hq⟩ := rmN_pos h1 h2
  have hf := fitN_le (at_ := at_) h1 h2
  have w1 : IntKind.wrap .i64 ((at_ : Int) + (rmN l : Nat)) = ((at_ + rmN l : Nat) : Int) := by rw [wrap64 (by omega) (by omega)]; omega
  have w2 : IntKind.wrap .i64 (((at_ + rmN l : Nat) : Int) - 1) = ((at_ + rmN l - 1 : Nat) : Int) := by rw [wrap64 (by omega) (by omega)]; omega
  have w3 : IntKind.wrap .i64 ((((at_ + rmN l - 1) / rmN l : Nat) : Int) * (rmN l : Nat)) = ((fitN at_ l : Nat) : Int) := by
    rw [← Int.natCast_mul]
    show IntKind.wrap .i64 ((fitN at_ l : Nat) : Int) = _
    exact wrap64 (by omega) (by omega)
  simp only [bin_add, bin_sub, OP_some, w1, w2, true_and]
  refine C32 h1 h2 ?_
  simp only [quoN _ _ (show rmN l ≠ 0 by omega) (show at_ + rmN l - 1 < 1000000 by omega), OP_some, true_and]
  refine C32 h1 h2 ?_
  simp only [bin_mul, OP_some, w3, true_and]
  exact hk

abbrev never : Int := 1099511627776

theorem C30 {r : Bool} {w : Int} {a l b : Nat} {nx : Nat → Option Int} {h : Heap} {K : Value → Heap → Prop} (hb : h[b]? = some (.arr 3 (rowF fun k => encT never (nx k)))) (hw : 0 ≤ w ∧ w ≤ 1000) (hnx : ∀ k u, nx k = some u → 0 ≤ u ∧ u ≤ 200000) (ha : a ≤ 1024) (h1 : 1 ≤ l) (h2 : l ≤ 10)
    (hk : K (I (encT never (stp r nx w a l))) h) : CallP Tryd.prog 30 [sl 3 b 0 1025, I w, I a, I l, B r, I never] h K := by
  refine f30 ?_
  obtain ⟨hp, hq⟩ := rmN_pos h1 h2
  have hf := fitN_le (at_ := a) h1 h2
  have fin : ∀ x : Nat, x ≤ 2000 → aft r a l = x + rmN l → p30z4 Tryd.prog K (sl 3 b 0 1025) (I w) (I x) (I l) (I never) h := by
    intro x hx he
    have wx : IntKind.wrap .i64 ((x : Int) + (rmN l : Nat)) = ((aft r a l : Nat) : Int) := by rw [wrap64 (by omega) (by omega), he]; omega
    rw [q30z4]
    refine C32 h1 h2 ?_
    simp only [bin_add, OP_some, wx, bin_gtr]
    rw [q30z8]
    by_cases hto : aft r a l ≤ 1024
    · simp only [decide_eq_false (show ¬ (1024 : Int) < (aft r a l : Nat) by omega), GdP_ff]
      refine C32 h1 h2 ?_
      have ld : iLoad false 1 h (pt b (aft r a l)) = some (I (encT never (nx (aft r a l)))) := by simp [iLoad, objCells, hb, iPart, rowF_get _ (show aft r a l < 1025 by omega)]
      simp only [bin_add, OP_some, wx, adr_sl (show aft r a l < 1025 by omega), ld, bin_eql]
      rw [q30z10]
      rw [stp_eq hto] at hk
      cases hq2 : nx (aft r a l) with
      | none =>
        rw [hq2] at hk
        simp only [encT, Option.getD_none, decide_true, iPick_f, OP_some, IfP_true]
        exact hk
      | some u =>
        have hu := hnx _ u hq2
        rw [hq2] at hk
        rw [hq2] at ld
        have ms := mul_small hw.1 hw.2 h2
        have wm : IntKind.wrap .i64 (w * (l : Int)) = w * (l : Int) := wrap64 (by omega) (by omega)
        have hne : decide (encT never (some u) = never) = false := decide_eq_false (by show ¬ u = 1099511627776; omega)
        rw [hne]
        simp only [iPick_f, OP_some, IfP_false, bin_mul, wm]
        refine C32 h1 h2 ?_
        have wa : IntKind.wrap .i64 (w * (l : Int) + u) = w * (l : Int) + u := wrap64 (by omega) (by omega)
        have ld' : iLoad false 1 h (pt b (aft r a l)) = some (I u) := ld
        simp only [bin_add, OP_some, wx, adr_sl (show aft r a l < 1025 by omega), ld', wa]
        exact hk
    · simp only [decide_eq_true (show (1024 : Int) < (aft r a l : Nat) by omega), GdP_tf]
      rw [q30z10]
      rw [stp_no hto] at hk
      simp only [iPick_t, OP_some, IfP_true]
      exact hk
  cases r with
  | true =>
    simp only [T30, IfP_true]
    exact C31 ha h1 h2 (fin _ (by omega) (by simp [aft]))
  | false =>
    simp only [T30, IfP_false]
    exact fin _ (by omega) (by simp [aft])

theorem C28 {v lo hi : Int} {h : Heap} {K : Value → Heap → Prop} (hk : K (B (decide (lo ≤ v) && decide (v ≤ hi))) h) : CallP Tryd.prog 28 [I v, I lo, I hi] h K := by
  refine f28 ?_
  simp only [T28, bin_geq, OP_some]
  rw [q28z4]
  by_cases h1 : lo ≤ v
  · simp only [decide_eq_true h1, GdP_tt, bin_leq, OP_some]
    rw [q28z6]
    simp only [iPick_t, OP_some]
    rw [decide_eq_true h1] at hk
    simpa using hk
  · simp only [decide_eq_false h1, GdP_ft]
    rw [q28z6]
    simp only [iPick_f, OP_some]
    rw [decide_eq_false h1] at hk
    simpa using hk

end Go.Proofs.YthplaillblmgfaaDoor


namespace Go.Proofs.YthplaillblmgfaaDoor
open Go.Sim

/-- The lengths are read off the table. -/
theorem out14 {r : Bool} {v : Value} {ws : List Int} {il : Nat} {g : Heap} {cs : List Value} {K : Value → Heap → Prop} (hv : NS g v .i64 ws) (hc : okW ws) (hn : ws.length ≤ 12) (t : Tb g il r ws never 0 cs)
    {c : Int} (hlc : lc r ws 0 = some c) (hk : ∀ u h', EX g h' → NS h' u .i64 ((chL r ws 0).map fun l : Nat => (l : Int)) → K (.tuple #[u, I c]) h') :
    p14z33 Tryd.prog K v (B r) (sl 22 il 0 (ws.length + 1)) g := by
  rw [q14z33]
  have mk : iMkSl 3 0 [(.int .i64 (0))] g [] = some (sl 3 g.length 0 0, g ++ [.arr 3 []]) := rfl
  simp only [mk, OH_some]
  refine loopL (σ := Nat × Nat × Value × List Nat × Heap) (fun q => [q.2.2.1, I q.2.1, I q.1]) (fun q => q.2.2.2.2)
    (fun q => q.1 ≤ ws.length ∧ q.2.1 ≤ 1024 ∧ (∃ u, lc r (ws.drop q.1) q.2.1 = some u) ∧ q.2.2.2.1 ++ chL r (ws.drop q.1) q.2.1 = chL r ws 0 ∧ EX g q.2.2.2.2 ∧ OwnS g.length q.2.2.2.2 3 q.2.2.1 (q.2.2.2.1.map fun l : Nat => I l) ∧ q.2.2.2.1.length = q.1) (fun q => ws.length - q.1)
    (0, 0, sl 3 g.length 0 0, [], g ++ [.arr 3 []]) rfl rfl ⟨Nat.zero_le _, Nat.zero_le _, ⟨c, by simpa using hlc⟩, by simp, EX.append _ _, .inr ⟨g.length, Nat.le_refl _, rfl, get_last⟩, rfl⟩ ?_
  rintro ⟨i, a, vo, pre, g1⟩ ⟨hi, ha, ⟨u, hu⟩, hpre, x1, own, hpl⟩ L1 hL1
  simp only at hi ha hu hpre x1 own hpl hL1 ⊢
  have t1 := t.ex x1
  have hv1 := hv.mono x1
  rw [q14z38]
  simp only [hv1.len, bin_lss, OP_some, IfP_dec]
  refine ⟨fun hlt => ?_, fun hge => ?_⟩
  · have hil : i < ws.length := by omega
    obtain ⟨wb, wo, w1, w2⟩ := hv1.get i hil
    have hw := hc _ (List.getElem_mem hil)
    have hdrop : ws.drop i = ws[i] :: ws.drop (i + 1) := List.drop_eq_getElem_cons hil
    have hcd1 : okW (ws.drop (i + 1)) := fun x hx => hc x (List.mem_of_mem_drop hx)
    have hub := lc_bound (fun x hx => hc x (List.mem_of_mem_drop hx)) hu
    rw [List.length_drop] at hub
    rw [hdrop] at hu hpre
    have lb : ∀ k u, lc r (ws.drop (i + 1)) k = some u → 0 ≤ u ∧ u ≤ 200000 := fun k u hu => by have := lc_bound hcd1 hu; rw [List.length_drop] at this; omega
    obtain ⟨j, u', hj, hj1, hj2, hj3, hj4, hj5, hj6⟩ := ch_step hu
    refine loopL (σ := Nat) (fun l => [vo, I a, I l]) (fun _ => g1) (fun l => (1 ≤ l ∧ l ≤ 10) ∧ fstL r (lc r (ws.drop (i + 1))) ws[i] a (some u) (11 - l) l = some j) (fun l => 11 - l) 1 rfl rfl ⟨⟨by decide, by decide⟩, hj⟩ ?_
    rintro l ⟨⟨hl1, hl10⟩, hf⟩ L2 hL2
    obtain ⟨hyes, hno⟩ := fst_step hl10 hf
    obtain ⟨b0, a1, a2, a3, a4⟩ := t1.load (j := i) (a := a) (Nat.zero_le _) (by omega) ha
    obtain ⟨b1, c1, c2, c3⟩ := t1.row (i + 1) (Nat.zero_le _) (by omega)
    have ad1 : iAdrSl 1 (sl 22 il 0 (ws.length + 1)) (I (i + 1 : Nat)) = some (pt il (i + 1)) := adr_sl (by omega)
    have ld1 : iLoad false 1 g1 (pt il (i + 1)) = some (sl 3 b1 0 1025) := by simp [iLoad, objCells, t1.here, iPart, c1]
    rw [hdrop, hu] at a4
    rw [q14z45]
    simp only [bin_leq, OP_some, decide_eq_true (show (l : Int) ≤ 10 by omega), IfP_true, bin_add, inc i (by omega), ad1, ld1, true_and, w1, w2]
    refine C30 c3 hw lb ha hl1 hl10 ?_
    simp only [a1, a2, a3, a4, OP_some, true_and, bin_eql]
    have hiff : encT never (stp r (lc r (ws.drop (i + 1))) ws[i] a l) = encT never (some u) ↔ stp r (lc r (ws.drop (i + 1))) ws[i] a l = some u := by
      refine ⟨fun h => ?_, fun h => by rw [h]⟩
      cases hq : stp r (lc r (ws.drop (i + 1))) ws[i] a l with
      | none => rw [hq] at h; have nv : never = 1099511627776 := rfl; simp only [encT, Option.getD_none, Option.getD_some] at h; omega
      | some z => rw [hq] at h; simp only [encT, Option.getD_some] at h; rw [h]
    by_cases hfound : encT never (stp r (lc r (ws.drop (i + 1))) ws[i] a l) = encT never (some u)
    · obtain rfl := hyes (hiff.1 hfound)
      rw [decide_eq_true hfound]
      simp only [IfP_true]
      refine app1 own x1 (by simp; omega) (by simp [maxLen]; omega) rfl rfl ?_
      intro v' g2 x2 own'
      have fin : ∀ x : Nat, x ≤ 2000 → aft r a j = x + rmN j → p14z54 Tryd.prog K v (B r) (sl 22 il 0 (ws.length + 1)) v' (I x) (I i) (I j) L1 L2 g2 := by
        intro x hx he
        obtain ⟨hp, hq⟩ := rmN_pos hl1 hl10
        have wx : IntKind.wrap .i64 ((x : Int) + (rmN j : Nat)) = ((aft r a j : Nat) : Int) := by rw [wrap64 (by omega) (by omega), he]; omega
        rw [q14z54]
        refine C32 hl1 hl10 ?_
        simp only [bin_add, OP_some, wx]
        rw [q14z56]
        simp only [bin_add, OP_some, inc i (by omega), true_and]
        refine hL1 (i + 1, aft r a j, v', pre ++ [j], g2) ⟨by show i + 1 ≤ _; omega, hj3, ⟨u', hj4⟩, ?_, x2, by simpa using own', by simp [hpl]⟩ (by show ws.length - (i + 1) < ws.length - i; omega)
        show (pre ++ [j]) ++ chL r (ws.drop (i + 1)) (aft r a j) = _
        rw [hj6] at hpre
        rw [← hpre]; simp
      have hf := fitN_le (at_ := a) hl1 hl10
      have hq := rmN_pos hl1 hl10
      cases r with
      | true => simp only [IfP_true]; exact C31 ha hl1 hl10 (fin _ (by omega) (by simp [aft]))
      | false => simp only [IfP_false]; exact fin _ (by omega) (by simp [aft])
    · rw [decide_eq_false hfound]
      obtain ⟨q1, q2⟩ := hno fun h => hfound (hiff.2 h)
      simp only [IfP_false, bin_add, OP_some, inc l (by omega), true_and]
      exact hL2 (l + 1) ⟨⟨by omega, by omega⟩, q2⟩ (by omega)
  · have : i = ws.length := by omega
    subst this
    obtain ⟨b0, a1, a2, a3, a4⟩ := t1.load (j := 0) (a := 0) (Nat.le_refl _) (by omega) (by decide)
    rw [List.drop_zero, hlc] at a4
    have a1' : iAdrSl 1 (sl 22 il 0 (ws.length + 1)) (.int .i64 (0)) = some (pt il 0) := a1
    have a3' : iAdrSl 1 (sl 3 b0 0 1025) (.int .i64 (0)) = some (pt b0 0) := a3
    rw [q14z57]
    simp only [a1', a2, a3', a4, OP_some, true_and]
    rw [List.drop_length] at hpre
    have hpre' : pre = chL r ws 0 := by rw [← hpre]; simp [chL]
    refine hk vo g1 x1 ?_
    have hl := chL_len hlc
    rw [← hpre'] at hl ⊢
    rcases own with ⟨rfl, e2⟩ | ⟨b, _, rfl, e3⟩
    · have : pre = [] := by simpa using e2
      subst this
      exact NS.nil _ _
    · have := NS.arr (k := .i64) (e := 3) (ns := pre.map fun l : Nat => (l : Int)) (h := g1) (i := b) (by rw [e3, List.map_map]; rfl) (by simp [maxLen]; omega)
      simpa using this

end Go.Proofs.YthplaillblmgfaaDoor


namespace Go.Proofs.YthplaillblmgfaaDoor
open Go.Sim
variable (P : Program) (K : VK)
/-! F3: pommel/pommellaw08.MarkWeights -/
noncomputable def c3z28 : ICode := .ops none [⟨(some 59), .p (.pick (.tmp 57) (.tmp 58) (.const (.bool false)))⟩,
 ⟨(some 2), .p (.mv (.tmp 59))⟩]
noncomputable def c3z26 : ICode := .seq (.ops (some (57, true)) [⟨(some 58), .call 13 []⟩])
 (.cut [57, 58] c3z28)
noncomputable def c3z24 : ICode := .seq (.ops none [⟨(some 56), .p (.pick (.tmp 52) (.tmp 55) (.const (.bool false)))⟩,
 ⟨(some 57), .p (.mv (.tmp 56))⟩])
 (.cut [57] c3z26)
noncomputable def c3z22 : ICode := .seq (.ops (some (52, true)) [⟨(some 53), .p (.mv (.tmp 9))⟩,
 ⟨(some 54), .p (.mv (.tmp 10))⟩,
 ⟨(some 55), .p (.bin .eql (.tmp 53) (.tmp 54))⟩])
 (.cut [52, 55] c3z24)
noncomputable def c3z20 : ICode := .seq (.ops none [⟨(some 51), .p (.pick (.tmp 47) (.tmp 50) (.const (.bool false)))⟩,
 ⟨(some 52), .p (.mv (.tmp 51))⟩])
 (.cut [9, 10, 52] c3z22)
noncomputable def c3z18 : ICode := .seq (.ops (some (47, true)) [⟨(some 48), .p (.mv (.tmp 6))⟩,
 ⟨(some 49), .p (.mv (.tmp 10))⟩,
 ⟨(some 50), .p (.bin .eql (.tmp 48) (.tmp 49))⟩])
 (.cut [9, 10, 47, 50] c3z20)
noncomputable def c3z16 : ICode := .seq (.ops none [⟨(some 46), .p (.pick (.tmp 43) (.tmp 45) (.const (.bool false)))⟩,
 ⟨(some 47), .p (.mv (.tmp 46))⟩])
 (.cut [6, 9, 10, 47] c3z18)
noncomputable def c3z14 : ICode := .seq (.ops (some (43, true)) [⟨(some 44), .p (.mv (.tmp 8))⟩,
 ⟨(some 45), .p (.bin .eql (.tmp 44) (.const (.int .i64 (0))))⟩])
 (.cut [6, 9, 10, 43, 45] c3z16)
noncomputable def c3z12 : ICode := .seq (.ops none [⟨(some 42), .p (.pick (.tmp 39) (.tmp 41) (.const (.bool false)))⟩,
 ⟨(some 43), .p (.mv (.tmp 42))⟩])
 (.cut [6, 8, 9, 10, 43] c3z14)
noncomputable def c3z10 : ICode := .seq (.ops (some (39, true)) [⟨(some 40), .p (.mv (.tmp 5))⟩,
 ⟨(some 41), .p (.bin .eql (.tmp 40) (.const (.int .i64 (0))))⟩])
 (.cut [6, 8, 9, 10, 39, 41] c3z12)
noncomputable def c3z8 : ICode := .ret
noncomputable def c3z55 : ICode := .ops none [⟨(some 98), .p (.pick (.tmp 96) (.tmp 97) (.const (.bool false)))⟩,
 ⟨(some 2), .p (.mv (.tmp 98))⟩]
noncomputable def c3z53 : ICode := .seq (.ops (some (96, true)) [⟨(some 97), .call 13 []⟩])
 (.cut [96, 97] c3z55)
noncomputable def c3z51 : ICode := .seq (.ops none [⟨(some 95), .p (.pick (.tmp 92) (.tmp 94) (.const (.bool false)))⟩,
 ⟨(some 96), .p (.mv (.tmp 95))⟩])
 (.cut [96] c3z53)
noncomputable def c3z49 : ICode := .seq (.ops (some (92, true)) [⟨(some 93), .p (.mv (.tmp 9))⟩,
 ⟨(some 94), .p (.bin .eql (.tmp 93) (.const (.int .i64 (0))))⟩])
 (.cut [92, 94] c3z51)
noncomputable def c3z47 : ICode := .seq (.ops none [⟨(some 91), .p (.pick (.tmp 87) (.tmp 90) (.const (.bool false)))⟩,
 ⟨(some 92), .p (.mv (.tmp 91))⟩])
 (.cut [9, 92] c3z49)
noncomputable def c3z45 : ICode := .seq (.ops (some (87, true)) [⟨(some 88), .p (.mv (.tmp 8))⟩,
 ⟨(some 89), .p (.mv (.tmp 14))⟩,
 ⟨(some 90), .p (.bin .eql (.tmp 88) (.tmp 89))⟩])
 (.cut [9, 87, 90] c3z47)
noncomputable def c3z43 : ICode := .seq (.ops none [⟨(some 86), .p (.pick (.tmp 82) (.tmp 85) (.const (.bool false)))⟩,
 ⟨(some 87), .p (.mv (.tmp 86))⟩])
 (.cut [8, 9, 14, 87] c3z45)
noncomputable def c3z41 : ICode := .seq (.ops (some (82, true)) [⟨(some 83), .p (.mv (.tmp 7))⟩,
 ⟨(some 84), .p (.mv (.tmp 13))⟩,
 ⟨(some 85), .call 15 [(.tmp 83), (.tmp 84)]⟩])
 (.cut [8, 9, 14, 82, 85] c3z43)
noncomputable def c3z39 : ICode := .seq (.ops none [⟨(some 81), .p (.pick (.tmp 78) (.tmp 80) (.const (.bool false)))⟩,
 ⟨(some 82), .p (.mv (.tmp 81))⟩])
 (.cut [7, 8, 9, 13, 14, 82] c3z41)
noncomputable def c3z37 : ICode := .seq (.ops (some (78, true)) [⟨(some 79), .p (.mv (.tmp 6))⟩,
 ⟨(some 80), .p (.bin .eql (.tmp 79) (.const (.int .i64 (0))))⟩])
 (.cut [7, 8, 9, 13, 14, 78, 80] c3z39)
noncomputable def c3z35 : ICode := .seq (.ops none [⟨(some 77), .p (.pick (.tmp 73) (.tmp 76) (.const (.bool false)))⟩,
 ⟨(some 78), .p (.mv (.tmp 77))⟩])
 (.cut [6, 7, 8, 9, 13, 14, 78] c3z37)
noncomputable def c3z33 : ICode := .seq (.ops (some (73, true)) [⟨(some 74), .p (.mv (.tmp 5))⟩,
 ⟨(some 75), .p (.mv (.tmp 12))⟩,
 ⟨(some 76), .p (.bin .eql (.tmp 74) (.tmp 75))⟩])
 (.cut [6, 7, 8, 9, 13, 14, 73, 76] c3z35)
noncomputable def c3z31 : ICode := .ret
noncomputable def c3z5 : ICode := .seq (.ops none [⟨(some 61), .p (.mv (.tmp 3))⟩,
 ⟨(some 62), .call 14 [(.tmp 61), (.const (.bool false))]⟩,
 ⟨(some 60), .p (.mv (.tmp 62))⟩,
 ⟨(some 63), .p (.ext (.tmp 60) 0)⟩,
 ⟨(some 64), .p (.ext (.tmp 60) 1)⟩,
 ⟨(some 11), .p (.mv (.tmp 63))⟩,
 ⟨(some 12), .p (.mv (.tmp 64))⟩])
 (.seq (.ops none [⟨(some 66), .p (.mv (.tmp 3))⟩,
 ⟨(some 67), .call 14 [(.tmp 66), (.const (.bool true))]⟩,
 ⟨(some 65), .p (.mv (.tmp 67))⟩,
 ⟨(some 68), .p (.ext (.tmp 65) 0)⟩,
 ⟨(some 69), .p (.ext (.tmp 65) 1)⟩,
 ⟨(some 13), .p (.mv (.tmp 68))⟩,
 ⟨(some 14), .p (.mv (.tmp 69))⟩])
 (.seq (.seq (.ops none [⟨(some 70), .p (.mv (.tmp 4))⟩,
 ⟨(some 71), .p (.mv (.tmp 11))⟩,
 ⟨(some 72), .call 15 [(.tmp 70), (.tmp 71)]⟩,
 ⟨(some 73), .p (.mv (.tmp 72))⟩])
 (.cut [5, 6, 7, 8, 9, 12, 13, 14, 73] c3z33)) c3z31))
noncomputable def c3 : ICode := .seq (.ops none [⟨(some 2), .p (.mv (.const (.bool false)))⟩])
 (.seq (.ops none [⟨(some 15), .p (.mv (.tmp 0))⟩,
 ⟨(some 16), .call 9 [(.tmp 15)]⟩,
 ⟨(some 3), .p (.mv (.tmp 16))⟩])
 (.seq (.ops none [⟨(some 18), .p (.mv (.tmp 3))⟩,
 ⟨(some 19), .call 10 [(.tmp 18)]⟩,
 ⟨(some 17), .p (.mv (.tmp 19))⟩,
 ⟨(some 20), .p (.ext (.tmp 17) 0)⟩,
 ⟨(some 21), .p (.ext (.tmp 17) 1)⟩,
 ⟨(some 22), .p (.ext (.tmp 17) 2)⟩,
 ⟨(some 4), .p (.mv (.tmp 20))⟩,
 ⟨(some 5), .p (.mv (.tmp 21))⟩,
 ⟨(some 6), .p (.mv (.tmp 22))⟩])
 (.seq (.ops none [⟨(some 24), .p (.mv (.tmp 3))⟩,
 ⟨(some 25), .call 11 [(.tmp 24)]⟩,
 ⟨(some 23), .p (.mv (.tmp 25))⟩,
 ⟨(some 26), .p (.ext (.tmp 23) 0)⟩,
 ⟨(some 27), .p (.ext (.tmp 23) 1)⟩,
 ⟨(some 28), .p (.ext (.tmp 23) 2)⟩,
 ⟨(some 7), .p (.mv (.tmp 26))⟩,
 ⟨(some 8), .p (.mv (.tmp 27))⟩,
 ⟨(some 9), .p (.mv (.tmp 28))⟩])
 (.seq (.seq (.ops none [⟨(some 29), .p (.mv (.tmp 3))⟩,
 ⟨(some 30), .call 12 [(.tmp 29), (.const (.int .i64 (2))), (.const (.int .i64 (0))), (.const (.int .i64 (1000)))]⟩,
 ⟨(some 10), .p (.mv (.tmp 30))⟩])
 (.seq (.ops none [⟨(some 31), .p (.mv (.tmp 10))⟩,
 ⟨(some 32), .p (.bin .neq (.tmp 31) (.const (.int .i64 (0))))⟩])
 (.cond (.tmp 32) (.seq (.seq (.ops none [⟨(some 33), .p (.mv (.tmp 4))⟩,
 ⟨(some 34), .p (.lenSl (.tmp 33))⟩,
 ⟨(some 35), .p (.mv (.tmp 7))⟩,
 ⟨(some 36), .p (.lenSl (.tmp 35))⟩,
 ⟨(some 37), .p (.bin .add (.tmp 34) (.tmp 36))⟩,
 ⟨(some 38), .p (.bin .eql (.tmp 37) (.const (.int .i64 (0))))⟩,
 ⟨(some 39), .p (.mv (.tmp 38))⟩])
 (.cut [5, 6, 8, 9, 10, 39] c3z10)) c3z8)
 (.skip)))) c3z5))))
theorem k3 : compFn Tryd.prog 3 [[], [], [], [], [], [], [5, 6, 8, 9, 10, 39], [6, 8, 9, 10, 39, 41], [6, 8, 9, 10, 43], [6, 9, 10, 43, 45], [6, 9, 10, 47], [9, 10, 47, 50], [9, 10, 52], [52, 55], [57], [57, 58], [], [], [], [], [5, 6, 7, 8, 9, 12, 13, 14, 73], [6, 7, 8, 9, 13, 14, 73, 76], [6, 7, 8, 9, 13, 14, 78], [7, 8, 9, 13, 14, 78, 80], [7, 8, 9, 13, 14, 82], [8, 9, 14, 82, 85], [8, 9, 14, 87], [9, 87, 90], [9, 92], [92, 94], [96], [96, 97], []] = some (99, c3, [.tmp 2]) := by kernel_rfl
def K3z0 (_P : Program) (K : VK) : Kont := bodyP [.tmp 2] K
def K3z5 : Kont := thenK (iwpP P c3z5 (K3z0 P K)) (K3z0 P K)
def K3z8 : Kont := thenK (iwpP P c3z8 (K3z5 P K)) (K3z5 P K)
def K3z31 : Kont := thenK (iwpP P c3z31 (K3z0 P K)) (K3z0 P K)
def p3z10 (c5 e6 d8 f9 bad10 x39 : Value) (h : Heap) : Prop := CutP (iwpP P c3z10 (K3z8 P K)) [5, 6, 8, 9, 10, 39] [c5, e6, d8, f9, bad10, x39] h
def p3z33 (c5 e6 m7 d8 f9 cost12 also13 much14 x73 : Value) (h : Heap) : Prop := CutP (iwpP P c3z33 (K3z31 P K)) [5, 6, 7, 8, 9, 12, 13, 14, 73] [c5, e6, m7, d8, f9, cost12, also13, much14, x73] h
def T3 (x0 : Value) (h : Heap) : Prop :=
 CallP P 9 [x0] h fun x16 h_1 =>
 CallP P 10 [x16] h_1 fun x19 h_2 =>
 OP (iExt 0 x19) fun x20 =>
 OP (iExt 1 x19) fun x21 =>
 OP (iExt 2 x19) fun x22 =>
 CallP P 11 [x16] h_2 fun x25 h_3 =>
 OP (iExt 0 x25) fun x26 =>
 OP (iExt 1 x25) fun x27 =>
 OP (iExt 2 x25) fun x28 =>
 CallP P 12 [x16, (.int .i64 (2)), (.int .i64 (0)), (.int .i64 (1000))] h_3 fun x30 h_4 =>
 OP (iBin .neq x30 (.int .i64 (0))) fun x32 =>
 IfP x32
 (OP (iLenSl x20) fun x34 =>
 OP (iLenSl x26) fun x36 =>
 OP (iBin .add x34 x36) fun x37 =>
 OP (iBin .eql x37 (.int .i64 (0))) fun x38 =>
 p3z10 P K x21 x22 x27 x28 x30 x38 h_4)
 (CallP P 14 [x16, (.bool false)] h_4 fun x62 h_5 =>
 OP (iExt 0 x62) fun x63 =>
 OP (iExt 1 x62) fun x64 =>
 CallP P 14 [x16, (.bool true)] h_5 fun x67 h_6 =>
 OP (iExt 0 x67) fun x68 =>
 OP (iExt 1 x67) fun x69 =>
 CallP P 15 [x20, x63] h_6 fun x72 h_7 =>
 p3z33 P K x21 x22 x26 x27 x28 x64 x68 x69 x72 h_7)
theorem e3 (x0 : Value) (h : Heap) : iwpP P c3 (bodyP [.tmp 2] K) (frame0 [x0]) h = T3 P K x0 h := by kernel_rfl
theorem f3 {K : VK} {x0 : Value} {h : Heap} (H : T3 Tryd.prog K x0 h) : CallP Tryd.prog 3 [x0] h K :=
 callP_intro k3 (Nat.le_of_ble_eq_true rfl) ((e3 Tryd.prog K x0 h).mpr H)
/-! F9: pommel/pommellaw08.cut -/
noncomputable def c9 : ICode := .seq (.ops none [⟨(some 2), .p (.mv (.const (.slice none 0 0)))⟩])
 (.seq (.ops none [⟨(some 3), .e (.mkSl 3 0 [(.int .i64 (0))] [])⟩,
 ⟨(some 4), .p (.mv (.tmp 0))⟩,
 ⟨(some 5), .p (.mv (.tmp 0))⟩,
 ⟨(some 6), .p (.lenSl (.tmp 5))⟩,
 ⟨(some 7), .p (.minmax false [(.tmp 6), (.const (.int .i64 (13)))])⟩,
 ⟨(some 8), .p (.slSl 3 1 (.tmp 4) none (some (.tmp 7)))⟩,
 ⟨(some 9), .e (.app 3 1 8 (.tmp 3) (.tmp 8))⟩,
 ⟨(some 2), .p (.mv (.tmp 9))⟩])
 (.ret))
theorem k9 : compFn Tryd.prog 9 [[], []] = some (10, c9, [.tmp 2]) := by kernel_rfl
def T9 (P : Program) (K : VK) (l0 : Value) (h : Heap) : Prop :=
 OH (iMkSl 3 0 [(.int .i64 (0))] h []) fun x3 h_1 =>
 OP (iLenSl l0) fun x6 =>
 OP (iMinmax false [x6, (.int .i64 (13))]) fun x7 =>
 OP (iSlSl 3 1 l0 none (some x7)) fun x8 =>
 OH (iApp 3 1 8 h_1 x3 x8) fun x9 h_2 =>
 K x9 h_2
theorem e9 (l0 : Value) (h : Heap) : iwpP P c9 (bodyP [.tmp 2] K) (frame0 [l0]) h = T9 P K l0 h := by kernel_rfl
theorem f9 {K : VK} {l0 : Value} {h : Heap} (H : T9 Tryd.prog K l0 h) : CallP Tryd.prog 9 [l0] h K :=
 callP_intro k9 (Nat.le_of_ble_eq_true rfl) ((e9 Tryd.prog K l0 h).mpr H)
end Go.Proofs.YthplaillblmgfaaDoor

namespace Go.Proofs.YthplaillblmgfaaDoor
open Go.Sim

/-- A list is not before itself. -/
theorem C33 {va vb : Value} {l : List Int} {h : Heap} {K : Value → Heap → Prop} (ha : NS h va .i64 l) (hb : NS h vb .i64 l) (hl : l.length ≤ 1000) (hk : K (B false) h) : CallP Tryd.prog 33 [va, vb] h K := by
  refine f33 ?_
  unfold T33
  refine loopL (σ := Nat) (fun i => [I i]) (fun _ => h) (fun i => i ≤ l.length) (fun i => l.length - i) 0 rfl rfl (Nat.zero_le _) ?_
  intro i hi L hL
  rw [q33z5]
  simp only [ha.len, OP_some, bin_lss]
  rw [q33z9]
  by_cases hlt : i < l.length
  · rw [decide_eq_true (show (i : Int) < (l.length : Int) by omega)]
    simp only [GdP_tt, hb.len, OP_some, bin_lss]
    rw [decide_eq_true (show (i : Int) < (l.length : Int) by omega), q33z11]
    obtain ⟨b, o, g1, g2⟩ := ha.get i hlt
    obtain ⟨c, q, r1, r2⟩ := hb.get i hlt
    simp only [iPick_t, OP_some, IfP_true, g1, g2, r1, r2, true_and, bin_neq, decide_true, Bool.not_true, IfP_false, bin_add, inc i (by omega)]
    exact hL (i + 1) (by omega) (by omega)
  · rw [decide_eq_false (show ¬ (i : Int) < (l.length : Int) by omega)]
    simp only [GdP_ft]
    rw [q33z11]
    simp only [iPick_f, OP_some, IfP_false]
    rw [q33z16]
    simp only [ha.len, hb.len, OP_some, bin_lss]
    rw [decide_eq_false (by omega)]
    exact hk

theorem C15 {va vb : Value} {l : List Int} {h : Heap} {K : Value → Heap → Prop} (ha : NS h va .i64 l) (hb : NS h vb .i64 l) (hl : l.length ≤ 1000) (hk : K (B true) h) : CallP Tryd.prog 15 [va, vb] h K := by
  refine f15 (C33 ha hb hl ?_)
  simp only [un_not, OP_some, Bool.not_false, q15z4, GdP_tt]
  refine C33 hb ha hl ?_
  simp only [un_not, OP_some, Bool.not_false, q15z6, iPick_t]
  exact hk


end Go.Proofs.YthplaillblmgfaaDoor


namespace Go.Proofs.YthplaillblmgfaaDoor
open Go.Sim

/-- The numbers of a slice that is an array of its own. -/
def argIs (h : Heap) (v : Value) (xs : List Value) : Bool :=
  match v with
  | .slice (some ⟨i, 0, some 3⟩) n m => n == xs.length && m == xs.length && (match h[i]? with | some (.arr 3 ys) => veqL ys xs | _ => false)
  | _ => false

theorem argIs_ns {h : Heap} {v : Value} {ns : List Int} (hl : ns.length ≤ 1000) (ha : argIs h v (ns.map I) = true) : NS h v .i64 ns := by
  unfold argIs at ha
  split at ha
  · rename_i i n m
    rw [Bool.and_eq_true, Bool.and_eq_true] at ha
    obtain ⟨⟨h1, h2⟩, h3⟩ := ha
    simp at h1 h2
    subst h1 h2
    split at h3
    · rename_i ys hg
      have := veqL_eq h3
      subst this
      exact NS.arr hg (by simp [maxLen]; omega)
    · cases h3
  · cases ha

def strsOf : List Value → Option (List (List UInt8))
  | [] => some []
  | .string s :: r => (strsOf r).map (Go.Sim.bytes s :: ·)
  | _ :: _ => none

theorem strsOf_eq : ∀ {xs : List Value} {ls : List (List UInt8)}, strsOf xs = some ls → xs = ls.map S
  | [], ls, h => by simp [strsOf] at h; subst h; rfl
  | x :: xs, ls, h => by
    cases x <;> simp [strsOf] at h
    rename_i s
    obtain ⟨r, hr, rfl⟩ := h
    rw [strsOf_eq hr, List.map_cons, S_bytes]

/-- The entries of a map of texts. -/
def entsOf : Nat → List (Nat × Value × Value) → Option (List (List UInt8 × List UInt8))
  | _, [] => some []
  | i, (b, .string k, .string v) :: r => if b = i then (entsOf (i + 1) r).map ((Go.Sim.bytes k, Go.Sim.bytes v) :: ·) else none
  | _, _ :: _ => none

theorem entsOf_eq : ∀ {es : List (Nat × Value × Value)} {i : Nat} {l : List (List UInt8 × List UInt8)}, entsOf i es = some l → es = (l.zipIdx i).map fun p => (p.2, S p.1.1, S p.1.2)
  | [], i, l, h => by simp [entsOf] at h; subst h; rfl
  | (b, k, v) :: es, i, l, h => by
    cases k with
    | string k =>
      cases v with
      | string v =>
        simp only [entsOf] at h
        split at h
        · rename_i hb
          subst hb
          simp only [Option.map_eq_some_iff] at h
          obtain ⟨r, hr, rfl⟩ := h
          rw [entsOf_eq hr]
          simp [S_bytes]
        · cases h
      | _ => simp [entsOf] at h
    | _ => simp [entsOf] at h

/-- Insertion, as the kernel reckons it with ease. -/
def insS (x : List UInt8) : List (List UInt8) → List (List UInt8)
  | [] => [x]
  | y :: l => if Op.bytesLess y x then y :: insS x l else x :: y :: l
def isoS : List (List UInt8) → List (List UInt8)
  | [] => []
  | x :: l => insS x (isoS l)
def ordS : List (List UInt8) → Bool
  | [] => true
  | [_] => true
  | x :: y :: l => decide (x ≤ y) && ordS (y :: l)

theorem insS_perm (x : List UInt8) : ∀ l, (insS x l).Perm (x :: l)
  | [] => .refl _
  | y :: l => by
    simp only [insS]
    split
    · exact ((insS_perm x l).cons y).trans (.swap ..)
    · exact .refl _
theorem isoS_perm : ∀ l, (isoS l).Perm l
  | [] => .refl _
  | x :: l => (insS_perm x _).trans ((isoS_perm l).cons x)

theorem ordS_pair : ∀ {l : List (List UInt8)}, ordS l = true → l.Pairwise fun a b => a ≤ b
  | [], _ => .nil
  | [x], _ => by simp
  | x :: y :: l, h => by
    simp only [ordS, Bool.and_eq_true, decide_eq_true_eq] at h
    have ih := ordS_pair h.2
    refine List.pairwise_cons.2 ⟨fun z hz => ?_, ih⟩
    rcases List.mem_cons.1 hz with rfl | hz
    · exact h.1
    · exact List.le_trans h.1 ((List.pairwise_cons.1 ih).1 z hz)

theorem sortS_iso {l : List (List UInt8)} (h : ordS (isoS l) = true) : sortS l = isoS l := by
  rw [← sortS_of_perm (isoS_perm l)]
  exact List.mergeSort_of_pairwise ((ordS_pair h).imp fun a => decide_eq_true a)

noncomputable def orc : ECall := fun t args h =>
  match t with
  | .func 10 =>
    match args with
    | [v] => if argIs h v [I 1, I 1, I 2] = true then some (.tuple #[sl 3 h.length 0 3, I 6, I 0], h ++ [.arr 3 [I 2, I 2, I 1]]) else none
    | _ => none
  | .func 11 =>
    match args with
    | [v] => if argIs h v [I 1, I 3, I 1] = true then some (.tuple #[sl 3 h.length 0 3, I 9, I 0], h ++ [.arr 3 [I 1, I 2, I 2]]) else none
    | _ => none
  | .func 38 =>
    match args with
    | [.map (some im)] =>
      match h[im]? with
      | some (.gmap .str c es) =>
        match entsOf 0 es with
        | some l => if l.length ≤ c ∧ 0 < l.length ∧ l.length ≤ 1000 ∧ ordS (isoS (l.map Prod.fst)) = true then some (sl 9 h.length 0 l.length, h ++ [.arr 9 ((isoS (l.map Prod.fst)).map S)]) else none
        | none => none
      | _ => none
    | _ => none
  | .func 55 =>
    match args with
    | [.slice (some ⟨i, 0, some 9⟩) n m, .string s] =>
      match h[i]? with
      | some (.arr 9 xs) =>
        match strsOf xs with
        | some ls => if n = ls.length ∧ m = ls.length ∧ 0 < ls.length ∧ ls.length ≤ 1000 ∧ (Lib.join ls (Go.Sim.bytes s)).length ≤ 100000 then some (S (Lib.join ls (Go.Sim.bytes s)), h) else none
        | none => none
      | _ => none
    | _ => none
  | _ => none

theorem lcH : lc false [1, 1, 2] 0 = some 6 ∧ chL false [1, 1, 2] 0 = [2, 2, 1] := by decide +kernel
theorem lcT : lc true [1, 3, 1] 0 = some 9 ∧ chL true [1, 3, 1] 0 = [1, 2, 2] := by decide +kernel

theorem ren3 (c d : Int) : Ren fun i => .tuple #[sl 3 i 0 3, I c, I d] := Ren.tuple (l := [fun i => sl 3 i 0 3, fun _ => I c, fun _ => I d]) (.cons (Ren.sl 3 0 3) (.cons (Ren.scal rfl) (.cons (Ren.scal rfl) .nil)))

theorem own3 {b : Nat} {h' : Heap} {u : Value} {a c d : Nat} (o : OwnS b h' 3 u ([a, c, d].map fun l : Nat => I l)) : ∃ i, b ≤ i ∧ h'[i]? = some (.arr 3 [I a, I c, I d]) ∧ u = sl 3 i 0 3 := by
  rcases o with ⟨_, e⟩ | ⟨i, h1, h2, h3⟩
  · cases e
  · exact ⟨i, h1, h3, h2⟩

theorem icall_of {P : Program} {F : FuncId} {args : List Value} {h h' : Heap} {v : Value} (hc : CallP P F args h fun u g => u = v ∧ g = h') : ICall P F args h v h' := by
  rw [CallP_eq] at hc
  obtain ⟨_, _, hc, rfl, rfl⟩ := hc
  exact hc

theorem orc_sound : CallE Tryd.prog orc := by
  constructor
  · intro F args h v h' he
    simp only [orc] at he
    split at he
    · rename_i hF
      injection hF with hF
      subst hF
      split at he
      · rename_i w
        split at he
        · rename_i ha
          simp only [Option.some.injEq, Prod.mk.injEq] at he
          obtain ⟨rfl, rfl⟩ := he
          have hv := argIs_ns (ns := [1, 1, 2]) (by decide) ha
          refine icall_of (callP_new (V := fun i => .tuple #[sl 3 i 0 3, I 6, I 0]) (o := .arr 3 [I 2, I 2, I 1]) (ren3 6 0) rfl (C10 hv (by decide) (fun h => absurd h (by decide)) (fun _ hb => absurd ⟨by decide, by intro w hw; simp at hw; omega⟩ hb) fun _ _ _ c u g hc x own => ?_) ⟨rfl, rfl⟩)
          rw [lcH.1] at hc
          cases hc
          rw [lcH.2] at own
          obtain ⟨i, h1, h2, rfl⟩ := own3 own
          exact ⟨x, i, h1, h2, rfl⟩
        · cases he
      · cases he
    · rename_i hF
      injection hF with hF
      subst hF
      split at he
      · rename_i w
        split at he
        · rename_i ha
          simp only [Option.some.injEq, Prod.mk.injEq] at he
          obtain ⟨rfl, rfl⟩ := he
          have hv := argIs_ns (ns := [1, 3, 1]) (by decide) ha
          refine icall_of (callP_new (V := fun i => .tuple #[sl 3 i 0 3, I 9, I 0]) (o := .arr 3 [I 1, I 2, I 2]) (ren3 9 0) rfl (C11 hv (by decide) (fun h => absurd h (by decide)) (fun _ hb => absurd ⟨by decide, by intro w hw; simp at hw; omega⟩ hb) fun _ _ _ c u g hc x own => ?_) ⟨rfl, rfl⟩)
          rw [lcT.1] at hc
          cases hc
          rw [lcT.2] at own
          obtain ⟨i, h1, h2, rfl⟩ := own3 own
          exact ⟨x, i, h1, h2, rfl⟩
        · cases he
      · cases he
    · rename_i hF
      injection hF with hF
      subst hF
      split at he
      · rename_i im
        split at he
        · rename_i c es hg
          split at he
          · rename_i l hl
            split at he
            · rename_i hcond
              obtain ⟨c1, c2, c3, c4⟩ := hcond
              simp only [Option.some.injEq, Prod.mk.injEq] at he
              obtain ⟨rfl, rfl⟩ := he
              have := entsOf_eq hl
              subst this
              refine icall_of (C38 (l := l) hg c1 (by rintro rfl; simp at c2) (by omega) ⟨rfl, ?_⟩)
              rw [sortS_iso c4]
            · cases he
          · cases he
        · cases he
      · cases he
    · rename_i hF
      injection hF with hF
      subst hF
      split at he
      · rename_i i n m s
        split at he
        · rename_i xs hg
          split at he
          · rename_i ls hl
            split at he
            · rename_i hcond
              obtain ⟨rfl, rfl, c2, c3, c4⟩ := hcond
              simp only [Option.some.injEq, Prod.mk.injEq] at he
              obtain ⟨rfl, rfl⟩ := he
              have := strsOf_eq hl
              subst this
              have := icall_of (C55 (ls := ls) (sep := Go.Sim.bytes s) (K := fun u g => u = S (Lib.join ls (Go.Sim.bytes s)) ∧ g = h) (by rintro rfl; simp at c2) (by omega) (by omega) hg ⟨rfl, rfl⟩)
              rwa [S_bytes] at this
            · cases he
          · cases he
        · cases he
      · cases he
    · cases he
  · intro i args h v h' he
    simp only [orc] at he
    cases he

set_option maxHeartbeats 0 in
theorem livesE : (evK Tryd.prog evH 1000 orc 30 (.func 13) [] []).map Prod.fst = some (.bool true) := by kernel_rfl

theorem C13 {h : Heap} {K : Value → Heap → Prop} (hk : K (.bool true) h) : CallP Tryd.prog 13 [] h K := by
  obtain ⟨h', hc⟩ := evK_call evH 1000 30 orc_sound livesE
  exact callP_any (Ren.scal rfl) hc rfl hk

end Go.Proofs.YthplaillblmgfaaDoor


namespace Go.Proofs.YthplaillblmgfaaDoor
open Go.Sim Go.ChangeShapes Go.WideShapes Go.ChangeAt Go.RowKit

set_option maxRecDepth 100000

theorem Tryd.own : ownKnob Tryd.prog.godebug = none := by kernel_rfl
theorem Tryd.laidOut : laidOutB Tryd.prog = true := by kernel_rfl
section
variable {H : Type} {enc : TypeId × Value → H} {W : World} {ρ : RMap} {h : Heap}

theorem slice_one {b : Nat} {t : TypeId} {e : TypeId} {v : Value} (ht : Tryd.prog.underlying t = some (.slice e)) (hok : Cell.okWide Tryd.prog W .any b t v) : v.cells.toList = [v] := by
  simp only [Cell.okWide, ht, Cell.ok] at hok
  cases v <;> simp at hok <;> rfl

end

end Go.Proofs.YthplaillblmgfaaDoor


namespace Go.Proofs.YthplaillblmgfaaDoor
open Go.Sim
variable (P : Program) (K : VK)
/-! F34: pommel/mark.check -/
noncomputable def c34z8 : ICode := .ops none [⟨(some 15), .p (.pick (.tmp 11) (.const (.bool true)) (.tmp 14))⟩,
 ⟨(some 7), .p (.mv (.tmp 15))⟩]
noncomputable def c34z6 : ICode := .seq (.ops (some (11, false)) [⟨(some 12), .p (.mv (.tmp 1))⟩,
 ⟨(some 13), .p (.lenS (.tmp 12))⟩,
 ⟨(some 14), .p (.bin .gtr (.tmp 13) (.const (.int .i64 (200))))⟩])
 (.cut [0, 1, 11, 14] c34z8)
noncomputable def c34z14 : ICode := .ops none [⟨(some 24), .p (.pick (.tmp 20) (.const (.bool true)) (.tmp 23))⟩,
 ⟨(some 16), .p (.mv (.tmp 24))⟩]
noncomputable def c34z12 : ICode := .seq (.ops (some (20, false)) [⟨(some 21), .p (.mv (.tmp 1))⟩,
 ⟨(some 22), .call 51 [(.tmp 21)]⟩,
 ⟨(some 23), .p (.un .not (.tmp 22))⟩])
 (.cut [0, 20, 23] c34z14)
noncomputable def c34z10 : ICode := .cond (.tmp 16) (.seq (.ops none [⟨(some 4), .p (.mv (.const (.int .i64 (2))))⟩])
 (.ret))
 (.skip)
noncomputable def c34z4 : ICode := .cond (.tmp 7) (.seq (.ops none [⟨(some 4), .p (.mv (.const (.int .i64 (3))))⟩])
 (.ret))
 (.seq (.seq (.ops none [⟨(some 17), .p (.mv (.tmp 0))⟩,
 ⟨(some 18), .p (.lenSl (.tmp 17))⟩,
 ⟨(some 19), .p (.bin .eql (.tmp 18) (.const (.int .i64 (0))))⟩,
 ⟨(some 20), .p (.mv (.tmp 19))⟩])
 (.cut [0, 1, 20] c34z12)) c34z10)
noncomputable def c34z37 : ICode := .ops none [⟨(some 50), .p (.pick (.tmp 44) (.const (.bool true)) (.tmp 49))⟩]
noncomputable def c34z35 : ICode := .seq (.ops (some (44, false)) [⟨(some 45), .p (.mv (.tmp 0))⟩,
 ⟨(some 46), .p (.mv (.tmp 5))⟩,
 ⟨(some 47), .p (.slSl 9 1 (.tmp 45) none (some (.tmp 46)))⟩,
 ⟨(some 48), .p (.mv (.tmp 6))⟩,
 ⟨(some 49), .call 52 [(.tmp 47), (.tmp 48)]⟩])
 (.cut [0, 25, 26, 27, 44, 49] c34z37)
noncomputable def c34z33 : ICode := .seq (.ops none [⟨(some 43), .p (.pick (.tmp 39) (.const (.bool true)) (.tmp 42))⟩,
 ⟨(some 44), .p (.mv (.tmp 43))⟩])
 (.cut [0, 5, 6, 25, 26, 27, 44] c34z35)
noncomputable def c34z31 : ICode := .seq (.ops (some (39, false)) [⟨(some 40), .p (.mv (.tmp 6))⟩,
 ⟨(some 41), .call 51 [(.tmp 40)]⟩,
 ⟨(some 42), .p (.un .not (.tmp 41))⟩])
 (.cut [0, 5, 6, 25, 26, 27, 39, 42] c34z33)
noncomputable def c34z29 : ICode := .seq (.ops none [⟨(some 38), .p (.pick (.tmp 34) (.const (.bool true)) (.tmp 37))⟩,
 ⟨(some 39), .p (.mv (.tmp 38))⟩])
 (.cut [0, 5, 6, 25, 26, 27, 39] c34z31)
noncomputable def c34z27 : ICode := .seq (.ops (some (34, false)) [⟨(some 35), .p (.mv (.tmp 6))⟩,
 ⟨(some 36), .p (.lenS (.tmp 35))⟩,
 ⟨(some 37), .p (.bin .gtr (.tmp 36) (.const (.int .i64 (10))))⟩])
 (.cut [0, 5, 6, 25, 26, 27, 34, 37] c34z29)
noncomputable def c34z25 : ICode := .cond (.tmp 50) (.seq (.ops none [⟨(some 4), .p (.mv (.const (.int .i64 (2))))⟩])
 (.ret))
 (.skip)
noncomputable def c34z22 : ICode := .ops none [⟨(some 51), .p (.bin .add (.tmp 27) (.const (.int .i64 (1))))⟩,
 ⟨(some 27), .p (.mv (.tmp 51))⟩]
noncomputable def c34z19 : ICode := .seq (.ops none [⟨(some 28), .p (.bin .lss (.tmp 27) (.tmp 26))⟩])
 (.seq (.cond (.tmp 28) (.skip)
 (.exit 1))
 (.seq (.block 2 (.seq (.ops none [⟨(some 29), .p (.mv (.tmp 27))⟩,
 ⟨(some 30), .p (.adrSl 1 (.tmp 25) (.tmp 27))⟩,
 ⟨(some 31), .l (.load false 1 (.tmp 30))⟩,
 ⟨(some 5), .p (.mv (.tmp 29))⟩,
 ⟨(some 6), .p (.mv (.tmp 31))⟩])
 (.seq (.seq (.ops none [⟨(some 32), .p (.mv (.tmp 6))⟩,
 ⟨(some 33), .p (.bin .eql (.tmp 32) (.const (.string ⟨#[]⟩)))⟩,
 ⟨(some 34), .p (.mv (.tmp 33))⟩])
 (.cut [0, 5, 6, 25, 26, 27, 34] c34z27)) c34z25))) c34z22))
noncomputable def c34z16 : ICode := .seq (.ops none [⟨(some 4), .p (.mv (.const (.int .i64 (0))))⟩])
 (.ret)
noncomputable def c34z2 : ICode := .seq (.seq (.ops none [⟨(some 25), .p (.mv (.tmp 0))⟩,
 ⟨(some 26), .p (.lenSl (.tmp 25))⟩,
 ⟨(some 27), .p (.mv (.const (.int .i64 (0))))⟩])
 (.block 1 (.loop [0, 25, 26] [27] c34z19))) c34z16
noncomputable def c34 : ICode := .seq (.ops none [⟨(some 4), .p (.mv (.const (.int .i64 (0))))⟩])
 (.seq (.block 0 (.seq (.seq (.ops none [⟨(some 8), .p (.mv (.tmp 0))⟩,
 ⟨(some 9), .p (.lenSl (.tmp 8))⟩,
 ⟨(some 10), .p (.bin .gtr (.tmp 9) (.const (.int .i64 (12))))⟩,
 ⟨(some 11), .p (.mv (.tmp 10))⟩])
 (.cut [0, 1, 11] c34z6)) c34z4)) c34z2)
theorem k34 : compFn Tryd.prog 34 [[], [0, 1, 11], [0, 1, 11, 14], [], [], [0, 1, 20], [0, 20, 23], [], [], [], [], [0, 25, 26], [27], [], [], [], [0, 5, 6, 25, 26, 27, 34], [0, 5, 6, 25, 26, 27, 34, 37], [0, 5, 6, 25, 26, 27, 39], [0, 5, 6, 25, 26, 27, 39, 42], [0, 5, 6, 25, 26, 27, 44], [0, 25, 26, 27, 44, 49], [], [], [], [], []] = some (52, c34, [.tmp 4]) := by kernel_rfl
def K34z0 (_P : Program) (K : VK) : Kont := bodyP [.tmp 4] K
def K34z2 : Kont := thenK (iwpP P c34z2 (K34z0 P K)) (K34z0 P K)
def K34z3 : Kont := inBlockK 0 (K34z2 P K)
def K34z4 : Kont := thenK (iwpP P c34z4 (K34z3 P K)) (K34z3 P K)
def K34z10 : Kont := thenK (iwpP P c34z10 (K34z3 P K)) (K34z3 P K)
def K34z16 : Kont := thenK (iwpP P c34z16 (K34z0 P K)) (K34z0 P K)
def K34z18 : Kont := inBlockK 1 (K34z16 P K)
def K34z19 (words0 x25 x26 : Value) (L1 : LK) : Kont := thenK (fun f' h'' => (([0, 25, 26] : List Nat).map f' : List Value) = [words0, x25, x26] ∧ L1 (([27] : List Nat).map f') h'') (K34z18 P K)
def K34z22 (words0 x25 x26 : Value) (L1 : LK) : Kont := thenK (iwpP P c34z22 (K34z19 P K words0 x25 x26 L1)) (K34z19 P K words0 x25 x26 L1)
def K34z23 (words0 x25 x26 : Value) (L1 : LK) : Kont := inBlockK 2 (K34z22 P K words0 x25 x26 L1)
def K34z25 (words0 x25 x26 : Value) (L1 : LK) : Kont := thenK (iwpP P c34z25 (K34z23 P K words0 x25 x26 L1)) (K34z23 P K words0 x25 x26 L1)
def p34z6 (words0 text1 x11 : Value) (h : Heap) : Prop := CutP (iwpP P c34z6 (K34z4 P K)) [0, 1, 11] [words0, text1, x11] h
def p34z8 (words0 text1 x11 x14 : Value) (h : Heap) : Prop := CutP (iwpP P c34z8 (K34z4 P K)) [0, 1, 11, 14] [words0, text1, x11, x14] h
def p34z12 (words0 text1 x20 : Value) (h : Heap) : Prop := CutP (iwpP P c34z12 (K34z10 P K)) [0, 1, 20] [words0, text1, x20] h
def p34z14 (words0 x20 x23 : Value) (h : Heap) : Prop := CutP (iwpP P c34z14 (K34z10 P K)) [0, 20, 23] [words0, x20, x23] h
def p34z19 (words0 x25 x26 : Value) (L1 : LK) (xs : List Value) (h : Heap) : Prop := CutP (iwpP P c34z19 (K34z19 P K words0 x25 x26 L1)) ([0, 25, 26] ++ [27]) ([words0, x25, x26] ++ xs) h
def p34z27 (words0 i5 w6 x25 x26 x27 x34 : Value) (L1 : LK) (h : Heap) : Prop := CutP (iwpP P c34z27 (K34z25 P K words0 x25 x26 L1)) [0, 5, 6, 25, 26, 27, 34] [words0, i5, w6, x25, x26, x27, x34] h
def p34z29 (words0 i5 w6 x25 x26 x27 x34 x37 : Value) (L1 : LK) (h : Heap) : Prop := CutP (iwpP P c34z29 (K34z25 P K words0 x25 x26 L1)) [0, 5, 6, 25, 26, 27, 34, 37] [words0, i5, w6, x25, x26, x27, x34, x37] h
def p34z31 (words0 i5 w6 x25 x26 x27 x39 : Value) (L1 : LK) (h : Heap) : Prop := CutP (iwpP P c34z31 (K34z25 P K words0 x25 x26 L1)) [0, 5, 6, 25, 26, 27, 39] [words0, i5, w6, x25, x26, x27, x39] h
def p34z33 (words0 i5 w6 x25 x26 x27 x39 x42 : Value) (L1 : LK) (h : Heap) : Prop := CutP (iwpP P c34z33 (K34z25 P K words0 x25 x26 L1)) [0, 5, 6, 25, 26, 27, 39, 42] [words0, i5, w6, x25, x26, x27, x39, x42] h
def p34z35 (words0 i5 w6 x25 x26 x27 x44 : Value) (L1 : LK) (h : Heap) : Prop := CutP (iwpP P c34z35 (K34z25 P K words0 x25 x26 L1)) [0, 5, 6, 25, 26, 27, 44] [words0, i5, w6, x25, x26, x27, x44] h
def p34z37 (words0 x25 x26 x27 x44 x49 : Value) (L1 : LK) (h : Heap) : Prop := CutP (iwpP P c34z37 (K34z25 P K words0 x25 x26 L1)) [0, 25, 26, 27, 44, 49] [words0, x25, x26, x27, x44, x49] h
theorem q34z8 (words0 text1 x11 x14 : Value) (h : Heap) : p34z8 P K words0 text1 x11 x14 h =
 (OP (iPick x11 (.bool true) x14) fun x15 =>
 IfP x15
 (K (.int .i64 (3)) h)
 (OP (iLenSl words0) fun x18 =>
 OP (iBin .eql x18 (.int .i64 (0))) fun x19 =>
 p34z12 P K words0 text1 x19 h)) := (CutP_def _ _ _ _).trans (by kernel_rfl)
theorem q34z6 (words0 text1 x11 : Value) (h : Heap) : p34z6 P K words0 text1 x11 h =
 (GdP x11 false
 (OP (iLenS text1) fun x13 =>
 OP (iBin .gtr x13 (.int .i64 (200))) fun x14 =>
 p34z8 P K words0 text1 x11 x14 h)
 (p34z8 P K words0 text1 x11 undef h)) := (CutP_def _ _ _ _).trans (by kernel_rfl)
theorem q34z14 (words0 x20 x23 : Value) (h : Heap) : p34z14 P K words0 x20 x23 h =
 (OP (iPick x20 (.bool true) x23) fun x24 =>
 IfP x24
 (K (.int .i64 (2)) h)
 (OP (iLenSl words0) fun x26 =>
 LoopP [(.int .i64 (0))] h fun L1 xs hx =>
 p34z19 P K words0 words0 x26 L1 xs hx)) := (CutP_def _ _ _ _).trans (by kernel_rfl)
theorem q34z12 (words0 text1 x20 : Value) (h : Heap) : p34z12 P K words0 text1 x20 h =
 (GdP x20 false
 (CallP P 51 [text1] h fun x22 h_1 =>
 OP (iUn .not x22) fun x23 =>
 p34z14 P K words0 x20 x23 h_1)
 (p34z14 P K words0 x20 undef h)) := (CutP_def _ _ _ _).trans (by kernel_rfl)
theorem q34z37 (words0 x25 x26 x27 x44 x49 : Value) (L1 : LK) (h : Heap) : p34z37 P K words0 x25 x26 x27 x44 x49 L1 h =
 (OP (iPick x44 (.bool true) x49) fun x50 =>
 IfP x50
 (K (.int .i64 (2)) h)
 (OP (iBin .add x27 (.int .i64 (1))) fun x51 =>
 ([words0, x25, x26] : List Value) = [words0, x25, x26] ∧ L1 [x51] h)) := (CutP_def _ _ _ _).trans (by kernel_rfl)
theorem q34z35 (words0 i5 w6 x25 x26 x27 x44 : Value) (L1 : LK) (h : Heap) : p34z35 P K words0 i5 w6 x25 x26 x27 x44 L1 h =
 (GdP x44 false
 (OP (iSlSl 9 1 words0 none (some i5)) fun x47 =>
 CallP P 52 [x47, w6] h fun x49 h_1 =>
 p34z37 P K words0 x25 x26 x27 x44 x49 L1 h_1)
 (p34z37 P K words0 x25 x26 x27 x44 undef L1 h)) := (CutP_def _ _ _ _).trans (by kernel_rfl)
theorem q34z33 (words0 i5 w6 x25 x26 x27 x39 x42 : Value) (L1 : LK) (h : Heap) : p34z33 P K words0 i5 w6 x25 x26 x27 x39 x42 L1 h =
 (OP (iPick x39 (.bool true) x42) fun x43 =>
 p34z35 P K words0 i5 w6 x25 x26 x27 x43 L1 h) := (CutP_def _ _ _ _).trans (by kernel_rfl)
theorem q34z31 (words0 i5 w6 x25 x26 x27 x39 : Value) (L1 : LK) (h : Heap) : p34z31 P K words0 i5 w6 x25 x26 x27 x39 L1 h =
 (GdP x39 false
 (CallP P 51 [w6] h fun x41 h_1 =>
 OP (iUn .not x41) fun x42 =>
 p34z33 P K words0 i5 w6 x25 x26 x27 x39 x42 L1 h_1)
 (p34z33 P K words0 i5 w6 x25 x26 x27 x39 undef L1 h)) := (CutP_def _ _ _ _).trans (by kernel_rfl)
theorem q34z29 (words0 i5 w6 x25 x26 x27 x34 x37 : Value) (L1 : LK) (h : Heap) : p34z29 P K words0 i5 w6 x25 x26 x27 x34 x37 L1 h =
 (OP (iPick x34 (.bool true) x37) fun x38 =>
 p34z31 P K words0 i5 w6 x25 x26 x27 x38 L1 h) := (CutP_def _ _ _ _).trans (by kernel_rfl)
theorem q34z27 (words0 i5 w6 x25 x26 x27 x34 : Value) (L1 : LK) (h : Heap) : p34z27 P K words0 i5 w6 x25 x26 x27 x34 L1 h =
 (GdP x34 false
 (OP (iLenS w6) fun x36 =>
 OP (iBin .gtr x36 (.int .i64 (10))) fun x37 =>
 p34z29 P K words0 i5 w6 x25 x26 x27 x34 x37 L1 h)
 (p34z29 P K words0 i5 w6 x25 x26 x27 x34 undef L1 h)) := (CutP_def _ _ _ _).trans (by kernel_rfl)
theorem q34z19 (words0 x25 x26 : Value) (L1 : LK) (x27 : Value) (h : Heap) : p34z19 P K words0 x25 x26 L1 [x27] h =
 (OP (iBin .lss x27 x26) fun x28 =>
 IfP x28
 (OP (iAdrSl 1 x25 x27) fun x30 =>
 OP (iLoad false 1 h x30) fun x31 =>
 OP (iBin .eql x31 (.string ⟨#[]⟩)) fun x33 =>
 p34z27 P K words0 x27 x31 x25 x26 x27 x33 L1 h)
 (K (.int .i64 (0)) h)) := (CutP_def _ _ _ _).trans (by kernel_rfl)
def T34 (words0 text1 : Value) (h : Heap) : Prop :=
 OP (iLenSl words0) fun x9 =>
 OP (iBin .gtr x9 (.int .i64 (12))) fun x10 =>
 p34z6 P K words0 text1 x10 h
theorem e34 (words0 text1 : Value) (h : Heap) : iwpP P c34 (bodyP [.tmp 4] K) (frame0 [words0, text1]) h = T34 P K words0 text1 h := by kernel_rfl
theorem f34 {K : VK} {words0 text1 : Value} {h : Heap} (H : T34 Tryd.prog K words0 text1 h) : CallP Tryd.prog 34 [words0, text1] h K :=
 callP_intro k34 (Nat.le_of_ble_eq_true rfl) ((e34 Tryd.prog K words0 text1 h).mpr H)
/-! F35: pommel/mark.Clear$1 -/
noncomputable def c35z8 : ICode := .ops none [⟨(some 20), .p (.pick (.tmp 15) (.tmp 19) (.const (.bool false)))⟩]
noncomputable def c35z6 : ICode := .seq (.ops (some (15, true)) [⟨(some 16), .p (.mv (.tmp 1))⟩,
 ⟨(some 17), .p (.mv (.tmp 6))⟩,
 ⟨(some 18), .call 36 [(.tmp 16), (.tmp 17)]⟩,
 ⟨(some 19), .p (.un .not (.tmp 18))⟩])
 (.cut [0, 1, 2, 15, 19] c35z8)
noncomputable def c35z4 : ICode := .cond (.tmp 20) (.seq (.ops none [⟨(some 5), .p (.mv (.const (.bool false)))⟩])
 (.ret))
 (.skip)
noncomputable def c35z2 : ICode := .seq (.ops none [⟨(some 21), .l (.load false 1 (.tmp 2))⟩,
 ⟨(some 22), .p (.mv (.tmp 0))⟩,
 ⟨(some 23), .p (.mv (.tmp 1))⟩,
 ⟨none, .e (.mupdG .str (.tmp 21) (.tmp 22) (.tmp 23))⟩])
 (.seq (.ops none [⟨(some 5), .p (.mv (.const (.bool true)))⟩])
 (.ret))
noncomputable def c35 : ICode := .seq (.ops none [⟨(some 5), .p (.mv (.const (.bool false)))⟩])
 (.seq (.seq (.ops none [⟨(some 9), .l (.load false 1 (.tmp 2))⟩,
 ⟨(some 10), .p (.mv (.tmp 0))⟩,
 ⟨(some 11), .l (.lookupG .str true (.string ⟨#[]⟩) (.tmp 9) (.tmp 10))⟩,
 ⟨(some 8), .p (.mv (.tmp 11))⟩,
 ⟨(some 12), .p (.ext (.tmp 8) 0)⟩,
 ⟨(some 13), .p (.ext (.tmp 8) 1)⟩,
 ⟨(some 6), .p (.mv (.tmp 12))⟩,
 ⟨(some 7), .p (.mv (.tmp 13))⟩])
 (.seq (.seq (.ops none [⟨(some 14), .p (.mv (.tmp 7))⟩,
 ⟨(some 15), .p (.mv (.tmp 14))⟩])
 (.cut [0, 1, 2, 6, 15] c35z6)) c35z4)) c35z2)
theorem k35 : compFn Tryd.prog 35 [[], [], [0, 1, 2, 6, 15], [0, 1, 2, 15, 19], [], [], [], [], []] = some (24, c35, [.tmp 5]) := by kernel_rfl
def K35z0 (_P : Program) (K : VK) : Kont := bodyP [.tmp 5] K
def K35z2 : Kont := thenK (iwpP P c35z2 (K35z0 P K)) (K35z0 P K)
def K35z4 : Kont := thenK (iwpP P c35z4 (K35z2 P K)) (K35z2 P K)
def p35z6 (ahead0 text1 x2 old6 x15 : Value) (h : Heap) : Prop := CutP (iwpP P c35z6 (K35z4 P K)) [0, 1, 2, 6, 15] [ahead0, text1, x2, old6, x15] h
def p35z8 (ahead0 text1 x2 x15 x19 : Value) (h : Heap) : Prop := CutP (iwpP P c35z8 (K35z4 P K)) [0, 1, 2, 15, 19] [ahead0, text1, x2, x15, x19] h
theorem q35z8 (ahead0 text1 x2 x15 x19 : Value) (h : Heap) : p35z8 P K ahead0 text1 x2 x15 x19 h =
 (OP (iPick x15 x19 (.bool false)) fun x20 =>
 IfP x20
 (K (.bool false) h)
 (OP (iLoad false 1 h x2) fun x21 =>
 OH (oMupdG .str h x21 ahead0 text1) fun _ h_1 =>
 K (.bool true) h_1)) := (CutP_def _ _ _ _).trans (by kernel_rfl)
theorem q35z6 (ahead0 text1 x2 old6 x15 : Value) (h : Heap) : p35z6 P K ahead0 text1 x2 old6 x15 h =
 (GdP x15 true
 (CallP P 36 [text1, old6] h fun x18 h_1 =>
 OP (iUn .not x18) fun x19 =>
 p35z8 P K ahead0 text1 x2 x15 x19 h_1)
 (p35z8 P K ahead0 text1 x2 x15 undef h)) := (CutP_def _ _ _ _).trans (by kernel_rfl)
def T35 (ahead0 text1 x2 : Value) (h : Heap) : Prop :=
 OP (iLoad false 1 h x2) fun x9 =>
 OP (iLookupG .str true (.string ⟨#[]⟩) h x9 ahead0) fun x11 =>
 OP (iExt 0 x11) fun x12 =>
 OP (iExt 1 x11) fun x13 =>
 p35z6 P K ahead0 text1 x2 x12 x13 h
theorem e35 (ahead0 text1 x2 : Value) (h : Heap) : iwpP P c35 (bodyP [.tmp 5] K) (frame0 [ahead0, text1, x2]) h = T35 P K ahead0 text1 x2 h := by kernel_rfl
theorem f35 {K : VK} {ahead0 text1 x2 : Value} {h : Heap} (H : T35 Tryd.prog K ahead0 text1 x2 h) : CallP Tryd.prog 35 [ahead0, text1, x2] h K :=
 callP_intro k35 (Nat.le_of_ble_eq_true rfl) ((e35 Tryd.prog K ahead0 text1 x2 h).mpr H)
/-! F36: pommel/mark.before -/
noncomputable def c36 : ICode := .seq (.ops none [⟨(some 4), .p (.mv (.const (.bool false)))⟩])
 (.seq (.seq (.ops none [⟨(some 6), .p (.mv (.tmp 0))⟩,
 ⟨(some 7), .p (.lenS (.tmp 6))⟩,
 ⟨(some 8), .p (.mv (.tmp 1))⟩,
 ⟨(some 9), .p (.lenS (.tmp 8))⟩,
 ⟨(some 10), .p (.bin .sub (.tmp 7) (.tmp 9))⟩,
 ⟨(some 5), .p (.mv (.tmp 10))⟩])
 (.seq (.ops none [⟨(some 11), .p (.mv (.tmp 5))⟩,
 ⟨(some 12), .p (.bin .neq (.tmp 11) (.const (.int .i64 (0))))⟩])
 (.cond (.tmp 12) (.seq (.ops none [⟨(some 13), .p (.mv (.tmp 5))⟩,
 ⟨(some 14), .p (.bin .lss (.tmp 13) (.const (.int .i64 (0))))⟩,
 ⟨(some 4), .p (.mv (.tmp 14))⟩])
 (.ret))
 (.skip))))
 (.seq (.ops none [⟨(some 15), .p (.mv (.tmp 0))⟩,
 ⟨(some 16), .p (.mv (.tmp 1))⟩,
 ⟨(some 17), .p (.bin .lss (.tmp 15) (.tmp 16))⟩,
 ⟨(some 4), .p (.mv (.tmp 17))⟩])
 (.ret)))
theorem k36 : compFn Tryd.prog 36 [[], [], [], [], [], []] = some (18, c36, [.tmp 4]) := by kernel_rfl
def T36 (P : Program) (K : VK) (a0 b1 : Value) (h : Heap) : Prop :=
 OP (iLenS a0) fun x7 =>
 OP (iLenS b1) fun x9 =>
 OP (iBin .sub x7 x9) fun x10 =>
 OP (iBin .neq x10 (.int .i64 (0))) fun x12 =>
 IfP x12
 (OP (iBin .lss x10 (.int .i64 (0))) fun x14 =>
 K x14 h)
 (OP (iBin .lss a0 b1) fun x17 =>
 K x17 h)
theorem e36 (a0 b1 : Value) (h : Heap) : iwpP P c36 (bodyP [.tmp 4] K) (frame0 [a0, b1]) h = T36 P K a0 b1 h := by kernel_rfl
theorem f36 {K : VK} {a0 b1 : Value} {h : Heap} (H : T36 Tryd.prog K a0 b1 h) : CallP Tryd.prog 36 [a0, b1] h K :=
 callP_intro k36 (Nat.le_of_ble_eq_true rfl) ((e36 Tryd.prog K a0 b1 h).mpr H)
/-! F37: strings.HasPrefix -/
noncomputable def c37 : ICode := .seq (.ops none [⟨(some 4), .p (.mv (.const (.bool false)))⟩])
 (.seq (.ops none [⟨(some 5), .p (.mv (.tmp 0))⟩,
 ⟨(some 6), .p (.mv (.tmp 1))⟩,
 ⟨(some 7), .call 53 [(.tmp 5), (.tmp 6)]⟩,
 ⟨(some 4), .p (.mv (.tmp 7))⟩])
 (.ret))
theorem k37 : compFn Tryd.prog 37 [[], []] = some (8, c37, [.tmp 4]) := by kernel_rfl
def T37 (s0 prefix1 : Value) (h : Heap) : Prop :=
 CallP P 53 [s0, prefix1] h fun x7 h_1 =>
 K x7 h_1
theorem e37 (s0 prefix1 : Value) (h : Heap) : iwpP P c37 (bodyP [.tmp 4] K) (frame0 [s0, prefix1]) h = T37 P K s0 prefix1 h := by kernel_rfl
theorem f37 {K : VK} {s0 prefix1 : Value} {h : Heap} (H : T37 Tryd.prog K s0 prefix1 h) : CallP Tryd.prog 37 [s0, prefix1] h K :=
 callP_intro k37 (Nat.le_of_ble_eq_true rfl) ((e37 Tryd.prog K s0 prefix1 h).mpr H)
/-! F51: pommel/mark.marked -/
noncomputable def c51 : ICode := .seq (.ops none [⟨(some 2), .p (.mv (.const (.bool false)))⟩])
 (.seq (.ops none [⟨(some 3), .p (.mv (.tmp 0))⟩,
 ⟨(some 4), .call 58 [(.tmp 3), (.const (.string ⟨#[48, 49]⟩))]⟩,
 ⟨(some 5), .p (.bin .eql (.tmp 4) (.const (.string ⟨#[]⟩)))⟩,
 ⟨(some 2), .p (.mv (.tmp 5))⟩])
 (.ret))
theorem k51 : compFn Tryd.prog 51 [[], []] = some (6, c51, [.tmp 2]) := by kernel_rfl
def T51 (s0 : Value) (h : Heap) : Prop :=
 CallP P 58 [s0, (.string ⟨#[48, 49]⟩)] h fun x4 h_1 =>
 OP (iBin .eql x4 (.string ⟨#[]⟩)) fun x5 =>
 K x5 h_1
theorem e51 (s0 : Value) (h : Heap) : iwpP P c51 (bodyP [.tmp 2] K) (frame0 [s0]) h = T51 P K s0 h := by kernel_rfl
theorem f51 {K : VK} {s0 : Value} {h : Heap} (H : T51 Tryd.prog K s0 h) : CallP Tryd.prog 51 [s0] h K :=
 callP_intro k51 (Nat.le_of_ble_eq_true rfl) ((e51 Tryd.prog K s0 h).mpr H)
/-! F52: slices.Contains[[]string,string] -/
noncomputable def c52 : ICode := .seq (.ops none [⟨(some 4), .p (.mv (.const (.bool false)))⟩])
 (.seq (.ops none [⟨(some 5), .p (.mv (.tmp 0))⟩,
 ⟨(some 6), .p (.mv (.tmp 1))⟩,
 ⟨(some 7), .call 59 [(.tmp 5), (.tmp 6)]⟩,
 ⟨(some 8), .p (.bin .geq (.tmp 7) (.const (.int .i64 (0))))⟩,
 ⟨(some 4), .p (.mv (.tmp 8))⟩])
 (.ret))
theorem k52 : compFn Tryd.prog 52 [[], []] = some (9, c52, [.tmp 4]) := by kernel_rfl
def T52 (s0 v1 : Value) (h : Heap) : Prop :=
 CallP P 59 [s0, v1] h fun x7 h_1 =>
 OP (iBin .geq x7 (.int .i64 (0))) fun x8 =>
 K x8 h_1
theorem e52 (s0 v1 : Value) (h : Heap) : iwpP P c52 (bodyP [.tmp 4] K) (frame0 [s0, v1]) h = T52 P K s0 v1 h := by kernel_rfl
theorem f52 {K : VK} {s0 v1 : Value} {h : Heap} (H : T52 Tryd.prog K s0 v1 h) : CallP Tryd.prog 52 [s0, v1] h K :=
 callP_intro k52 (Nat.le_of_ble_eq_true rfl) ((e52 Tryd.prog K s0 v1 h).mpr H)
/-! F53: internal/stringslite.HasPrefix -/
noncomputable def c53z6 : ICode := .ops none [⟨(some 17), .p (.pick (.tmp 10) (.tmp 16) (.const (.bool false)))⟩,
 ⟨(some 4), .p (.mv (.tmp 17))⟩]
noncomputable def c53z4 : ICode := .seq (.ops (some (10, true)) [⟨(some 11), .p (.mv (.tmp 0))⟩,
 ⟨(some 12), .p (.mv (.tmp 1))⟩,
 ⟨(some 13), .p (.lenS (.tmp 12))⟩,
 ⟨(some 14), .p (.slS (.tmp 11) none (some (.tmp 13)))⟩,
 ⟨(some 15), .p (.mv (.tmp 1))⟩,
 ⟨(some 16), .p (.bin .eql (.tmp 14) (.tmp 15))⟩])
 (.cut [10, 16] c53z6)
noncomputable def c53z2 : ICode := .ret
noncomputable def c53 : ICode := .seq (.ops none [⟨(some 4), .p (.mv (.const (.bool false)))⟩])
 (.seq (.seq (.ops none [⟨(some 5), .p (.mv (.tmp 0))⟩,
 ⟨(some 6), .p (.lenS (.tmp 5))⟩,
 ⟨(some 7), .p (.mv (.tmp 1))⟩,
 ⟨(some 8), .p (.lenS (.tmp 7))⟩,
 ⟨(some 9), .p (.bin .geq (.tmp 6) (.tmp 8))⟩,
 ⟨(some 10), .p (.mv (.tmp 9))⟩])
 (.cut [0, 1, 10] c53z4)) c53z2)
theorem k53 : compFn Tryd.prog 53 [[], [0, 1, 10], [10, 16], []] = some (18, c53, [.tmp 4]) := by kernel_rfl
def K53z0 (_P : Program) (K : VK) : Kont := bodyP [.tmp 4] K
def K53z2 : Kont := thenK (iwpP P c53z2 (K53z0 P K)) (K53z0 P K)
def p53z4 (s0 prefix1 x10 : Value) (h : Heap) : Prop := CutP (iwpP P c53z4 (K53z2 P K)) [0, 1, 10] [s0, prefix1, x10] h
def p53z6 (x10 x16 : Value) (h : Heap) : Prop := CutP (iwpP P c53z6 (K53z2 P K)) [10, 16] [x10, x16] h
theorem q53z6 (x10 x16 : Value) (h : Heap) : p53z6 P K x10 x16 h =
 (OP (iPick x10 x16 (.bool false)) fun x17 =>
 K x17 h) := (CutP_def _ _ _ _).trans (by kernel_rfl)
theorem q53z4 (s0 prefix1 x10 : Value) (h : Heap) : p53z4 P K s0 prefix1 x10 h =
 (GdP x10 true
 (OP (iLenS prefix1) fun x13 =>
 OP (iSlS s0 none (some x13)) fun x14 =>
 OP (iBin .eql x14 prefix1) fun x16 =>
 p53z6 P K x10 x16 h)
 (p53z6 P K x10 undef h)) := (CutP_def _ _ _ _).trans (by kernel_rfl)
def T53 (s0 prefix1 : Value) (h : Heap) : Prop :=
 OP (iLenS s0) fun x6 =>
 OP (iLenS prefix1) fun x8 =>
 OP (iBin .geq x6 x8) fun x9 =>
 p53z4 P K s0 prefix1 x9 h
theorem e53 (s0 prefix1 : Value) (h : Heap) : iwpP P c53 (bodyP [.tmp 4] K) (frame0 [s0, prefix1]) h = T53 P K s0 prefix1 h := by kernel_rfl
theorem f53 {K : VK} {s0 prefix1 : Value} {h : Heap} (H : T53 Tryd.prog K s0 prefix1 h) : CallP Tryd.prog 53 [s0, prefix1] h K :=
 callP_intro k53 (Nat.le_of_ble_eq_true rfl) ((e53 Tryd.prog K s0 prefix1 h).mpr H)
/-! F58: strings.Trim -/
noncomputable def c58z7 : ICode := .ops none [⟨(some 12), .p (.pick (.tmp 9) (.const (.bool true)) (.tmp 11))⟩]
noncomputable def c58z5 : ICode := .seq (.ops (some (9, false)) [⟨(some 10), .p (.mv (.tmp 1))⟩,
 ⟨(some 11), .p (.bin .eql (.tmp 10) (.const (.string ⟨#[]⟩)))⟩])
 (.cut [0, 1, 9, 11] c58z7)
noncomputable def c58z3 : ICode := .cond (.tmp 12) (.seq (.ops none [⟨(some 13), .p (.mv (.tmp 0))⟩,
 ⟨(some 4), .p (.mv (.tmp 13))⟩])
 (.ret))
 (.skip)
noncomputable def c58z14 : ICode := .ops none [⟨(some 21), .p (.pick (.tmp 17) (.tmp 20) (.const (.bool false)))⟩]
noncomputable def c58z12 : ICode := .seq (.ops (some (17, true)) [⟨(some 18), .p (.mv (.tmp 1))⟩,
 ⟨(some 19), .p (.idxS (.tmp 18) (.const (.int .i64 (0))))⟩,
 ⟨(some 20), .p (.bin .lss (.tmp 19) (.const (.int .u8 (128))))⟩])
 (.cut [0, 1, 17, 20] c58z14)
noncomputable def c58z10 : ICode := .cond (.tmp 21) (.seq (.dops [(none, [⟨(some 22), .p (.mv (.tmp 0)), 0⟩,
 ⟨(some 23), .p (.mv (.tmp 1)), 0⟩,
 ⟨(some 24), .p (.idxS (.tmp 23) (.const (.int .i64 (0)))), 2⟩,
 ⟨(some 25), .call 68 [(.tmp 22), (.tmp 24)], 7⟩,
 ⟨(some 26), .p (.mv (.tmp 1)), 0⟩,
 ⟨(some 27), .p (.idxS (.tmp 26) (.const (.int .i64 (0)))), 16⟩,
 ⟨(some 28), .call 67 [(.tmp 25), (.tmp 27)], 63⟩,
 ⟨(some 4), .p (.mv (.tmp 28)), 127⟩])])
 (.ret))
 (.skip)
noncomputable def c58z9 : ICode := .seq (.seq (.ops none [⟨(some 30), .p (.mv (.tmp 1))⟩,
 ⟨(some 31), .call 69 [(.tmp 30)]⟩,
 ⟨(some 29), .p (.mv (.tmp 31))⟩,
 ⟨(some 32), .p (.ext (.tmp 29) 0)⟩,
 ⟨(some 33), .p (.ext (.tmp 29) 1)⟩,
 ⟨(some 5), .e (.alloc 98 [(.bool false), (.bool false), (.bool false), (.bool false), (.bool false), (.bool false), (.bool false), (.bool false), (.bool false), (.bool false), (.bool false), (.bool false), (.bool false), (.bool false), (.bool false), (.bool false), (.bool false), (.bool false), (.bool false), (.bool false), (.bool false), (.bool false), (.bool false), (.bool false), (.bool false), (.bool false), (.bool false), (.bool false), (.bool false), (.bool false), (.bool false), (.bool false), (.bool false), (.bool false), (.bool false), (.bool false), (.bool false), (.bool false), (.bool false), (.bool false), (.bool false), (.bool false), (.bool false), (.bool false), (.bool false), (.bool false), (.bool false), (.bool false), (.bool false), (.bool false), (.bool false), (.bool false), (.bool false), (.bool false), (.bool false), (.bool false), (.bool false), (.bool false), (.bool false), (.bool false), (.bool false), (.bool false), (.bool false), (.bool false), (.bool false), (.bool false), (.bool false), (.bool false), (.bool false), (.bool false), (.bool false), (.bool false), (.bool false), (.bool false), (.bool false), (.bool false), (.bool false), (.bool false), (.bool false), (.bool false), (.bool false), (.bool false), (.bool false), (.bool false), (.bool false), (.bool false), (.bool false), (.bool false), (.bool false), (.bool false), (.bool false), (.bool false), (.bool false), (.bool false), (.bool false), (.bool false), (.bool false), (.bool false), (.bool false), (.bool false), (.bool false), (.bool false), (.bool false), (.bool false), (.bool false), (.bool false), (.bool false), (.bool false), (.bool false), (.bool false), (.bool false), (.bool false), (.bool false), (.bool false), (.bool false), (.bool false), (.bool false), (.bool false), (.bool false), (.bool false), (.bool false), (.bool false), (.bool false), (.bool false), (.bool false), (.bool false), (.bool false), (.bool false), (.bool false), (.bool false), (.bool false), (.bool false), (.bool false), (.bool false), (.bool false), (.bool false), (.bool false), (.bool false), (.bool false), (.bool false), (.bool false), (.bool false), (.bool false), (.bool false), (.bool false), (.bool false), (.bool false), (.bool false), (.bool false), (.bool false), (.bool false), (.bool false), (.bool false), (.bool false), (.bool false), (.bool false), (.bool false), (.bool false), (.bool false), (.bool false), (.bool false), (.bool false), (.bool false), (.bool false), (.bool false), (.bool false), (.bool false), (.bool false), (.bool false), (.bool false), (.bool false), (.bool false), (.bool false), (.bool false), (.bool false), (.bool false), (.bool false), (.bool false), (.bool false), (.bool false), (.bool false), (.bool false), (.bool false), (.bool false), (.bool false), (.bool false), (.bool false), (.bool false), (.bool false), (.bool false), (.bool false), (.bool false), (.bool false), (.bool false), (.bool false), (.bool false), (.bool false), (.bool false), (.bool false), (.bool false), (.bool false), (.bool false), (.bool false), (.bool false), (.bool false), (.bool false), (.bool false), (.bool false), (.bool false), (.bool false), (.bool false), (.bool false), (.bool false), (.bool false), (.bool false), (.bool false), (.bool false), (.bool false), (.bool false), (.bool false), (.bool false), (.bool false), (.bool false), (.bool false), (.bool false), (.bool false), (.bool false), (.bool false), (.bool false), (.bool false), (.bool false), (.bool false), (.bool false), (.bool false), (.bool false), (.bool false), (.bool false), (.bool false), (.bool false), (.bool false), (.bool false), (.bool false), (.bool false), (.bool false), (.bool false), (.bool false), (.bool false), (.bool false), (.bool false), (.bool false), (.bool false), (.bool false), (.bool false), (.bool false), (.bool false), (.bool false)])⟩,
 ⟨none, .e (.store 256 (.tmp 5) (.tmp 32))⟩,
 ⟨(some 6), .p (.mv (.tmp 33))⟩])
 (.seq (.ops none [⟨(some 34), .p (.mv (.tmp 6))⟩])
 (.cond (.tmp 34) (.seq (.ops none [⟨(some 35), .p (.mv (.tmp 0))⟩,
 ⟨(some 36), .call 71 [(.tmp 35), (.tmp 5)]⟩,
 ⟨(some 37), .call 70 [(.tmp 36), (.tmp 5)]⟩,
 ⟨(some 4), .p (.mv (.tmp 37))⟩])
 (.ret))
 (.skip))))
 (.seq (.ops none [⟨(some 38), .p (.mv (.tmp 0))⟩,
 ⟨(some 39), .p (.mv (.tmp 1))⟩,
 ⟨(some 40), .call 73 [(.tmp 38), (.tmp 39)]⟩,
 ⟨(some 41), .p (.mv (.tmp 1))⟩,
 ⟨(some 42), .call 72 [(.tmp 40), (.tmp 41)]⟩,
 ⟨(some 4), .p (.mv (.tmp 42))⟩])
 (.ret))
noncomputable def c58z2 : ICode := .seq (.seq (.seq (.ops none [⟨(some 14), .p (.mv (.tmp 1))⟩,
 ⟨(some 15), .p (.lenS (.tmp 14))⟩,
 ⟨(some 16), .p (.bin .eql (.tmp 15) (.const (.int .i64 (1))))⟩,
 ⟨(some 17), .p (.mv (.tmp 16))⟩])
 (.cut [0, 1, 17] c58z12)) c58z10) c58z9
noncomputable def c58 : ICode := .seq (.ops none [⟨(some 4), .p (.mv (.const (.string ⟨#[]⟩)))⟩])
 (.seq (.seq (.seq (.ops none [⟨(some 7), .p (.mv (.tmp 0))⟩,
 ⟨(some 8), .p (.bin .eql (.tmp 7) (.const (.string ⟨#[]⟩)))⟩,
 ⟨(some 9), .p (.mv (.tmp 8))⟩])
 (.cut [0, 1, 9] c58z5)) c58z3) c58z2)
theorem k58 : compFn Tryd.prog 58 [[], [0, 1, 9], [0, 1, 9, 11], [], [], [], [0, 1, 17], [0, 1, 17, 20], [], [], [], [], [], [], [], []] = some (43, c58, [.tmp 4]) := by kernel_rfl
def K58z0 (_P : Program) (K : VK) : Kont := bodyP [.tmp 4] K
def K58z2 : Kont := thenK (iwpP P c58z2 (K58z0 P K)) (K58z0 P K)
def K58z3 : Kont := thenK (iwpP P c58z3 (K58z2 P K)) (K58z2 P K)
def K58z9 : Kont := thenK (iwpP P c58z9 (K58z0 P K)) (K58z0 P K)
def K58z10 : Kont := thenK (iwpP P c58z10 (K58z9 P K)) (K58z9 P K)
def p58z5 (s0 cutset1 x9 : Value) (h : Heap) : Prop := CutP (iwpP P c58z5 (K58z3 P K)) [0, 1, 9] [s0, cutset1, x9] h
def p58z7 (s0 cutset1 x9 x11 : Value) (h : Heap) : Prop := CutP (iwpP P c58z7 (K58z3 P K)) [0, 1, 9, 11] [s0, cutset1, x9, x11] h
def p58z12 (s0 cutset1 x17 : Value) (h : Heap) : Prop := CutP (iwpP P c58z12 (K58z10 P K)) [0, 1, 17] [s0, cutset1, x17] h
def p58z14 (s0 cutset1 x17 x20 : Value) (h : Heap) : Prop := CutP (iwpP P c58z14 (K58z10 P K)) [0, 1, 17, 20] [s0, cutset1, x17, x20] h
theorem q58z7 (s0 cutset1 x9 x11 : Value) (h : Heap) : p58z7 P K s0 cutset1 x9 x11 h =
 (OP (iPick x9 (.bool true) x11) fun x12 =>
 IfP x12
 (K s0 h)
 (OP (iLenS cutset1) fun x15 =>
 OP (iBin .eql x15 (.int .i64 (1))) fun x16 =>
 p58z12 P K s0 cutset1 x16 h)) := (CutP_def _ _ _ _).trans (by kernel_rfl)
theorem q58z5 (s0 cutset1 x9 : Value) (h : Heap) : p58z5 P K s0 cutset1 x9 h =
 (GdP x9 false
 (OP (iBin .eql cutset1 (.string ⟨#[]⟩)) fun x11 =>
 p58z7 P K s0 cutset1 x9 x11 h)
 (p58z7 P K s0 cutset1 x9 undef h)) := (CutP_def _ _ _ _).trans (by kernel_rfl)
theorem q58z14 (s0 cutset1 x17 x20 : Value) (h : Heap) : p58z14 P K s0 cutset1 x17 x20 h =
 (OP (iPick x17 x20 (.bool false)) fun x21 =>
 IfP x21
 (OP (iIdxS cutset1 (.int .i64 (0))) fun x24 =>
 CallP P 68 [s0, x24] h fun x25 h_1 =>
 (True) ∧
 OP (iIdxS cutset1 (.int .i64 (0))) fun x27 =>
 CallP P 67 [x25, x27] h_1 fun x28 h_2 =>
 (True) ∧
 K x28 h_2)
 (CallP P 69 [cutset1] h fun x31 h_1 =>
 OP (iExt 0 x31) fun x32 =>
 OP (iExt 1 x31) fun x33 =>
 OH (iAlloc 98 [(.bool false), (.bool false), (.bool false), (.bool false), (.bool false), (.bool false), (.bool false), (.bool false), (.bool false), (.bool false), (.bool false), (.bool false), (.bool false), (.bool false), (.bool false), (.bool false), (.bool false), (.bool false), (.bool false), (.bool false), (.bool false), (.bool false), (.bool false), (.bool false), (.bool false), (.bool false), (.bool false), (.bool false), (.bool false), (.bool false), (.bool false), (.bool false), (.bool false), (.bool false), (.bool false), (.bool false), (.bool false), (.bool false), (.bool false), (.bool false), (.bool false), (.bool false), (.bool false), (.bool false), (.bool false), (.bool false), (.bool false), (.bool false), (.bool false), (.bool false), (.bool false), (.bool false), (.bool false), (.bool false), (.bool false), (.bool false), (.bool false), (.bool false), (.bool false), (.bool false), (.bool false), (.bool false), (.bool false), (.bool false), (.bool false), (.bool false), (.bool false), (.bool false), (.bool false), (.bool false), (.bool false), (.bool false), (.bool false), (.bool false), (.bool false), (.bool false), (.bool false), (.bool false), (.bool false), (.bool false), (.bool false), (.bool false), (.bool false), (.bool false), (.bool false), (.bool false), (.bool false), (.bool false), (.bool false), (.bool false), (.bool false), (.bool false), (.bool false), (.bool false), (.bool false), (.bool false), (.bool false), (.bool false), (.bool false), (.bool false), (.bool false), (.bool false), (.bool false), (.bool false), (.bool false), (.bool false), (.bool false), (.bool false), (.bool false), (.bool false), (.bool false), (.bool false), (.bool false), (.bool false), (.bool false), (.bool false), (.bool false), (.bool false), (.bool false), (.bool false), (.bool false), (.bool false), (.bool false), (.bool false), (.bool false), (.bool false), (.bool false), (.bool false), (.bool false), (.bool false), (.bool false), (.bool false), (.bool false), (.bool false), (.bool false), (.bool false), (.bool false), (.bool false), (.bool false), (.bool false), (.bool false), (.bool false), (.bool false), (.bool false), (.bool false), (.bool false), (.bool false), (.bool false), (.bool false), (.bool false), (.bool false), (.bool false), (.bool false), (.bool false), (.bool false), (.bool false), (.bool false), (.bool false), (.bool false), (.bool false), (.bool false), (.bool false), (.bool false), (.bool false), (.bool false), (.bool false), (.bool false), (.bool false), (.bool false), (.bool false), (.bool false), (.bool false), (.bool false), (.bool false), (.bool false), (.bool false), (.bool false), (.bool false), (.bool false), (.bool false), (.bool false), (.bool false), (.bool false), (.bool false), (.bool false), (.bool false), (.bool false), (.bool false), (.bool false), (.bool false), (.bool false), (.bool false), (.bool false), (.bool false), (.bool false), (.bool false), (.bool false), (.bool false), (.bool false), (.bool false), (.bool false), (.bool false), (.bool false), (.bool false), (.bool false), (.bool false), (.bool false), (.bool false), (.bool false), (.bool false), (.bool false), (.bool false), (.bool false), (.bool false), (.bool false), (.bool false), (.bool false), (.bool false), (.bool false), (.bool false), (.bool false), (.bool false), (.bool false), (.bool false), (.bool false), (.bool false), (.bool false), (.bool false), (.bool false), (.bool false), (.bool false), (.bool false), (.bool false), (.bool false), (.bool false), (.bool false), (.bool false), (.bool false), (.bool false), (.bool false), (.bool false), (.bool false), (.bool false), (.bool false), (.bool false), (.bool false), (.bool false), (.bool false), (.bool false), (.bool false), (.bool false), (.bool false), (.bool false), (.bool false), (.bool false), (.bool false)] h_1) fun as5 h_2 =>
 OH (oStore 256 h_2 as5 x32) fun _ h_3 =>
 IfP x33
 (CallP P 71 [s0, as5] h_3 fun x36 h_4 =>
 CallP P 70 [x36, as5] h_4 fun x37 h_5 =>
 K x37 h_5)
 (CallP P 73 [s0, cutset1] h_3 fun x40 h_4 =>
 CallP P 72 [x40, cutset1] h_4 fun x42 h_5 =>
 K x42 h_5))) := (CutP_def _ _ _ _).trans (by kernel_rfl)
theorem q58z12 (s0 cutset1 x17 : Value) (h : Heap) : p58z12 P K s0 cutset1 x17 h =
 (GdP x17 true
 (OP (iIdxS cutset1 (.int .i64 (0))) fun x19 =>
 OP (iBin .lss x19 (.int .u8 (128))) fun x20 =>
 p58z14 P K s0 cutset1 x17 x20 h)
 (p58z14 P K s0 cutset1 x17 undef h)) := (CutP_def _ _ _ _).trans (by kernel_rfl)
def T58 (s0 cutset1 : Value) (h : Heap) : Prop :=
 OP (iBin .eql s0 (.string ⟨#[]⟩)) fun x8 =>
 p58z5 P K s0 cutset1 x8 h
theorem e58 (s0 cutset1 : Value) (h : Heap) : iwpP P c58 (bodyP [.tmp 4] K) (frame0 [s0, cutset1]) h = T58 P K s0 cutset1 h := by kernel_rfl
theorem f58 {K : VK} {s0 cutset1 : Value} {h : Heap} (H : T58 Tryd.prog K s0 cutset1 h) : CallP Tryd.prog 58 [s0, cutset1] h K :=
 callP_intro k58 (Nat.le_of_ble_eq_true rfl) ((e58 Tryd.prog K s0 cutset1 h).mpr H)
/-! F59: slices.Index[[]string,string] -/
noncomputable def c59z5 : ICode := .seq (.ops none [⟨(some 9), .p (.bin .lss (.tmp 8) (.tmp 7))⟩])
 (.seq (.cond (.tmp 9) (.skip)
 (.exit 0))
 (.seq (.block 1 (.seq (.ops none [⟨(some 10), .p (.mv (.tmp 8))⟩,
 ⟨(some 5), .p (.mv (.tmp 10))⟩])
 (.seq (.ops none [⟨(some 11), .p (.mv (.tmp 1))⟩,
 ⟨(some 12), .p (.mv (.tmp 0))⟩,
 ⟨(some 13), .p (.mv (.tmp 5))⟩,
 ⟨(some 14), .p (.adrSl 1 (.tmp 12) (.tmp 13))⟩,
 ⟨(some 15), .l (.load false 1 (.tmp 14))⟩,
 ⟨(some 16), .p (.bin .eql (.tmp 11) (.tmp 15))⟩])
 (.cond (.tmp 16) (.seq (.ops none [⟨(some 17), .p (.mv (.tmp 5))⟩,
 ⟨(some 4), .p (.mv (.tmp 17))⟩])
 (.ret))
 (.skip)))))
 (.ops none [⟨(some 18), .p (.bin .add (.tmp 8) (.const (.int .i64 (1))))⟩,
 ⟨(some 8), .p (.mv (.tmp 18))⟩])))
noncomputable def c59z2 : ICode := .seq (.ops none [⟨(some 4), .p (.mv (.const (.int .i64 (-1))))⟩])
 (.ret)
noncomputable def c59 : ICode := .seq (.ops none [⟨(some 4), .p (.mv (.const (.int .i64 (0))))⟩])
 (.seq (.seq (.ops none [⟨(some 6), .p (.mv (.tmp 0))⟩,
 ⟨(some 7), .p (.lenSl (.tmp 6))⟩,
 ⟨(some 8), .p (.mv (.const (.int .i64 (0))))⟩])
 (.block 0 (.loop [0, 1, 7] [8] c59z5))) c59z2)
theorem k59 : compFn Tryd.prog 59 [[], [], [0, 1, 7], [8], [], [], [], [], [], [], [], []] = some (19, c59, [.tmp 4]) := by kernel_rfl
def K59z0 (_P : Program) (K : VK) : Kont := bodyP [.tmp 4] K
def K59z2 : Kont := thenK (iwpP P c59z2 (K59z0 P K)) (K59z0 P K)
def K59z4 : Kont := inBlockK 0 (K59z2 P K)
def K59z5 (s0 v1 x7 : Value) (L1 : LK) : Kont := thenK (fun f' h'' => (([0, 1, 7] : List Nat).map f' : List Value) = [s0, v1, x7] ∧ L1 (([8] : List Nat).map f') h'') (K59z4 P K)
def p59z5 (s0 v1 x7 : Value) (L1 : LK) (xs : List Value) (h : Heap) : Prop := CutP (iwpP P c59z5 (K59z5 P K s0 v1 x7 L1)) ([0, 1, 7] ++ [8]) ([s0, v1, x7] ++ xs) h
theorem q59z5 (s0 v1 x7 : Value) (L1 : LK) (x8 : Value) (h : Heap) : p59z5 P K s0 v1 x7 L1 [x8] h =
 (OP (iBin .lss x8 x7) fun x9 =>
 IfP x9
 (OP (iAdrSl 1 s0 x8) fun x14 =>
 OP (iLoad false 1 h x14) fun x15 =>
 OP (iBin .eql v1 x15) fun x16 =>
 IfP x16
 (K x8 h)
 (OP (iBin .add x8 (.int .i64 (1))) fun x18 =>
 ([s0, v1, x7] : List Value) = [s0, v1, x7] ∧ L1 [x18] h))
 (K (.int .i64 (-1)) h)) := (CutP_def _ _ _ _).trans (by kernel_rfl)
def T59 (s0 v1 : Value) (h : Heap) : Prop :=
 OP (iLenSl s0) fun x7 =>
 LoopP [(.int .i64 (0))] h fun L1 xs hx =>
 p59z5 P K s0 v1 x7 L1 xs hx
theorem e59 (s0 v1 : Value) (h : Heap) : iwpP P c59 (bodyP [.tmp 4] K) (frame0 [s0, v1]) h = T59 P K s0 v1 h := by kernel_rfl
theorem f59 {K : VK} {s0 v1 : Value} {h : Heap} (H : T59 Tryd.prog K s0 v1 h) : CallP Tryd.prog 59 [s0, v1] h K :=
 callP_intro k59 (Nat.le_of_ble_eq_true rfl) ((e59 Tryd.prog K s0 v1 h).mpr H)
/-! F69: strings.makeASCIISet -/
/-! F70: strings.trimLeftASCII -/
noncomputable def c70z4 : ICode := .seq (.seq (.ops none [⟨(some 5), .p (.mv (.tmp 0))⟩,
 ⟨(some 6), .p (.lenS (.tmp 5))⟩,
 ⟨(some 7), .p (.bin .gtr (.tmp 6) (.const (.int .i64 (0))))⟩])
 (.cond (.tmp 7) (.skip)
 (.exit 0)))
 (.block 1 (.seq (.seq (.ops none [⟨(some 8), .p (.mv (.tmp 1))⟩,
 ⟨(some 9), .p (.mv (.tmp 0))⟩,
 ⟨(some 10), .p (.idxS (.tmp 9) (.const (.int .i64 (0))))⟩,
 ⟨(some 11), .call 87 [(.tmp 8), (.tmp 10)]⟩,
 ⟨(some 12), .p (.un .not (.tmp 11))⟩])
 (.cond (.tmp 12) (.exit 0)
 (.skip)))
 (.ops none [⟨(some 13), .p (.mv (.tmp 0))⟩,
 ⟨(some 14), .p (.slS (.tmp 13) (some (.const (.int .i64 (1)))) none)⟩,
 ⟨(some 0), .p (.mv (.tmp 14))⟩])))
noncomputable def c70z10 : ICode := .seq (.ops none [⟨(some 15), .p (.mv (.tmp 0))⟩,
 ⟨(some 4), .p (.mv (.tmp 15))⟩])
 (.ret)
noncomputable def c70z2 : ICode := .cut [0] c70z10
noncomputable def c70 : ICode := .seq (.ops none [⟨(some 4), .p (.mv (.const (.string ⟨#[]⟩)))⟩])
 (.seq (.block 0 (.loop [1] [0] c70z4)) c70z2)
theorem k70 : compFn Tryd.prog 70 [[], [1], [0], [], [], [], [], [0], []] = some (16, c70, [.tmp 4]) := by kernel_rfl
def K70z0 (_P : Program) (K : VK) : Kont := bodyP [.tmp 4] K
def K70z2 : Kont := thenK (iwpP P c70z2 (K70z0 P K)) (K70z0 P K)
def K70z3 : Kont := inBlockK 0 (K70z2 P K)
def K70z4 (as1 : Value) (L1 : LK) : Kont := thenK (fun f' h'' => (([1] : List Nat).map f' : List Value) = [as1] ∧ L1 (([0] : List Nat).map f') h'') (K70z3 P K)
def p70z4 (as1 : Value) (L1 : LK) (xs : List Value) (h : Heap) : Prop := CutP (iwpP P c70z4 (K70z4 P K as1 L1)) ([1] ++ [0]) ([as1] ++ xs) h
def p70z10 (s0 : Value) (h : Heap) : Prop := CutP (iwpP P c70z10 (K70z0 P K)) [0] [s0] h
theorem q70z4 (as1 : Value) (L1 : LK) (s0 : Value) (h : Heap) : p70z4 P K as1 L1 [s0] h =
 (OP (iLenS s0) fun x6 =>
 OP (iBin .gtr x6 (.int .i64 (0))) fun x7 =>
 IfP x7
 (OP (iIdxS s0 (.int .i64 (0))) fun x10 =>
 CallP P 87 [as1, x10] h fun x11 h_1 =>
 OP (iUn .not x11) fun x12 =>
 IfP x12
 (p70z10 P K s0 h_1)
 (OP (iSlS s0 (some (.int .i64 (1))) none) fun x14 =>
 ([as1] : List Value) = [as1] ∧ L1 [x14] h_1))
 (p70z10 P K s0 h)) := (CutP_def _ _ _ _).trans (by kernel_rfl)
theorem q70z10 (s0 : Value) (h : Heap) : p70z10 P K s0 h =
 (K s0 h) := (CutP_def _ _ _ _).trans (by kernel_rfl)
def T70 (s0 as1 : Value) (h : Heap) : Prop :=
 LoopP [s0] h fun L1 xs hx =>
 p70z4 P K as1 L1 xs hx
theorem e70 (s0 as1 : Value) (h : Heap) : iwpP P c70 (bodyP [.tmp 4] K) (frame0 [s0, as1]) h = T70 P K s0 as1 h := by kernel_rfl
theorem f70 {K : VK} {s0 as1 : Value} {h : Heap} (H : T70 Tryd.prog K s0 as1 h) : CallP Tryd.prog 70 [s0, as1] h K :=
 callP_intro k70 (Nat.le_of_ble_eq_true rfl) ((e70 Tryd.prog K s0 as1 h).mpr H)
/-! F71: strings.trimRightASCII -/
noncomputable def c71z4 : ICode := .seq (.seq (.ops none [⟨(some 5), .p (.mv (.tmp 0))⟩,
 ⟨(some 6), .p (.lenS (.tmp 5))⟩,
 ⟨(some 7), .p (.bin .gtr (.tmp 6) (.const (.int .i64 (0))))⟩])
 (.cond (.tmp 7) (.skip)
 (.exit 0)))
 (.block 1 (.seq (.seq (.ops none [⟨(some 8), .p (.mv (.tmp 1))⟩,
 ⟨(some 9), .p (.mv (.tmp 0))⟩,
 ⟨(some 10), .p (.mv (.tmp 0))⟩,
 ⟨(some 11), .p (.lenS (.tmp 10))⟩,
 ⟨(some 12), .p (.bin .sub (.tmp 11) (.const (.int .i64 (1))))⟩,
 ⟨(some 13), .p (.idxS (.tmp 9) (.tmp 12))⟩,
 ⟨(some 14), .call 87 [(.tmp 8), (.tmp 13)]⟩,
 ⟨(some 15), .p (.un .not (.tmp 14))⟩])
 (.cond (.tmp 15) (.exit 0)
 (.skip)))
 (.ops none [⟨(some 16), .p (.mv (.tmp 0))⟩,
 ⟨(some 17), .p (.mv (.tmp 0))⟩,
 ⟨(some 18), .p (.lenS (.tmp 17))⟩,
 ⟨(some 19), .p (.bin .sub (.tmp 18) (.const (.int .i64 (1))))⟩,
 ⟨(some 20), .p (.slS (.tmp 16) none (some (.tmp 19)))⟩,
 ⟨(some 0), .p (.mv (.tmp 20))⟩])))
noncomputable def c71z10 : ICode := .seq (.ops none [⟨(some 21), .p (.mv (.tmp 0))⟩,
 ⟨(some 4), .p (.mv (.tmp 21))⟩])
 (.ret)
noncomputable def c71z2 : ICode := .cut [0] c71z10
noncomputable def c71 : ICode := .seq (.ops none [⟨(some 4), .p (.mv (.const (.string ⟨#[]⟩)))⟩])
 (.seq (.block 0 (.loop [1] [0] c71z4)) c71z2)
theorem k71 : compFn Tryd.prog 71 [[], [1], [0], [], [], [], [], [0], []] = some (22, c71, [.tmp 4]) := by kernel_rfl
def K71z0 (_P : Program) (K : VK) : Kont := bodyP [.tmp 4] K
def K71z2 : Kont := thenK (iwpP P c71z2 (K71z0 P K)) (K71z0 P K)
def K71z3 : Kont := inBlockK 0 (K71z2 P K)
def K71z4 (as1 : Value) (L1 : LK) : Kont := thenK (fun f' h'' => (([1] : List Nat).map f' : List Value) = [as1] ∧ L1 (([0] : List Nat).map f') h'') (K71z3 P K)
def p71z4 (as1 : Value) (L1 : LK) (xs : List Value) (h : Heap) : Prop := CutP (iwpP P c71z4 (K71z4 P K as1 L1)) ([1] ++ [0]) ([as1] ++ xs) h
def p71z10 (s0 : Value) (h : Heap) : Prop := CutP (iwpP P c71z10 (K71z0 P K)) [0] [s0] h
theorem q71z4 (as1 : Value) (L1 : LK) (s0 : Value) (h : Heap) : p71z4 P K as1 L1 [s0] h =
 (OP (iLenS s0) fun x6 =>
 OP (iBin .gtr x6 (.int .i64 (0))) fun x7 =>
 IfP x7
 (OP (iLenS s0) fun x11 =>
 OP (iBin .sub x11 (.int .i64 (1))) fun x12 =>
 OP (iIdxS s0 x12) fun x13 =>
 CallP P 87 [as1, x13] h fun x14 h_1 =>
 OP (iUn .not x14) fun x15 =>
 IfP x15
 (p71z10 P K s0 h_1)
 (OP (iLenS s0) fun x18 =>
 OP (iBin .sub x18 (.int .i64 (1))) fun x19 =>
 OP (iSlS s0 none (some x19)) fun x20 =>
 ([as1] : List Value) = [as1] ∧ L1 [x20] h_1))
 (p71z10 P K s0 h)) := (CutP_def _ _ _ _).trans (by kernel_rfl)
theorem q71z10 (s0 : Value) (h : Heap) : p71z10 P K s0 h =
 (K s0 h) := (CutP_def _ _ _ _).trans (by kernel_rfl)
def T71 (s0 as1 : Value) (h : Heap) : Prop :=
 LoopP [s0] h fun L1 xs hx =>
 p71z4 P K as1 L1 xs hx
theorem e71 (s0 as1 : Value) (h : Heap) : iwpP P c71 (bodyP [.tmp 4] K) (frame0 [s0, as1]) h = T71 P K s0 as1 h := by kernel_rfl
theorem f71 {K : VK} {s0 as1 : Value} {h : Heap} (H : T71 Tryd.prog K s0 as1 h) : CallP Tryd.prog 71 [s0, as1] h K :=
 callP_intro k71 (Nat.le_of_ble_eq_true rfl) ((e71 Tryd.prog K s0 as1 h).mpr H)
/-! F87: (*strings.asciiSet).contains -/
noncomputable def c87 : ICode := .seq (.ops none [⟨(some 4), .p (.mv (.const (.bool false)))⟩])
 (.seq (.ops none [⟨(some 5), .p (.mv (.tmp 0))⟩,
 ⟨(some 6), .p (.mv (.tmp 1))⟩,
 ⟨(some 7), .p (.nilck (.tmp 5))⟩,
 ⟨(some 8), .p (.adrArr 256 1 (.tmp 7) (.tmp 6))⟩,
 ⟨(some 9), .l (.load false 1 (.tmp 8))⟩,
 ⟨(some 4), .p (.mv (.tmp 9))⟩])
 (.ret))
theorem k87 : compFn Tryd.prog 87 [[], []] = some (10, c87, [.tmp 4]) := by kernel_rfl
def T87 (P : Program) (K : VK) (as0 c1 : Value) (h : Heap) : Prop :=
 OP (iNilck as0) fun x7 =>
 OP (iAdrArr 256 1 x7 c1) fun x8 =>
 OP (iLoad false 1 h x8) fun x9 =>
 K x9 h
theorem e87 (as0 c1 : Value) (h : Heap) : iwpP P c87 (bodyP [.tmp 4] K) (frame0 [as0, c1]) h = T87 P K as0 c1 h := by kernel_rfl
theorem f87 {K : VK} {as0 c1 : Value} {h : Heap} (H : T87 Tryd.prog K as0 c1 h) : CallP Tryd.prog 87 [as0, c1] h K :=
 callP_intro k87 (Nat.le_of_ble_eq_true rfl) ((e87 Tryd.prog K as0 c1 h).mpr H)
end Go.Proofs.YthplaillblmgfaaDoor
