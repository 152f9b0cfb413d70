/-
  The document's examples hold: reckoned, the decomposition being known by its contract.
-/
import Derived.Test.YtelmdbpaoifmoaaEvH
import Derived.Test.YtelmdbpaoifmoaaMge
import Derived.Test.YtelmdbpaoifmoaaMgm
namespace Go.Proofs.Ytelmdbpaoifmoaa
open Go.Sim

/-- A plan of two jobs, the second after the first. -/
def okPlan (h : Heap) (i : Nat) : Bool :=
  match objCells h i with
  | some [.slice (some ⟨a, 0, some _⟩) 2 2, .slice (some ⟨b, 0, some _⟩) 2 2] =>
    (match objCells h a with | some xs => veqL xs [I 3, I 1, I 1, I 1] | none => false) && (match objCells h b with | some ys => veqL ys [U 0, U 1] | none => false)
  | _ => false

noncomputable def orc : ECall := fun t args h =>
  match t with
  | .func 38 =>
    match args with
    | [.pointer (some ⟨i, 0, none⟩)] => if okPlan h i = true then some (sl 63 h.length 0 1, h ++ [.arr 63 [U 3]]) else none
    | _ => none
  | _ => none

theorem sid2 : SidP [0, 1] [(3, 1), (1, 1)] 2 0 [3] := by
  have all4 : ∀ x, x < 2 ^ 2 → x = 0 ∨ x = 1 ∨ x = 2 ∨ x = 3 := by intro x hx; omega
  have e1 : wS [(3, 1), (1, 1)] 1 = 1 ∧ lS [(3, 1), (1, 1)] 1 = 3 := by decide
  have e3 : wS [(3, 1), (1, 1)] 3 = 2 ∧ lS [(3, 1), (1, 1)] 3 = 4 := by decide
  refine ⟨⟨⟨⟨by decide, by decide, by decide, by decide⟩, fun x hx => ?_⟩, fun m hm => ?_⟩, by show (0 ||| 3) = fullS 2; decide⟩
  · rcases all4 x hx.lt with rfl | rfl | rfl | rfl
    · exact absurd rfl hx.ne
    · rw [e1.1, e1.2, e3.1, e3.2]; decide
    · have := hx.cl
      revert this
      decide
    · exact Int.le_refl _
  · rcases all4 m hm.1.lt with rfl | rfl | rfl | rfl <;> decide

theorem orc_sound : CallE Try.prog orc := by
  constructor
  · intro F args h v h' he
    simp only [orc] at he
    split at he
    · rename_i hF
      injection hF with hF
      subst hF
      split at he
      · rename_i i
        split at he
        · rename_i hok
          simp only [Option.some.injEq, Prod.mk.injEq] at he
          obtain ⟨rfl, rfl⟩ := he
          unfold okPlan at hok
          split at hok
          · rename_i hc
            rename_i a ea b eb
            rw [Bool.and_eq_true] at hok
            obtain ⟨ha, hb⟩ := hok
            split at ha
            · rename_i xs hx
              split at hb
              · rename_i ys hy
                have hx' := veqL_eq ha
                have hy' := veqL_eq hb
                subst hx' hy'
                have hpl : PL h (pt i 0) [(3, 1), (1, 1)] [0, 1] := by
                  refine ⟨i, _, _, rfl, hc, ?_, ?_⟩
                  · exact PS.sl (e := ea) (i := a) (ps := [(3, 1), (1, 1)]) hx
                  · exact NS.sl (e := eb) (i := b) (k := .u16) (ns := [0, 1]) (.inr hy) (by decide)
                have hcall := C38 (os := [3]) (n := 2) (K := fun v h'' => v = sl 63 h.length 0 1 ∧ h'' = h ++ [.arr 63 [U 3]]) hpl rfl (by decide) (by decide)
                  (by intro j hj; rcases List.mem_cons.1 hj with rfl | hj; decide; rcases List.mem_cons.1 hj with rfl | hj; decide; simp at hj) rfl (by intro b hb; rcases List.mem_cons.1 hb with rfl | hb; decide; rcases List.mem_cons.1 hb with rfl | hb; decide; simp at hb) sid2 ⟨rfl, rfl⟩
                rw [CallP_eq] at hcall
                obtain ⟨v, h', hc2, rfl, rfl⟩ := hcall
                exact hc2
              · cases hb
            · cases ha
          · cases hok
        · cases he
      · cases he
    · cases he
  · intro i args h v h' he
    simp only [orc] at he
    cases he

end Go.Proofs.Ytelmdbpaoifmoaa
