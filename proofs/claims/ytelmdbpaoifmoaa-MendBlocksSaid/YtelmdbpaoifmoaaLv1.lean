/-
  The document's examples hold: reckoned, the decomposition being known by its contract.
-/
import Derived.Test.YtelmdbpaoifmoaaLvO
import Derived.Test.YtelmdbpaoifmoaaMge
namespace Go.Proofs.Ytelmdbpaoifmoaa
open Go.Sim

set_option maxHeartbeats 0 in
theorem livesE : (evK Try.prog evH 1000 orc 30 (.func 14) [] []).map Prod.fst = some (.bool true) := by kernel_rfl

theorem C14 {h : Heap} {K : Value → Heap → Prop} (hk : K (.bool true) h) : CallP Try.prog 14 [] h K := by
  obtain ⟨h', hc⟩ := evK_call evH 1000 30 orc_sound livesE
  exact callP_any (Ren.scal rfl) hc rfl hk

end Go.Proofs.Ytelmdbpaoifmoaa
