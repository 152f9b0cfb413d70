/-
  The document's examples hold: reckoned.
-/
import Derived.Test.YtjdlcokhlphmhaaEvH
import Derived.Test.YtjdlcokhlphmhaaSim21
namespace Go.Proofs.Ytjdlcokhlphmhaa
open Go.Sim

theorem livesE : (evF Try.prog evH 1000 30 (.func 20) [] []).map Prod.fst = some (.bool true) := by kernel_rfl

theorem C20 {h : Heap} {K : Value → Heap → Prop} (hk : K (.bool true) h) : CallP Try.prog 20 [] h K := by
  obtain ⟨h', hc⟩ := ev_call evH 1000 30 livesE
  exact callP_any (Ren.scal rfl) hc rfl hk

end Go.Proofs.Ytjdlcokhlphmhaa
