/- The small examples: a verdict. -/
import Derived.Test.YteafabpedfgedaaGreatDoorZ27
import Derived.KernelRfl
set_option maxRecDepth 100000
namespace Go.Proofs.YteafabpedfgedaaGreatDoor.Am
open Go Go.Proofs

theorem compile83 : callA Tryz.prog 83 ([lRU].map .d) [] fun r τ => r = .agg ((cellsD lCO).map .d) ∧ τ = [] := run_okK nat5s_ok tabOk 60 (by kernel_rfl)
end Go.Proofs.YteafabpedfgedaaGreatDoor.Am
