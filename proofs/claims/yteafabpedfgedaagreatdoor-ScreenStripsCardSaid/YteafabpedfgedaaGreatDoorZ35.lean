/- The small examples: a verdict. -/
import Derived.Test.YteafabpedfgedaaGreatDoorZ27
import Derived.KernelRfl
set_option maxRecDepth 100000
namespace Go.Proofs.YteafabpedfgedaaGreatDoor.Am
open Go Go.Proofs

theorem run82 : callA Tryz.prog 82 ([lRU, lCO, lFA].map .d) [] fun r τ => r = .agg ((cellsD lRN).map .d) ∧ τ = [] := run_okK nat5s_ok tabOk 60 (by kernel_rfl)
end Go.Proofs.YteafabpedfgedaaGreatDoor.Am
