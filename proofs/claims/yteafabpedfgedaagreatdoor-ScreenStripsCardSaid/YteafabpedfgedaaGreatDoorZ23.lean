/- The small examples: the chains. -/
import Derived.Test.YteafabpedfgedaaGreatDoorZ21
import Derived.KernelRfl
set_option maxRecDepth 100000
namespace Go.Proofs.YteafabpedfgedaaGreatDoor.Am
open Go Go.Proofs

theorem chains9 : callA Tryz.prog 9 ([lK0].map .d) [] fun r τ => r = .d lCS0 ∧ τ = [] := run_okK nat5_ok tabOk 60 (by kernel_rfl)
end Go.Proofs.YteafabpedfgedaaGreatDoor.Am
