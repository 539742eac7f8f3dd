/- The small examples: a verdict. -/
import Derived.Test.YteafabpedfgedaaGreatDoorZ27
import Derived.KernelRfl
set_option maxRecDepth 100000
namespace Go.Proofs.YteafabpedfgedaaGreatDoor.Am
open Go Go.Proofs

theorem verdict2 : callA Tryz.prog 10 ([lK0, lCS0, .int .i64 0, .str [120], .str [110, 111, 110, 101], .int .i64 5].map .d) [] fun r τ => r = .tup ((cellsD lV2).map .d) ∧ τ = [] := run_okK nat5s_ok tabOk 60 (by kernel_rfl)
end Go.Proofs.YteafabpedfgedaaGreatDoor.Am
