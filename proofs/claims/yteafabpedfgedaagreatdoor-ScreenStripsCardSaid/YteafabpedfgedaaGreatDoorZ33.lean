/- The small examples: a verdict. -/
import Derived.Test.YteafabpedfgedaaGreatDoorZ27
import Derived.KernelRfl
set_option maxRecDepth 100000
namespace Go.Proofs.YteafabpedfgedaaGreatDoor.Am
open Go Go.Proofs

theorem parse81 : callA Tryz.prog 81 ([.str [119, 104, 101, 110, 32, 119, 111, 114, 100, 40, 34, 98, 117, 121, 34, 41, 32, 97, 110, 100, 32, 97, 103, 101, 32, 62, 32, 50, 32, 116, 104, 101, 110, 32, 108, 105, 109, 105, 116, 32, 34, 97, 100, 34, 32, 100, 101, 102, 97, 117, 108, 116, 32, 115, 104, 111, 119]].map .d) [] fun r τ => r = .tup [.agg ((cellsD lRU).map .d), .d (.int .i64 0), .d (.int .i64 0)] ∧ τ = [] := run_okK nat5s_ok tabOk 60 (by kernel_rfl)
end Go.Proofs.YteafabpedfgedaaGreatDoor.Am
