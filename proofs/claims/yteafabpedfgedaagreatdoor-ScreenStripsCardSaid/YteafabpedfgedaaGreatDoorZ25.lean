/- The small examples: a rule. -/
import Derived.Test.YteafabpedfgedaaGreatDoorZ21
import Derived.KernelRfl
set_option maxRecDepth 100000
namespace Go.Proofs.YteafabpedfgedaaGreatDoor.Am
open Go Go.Proofs

theorem decided2 : callA Tryz.prog 11 ([lK0, .str [115], lJ2].map .d) [] fun r τ => r = .tup [.agg ((cellsD lK2).map .d), .d (.bool true)] ∧ τ = [] := run_okK nat5_ok tabOk 60 (by kernel_rfl)
end Go.Proofs.YteafabpedfgedaaGreatDoor.Am
