/- The small examples: a known set with a post. -/
import Derived.Test.YteafabpedfgedaaGreatDoorZ21
import Derived.KernelRfl
set_option maxRecDepth 100000
namespace Go.Proofs.YteafabpedfgedaaGreatDoor.Am
open Go Go.Proofs

def vK0 : V := .tup [.agg ((cellsD lK0).map .d), .d lI0]
theorem begun8 : callA Tryz.prog 8 ([.str [115]].map .d) [] fun r τ => r = vK0 ∧ τ = [] := run_okK nat5_ok tabOk 60 (by kernel_rfl)
end Go.Proofs.YteafabpedfgedaaGreatDoor.Am
