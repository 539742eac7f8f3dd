/- The small examples: the verdict by a rule. -/
import Derived.Test.YteafabpedfgedaaGreatDoorZ32
import Derived.Test.YteafabpedfgedaaGreatDoorZ33
import Derived.Test.YteafabpedfgedaaGreatDoorZ34
import Derived.Test.YteafabpedfgedaaGreatDoorZ35
import Derived.KernelRfl
set_option maxRecDepth 100000
namespace Go.Proofs.YteafabpedfgedaaGreatDoor.Am
open Go Go.Proofs

def lSrc : D := .str [119, 104, 101, 110, 32, 119, 111, 114, 100, 40, 34, 98, 117, 121, 34, 41, 32, 97, 110, 100, 32, 97, 103, 101, 32, 62, 32, 50, 32, 116, 104, 101, 110, 32, 108, 105, 109, 105, 116, 32, 34, 97, 100, 34, 32, 100, 101, 102, 97, 117, 108, 116, 32, 115, 104, 111, 119]
def kn5 : Kn := [
  (84, [lK2, lCS0, .int .i64 0, .str [120], lP0, .int .i64 5], .agg ((cellsD lFA).map .d)),
  (81, [lSrc], .tup [.agg ((cellsD lRU).map .d), .d (.int .i64 0), .d (.int .i64 0)]),
  (83, [lRU], .agg ((cellsD lCO).map .d)),
  (82, [lRU, lCO, lFA], .agg ((cellsD lRN).map .d))]
theorem kn5_ok : KnOk Tryz.prog kn5 :=
  (((KnOk.nil _).cons (fun n => embV_agg _ n) run82).cons (fun n => embV_agg _ n) compile83).cons (fun n => by simp only [embV, renV, renVs]; rfl) parse81 |>.cons (fun n => embV_agg _ n) facts84
noncomputable def nat6 : Nat' := knN kn5 nat5s
theorem nat6_ok : CallOk Tryz.prog nat6 := knN_ok kn5_ok nat5s_ok
theorem verdict5 : callA Tryz.prog 10 ([lK2, lCS0, .int .i64 0, .str [120], lI0, .int .i64 5].map .d) [] fun r τ => r = .tup ((cellsD lV5).map .d) ∧ τ = [] := run_okK nat6_ok tabOk 60 (by kernel_rfl)
end Go.Proofs.YteafabpedfgedaaGreatDoor.Am
