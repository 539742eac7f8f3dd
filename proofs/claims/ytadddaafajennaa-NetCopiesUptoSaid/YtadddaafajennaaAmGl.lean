/- The listed package-level variables, with what their cells hold: none. -/
import Derived.Test.YtadddaafajennaaAmD
namespace Go.Proofs.Ytadddaafajennaa.Am
open Go
def globs : Nat → Option (List D) := fun _ => none
end Go.Proofs.Ytadddaafajennaa.Am
