/- The listed package-level variables, with what their cells hold: none. -/
import Derived.Test.YtchgfpehcjomeaaGreatDoorAmD
namespace Go.Proofs.YtchgfpehcjomeaaGreatDoor.Am
open Go
def globs : Nat → Option (List D) := fun _ => none
end Go.Proofs.YtchgfpehcjomeaaGreatDoor.Am
