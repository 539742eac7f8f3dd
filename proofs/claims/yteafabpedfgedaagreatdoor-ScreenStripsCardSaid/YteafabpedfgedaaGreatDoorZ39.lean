/- The closed facts of the row. -/
import Derived.Test.YteafabpedfgedaaGreatDoorZ38
import Derived.JoinedOf
import Derived.SevenTiedAt
set_option maxRecDepth 100000
namespace Go.Proofs.YteafabpedfgedaaGreatDoor
open Go

theorem strips_facts : joinedFacts Tryz.prog 3 Tryz.f3 Rows.screenStripsSpec Rows.screenStripsRow = true := by
  unfold joinedFacts
  rw [inPlace3, unfollowed3, recurses3, vars3]
  kernel_rfl

/-- Where no function has a go statement nothing starts a goroutine. -/
theorem goes_none {P : Program} {c : OpenClaim} (h : P.funcs.toList.all (fun f => !f.goes) = true) (hst : c.start = .entering) : false = c.goesBy P := by
  have hf : ∀ f ∈ P.funcs.toList, f.goes = false := fun f hf => by simpa using List.all_eq_true.1 h f hf
  have h1 : P.funcs.any Func.goes = false := by
    rw [← Array.any_toList, List.any_eq_false]
    intro f hm
    rw [hf f hm]; decide
  have h2 : ∀ g, P.goes g = false := fun g => by
    unfold Program.goes
    rw [h1, Bool.and_false, Bool.or_false, List.any_eq_false]
    intro i _
    cases hi : P.funcs[i]? with
    | none => simp
    | some f =>
      have : f ∈ P.funcs.toList := by
        rw [← Array.getElem?_toList] at hi
        exact List.mem_of_getElem? hi
      simp [hf f this]
  unfold OpenClaim.goesBy Program.goesAt Program.goesFrom
  rw [hst]
  cases P.funcNamed c.func with
  | none => rfl
  | some g => simp [h2]
theorem strips_goes : false = Rows.screenStripsRow.goesBy Tryz.prog := goes_none (by kernel_rfl) rfl
end Go.Proofs.YteafabpedfgedaaGreatDoor
