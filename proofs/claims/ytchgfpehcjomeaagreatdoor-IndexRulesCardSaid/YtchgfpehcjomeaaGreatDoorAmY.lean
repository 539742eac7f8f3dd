/- The engine's small facts, for stores that are variables. -/
import Derived.Test.YtchgfpehcjomeaaGreatDoorAmX
set_option linter.unusedSimpArgs false
set_option linter.unusedVariables false
namespace Go.Proofs.YtchgfpehcjomeaaGreatDoor.Am
open Go

theorem alive_of {σ : List Ob} {o : Nat} {x : Ob} (h : σ[o]? = some x) (hd : x ≠ .dead) : alive σ o = true := by
  unfold alive; rw [h]; cases x <;> simp_all
theorem lt_of_get {σ : List Ob} {o : Nat} {x : Ob} (h : σ[o]? = some x) : o < σ.length := (List.getElem?_eq_some_iff.1 h).1

theorem load_box {P : Program} {t : TypeId} {σ : List Ob} {o k : Nat} {cs : List V} {x : V} (h1 : σ[o]? = some (.box cs)) (h2 : cs[k]? = some x) (ha : aggT P t = false) (ht : okT P t = true) : loadF P t σ (.ptr o 0 k) = some x := by
  obtain ⟨hk, e⟩ := List.getElem?_eq_some_iff.1 h2
  have hd : cs.drop k = x :: cs.drop (k + 1) := by rw [List.drop_eq_getElem_cons hk, e]
  simp only [loadF, h1, takeV, hd, ha, ht, if_true, Bool.false_eq_true, if_false]

theorem app_get {σ : List Ob} {o : Nat} {x : Ob} (h : σ[o]? = some x) (τ : List Ob) : (σ ++ τ)[o]? = some x := by
  rw [List.getElem?_append_left (lt_of_get h)]; exact h
theorem app_end (σ : List Ob) (x : Ob) (τ : List Ob) : (σ ++ x :: τ)[σ.length]? = some x := by simp
theorem set_get {σ : List Ob} {o o' : Nat} {x : Ob} (h : σ[o]? = some x) (hne : o' ≠ o) (y : Ob) : (σ.set o' y)[o]? = some x := by
  rw [List.getElem?_set_ne hne]; exact h
theorem set_at {σ : List Ob} {o : Nat} {x : Ob} (h : σ[o]? = some x) (y : Ob) : (σ.set o y)[o]? = some y := by
  rw [List.getElem?_set_self (lt_of_get h)]
end Go.Proofs.YtchgfpehcjomeaaGreatDoor.Am
