/- What the types of the index laws' arguments hold. -/
import Derived.Test.YtjidelngljpbdaaIp
import Derived.Test.YtjidelngljpbdaaAmC
set_option linter.constructorNameAsVariable false
namespace Go.Proofs.Ytjidelngljpbdaa.Am
open Go Go.Proofs

def okSteps : Option (List Sh) → Bool
  | some [.lst 4 true [.int .i64, .str, .str, .lst 1 false [.str]]] => true
  | _ => false
def okWords : Option (List Sh) → Bool
  | some [.lst 1 false [.str]] => true
  | _ => false
theorem okSteps_eq {x : Option (List Sh)} (h : okSteps x = true) : x = some [.lst 4 true [.int .i64, .str, .str, .lst 1 false [.str]]] := by
  unfold okSteps at h
  split at h
  · rfl
  · cases h
theorem okWords_eq {x : Option (List Sh)} (h : okWords x = true) : x = some [.lst 1 false [.str]] := by
  unfold okWords at h
  split at h
  · rfl
  · cases h
theorem shSteps : shapes Try.prog 12 29 = some [.lst 4 true [.int .i64, .str, .str, .lst 1 false [.str]]] := okSteps_eq (by kernel_rfl)
theorem shWords : shapes Try.prog 12 23 = some [.lst 1 false [.str]] := okWords_eq (by kernel_rfl)
theorem ag29 : aggT Try.prog 29 = false := by kernel_rfl
theorem ag23 : aggT Try.prog 23 = false := by kernel_rfl

theorem strs_of {B : Nat} : ∀ (es : List D), (∀ e ∈ es, Fits B [.str] [e]) → ∃ ws : List W, es = ws.map .str
  | [], _ => ⟨[], rfl⟩
  | e :: es, h => by
    obtain ⟨d, t, e1, h6, h7⟩ := h e (by simp)
    cases e1
    obtain ⟨s, rfl, _⟩ := h6
    obtain ⟨ws, rfl⟩ := strs_of es fun e he => h e (by simp [he])
    exact ⟨s :: ws, rfl⟩
theorem words_fit {B : Nat} {d : D} (h : Fit B (.lst 1 false [.str]) d) : ∃ ws : List W, d = .lst 1 (ws.map .str) := by
  obtain ⟨es, rfl, _, h5⟩ := h
  obtain ⟨ws, rfl⟩ := strs_of es h5
  exact ⟨ws, rfl⟩
theorem steps_of {B : Nat} : ∀ (es : List D), (∀ e ∈ es, ∃ cs, e = .agg cs ∧ Fits B [.int .i64, .str, .str, .lst 1 false [.str]] cs) → ∃ ss : List StepI, es = ss.map stD
  | [], _ => ⟨[], rfl⟩
  | e :: es, h => by
    obtain ⟨cs, rfl, h6⟩ := h e (by simp)
    obtain ⟨d0, t0, rfl, ⟨n, rfl, _⟩, h6⟩ := h6
    obtain ⟨d1, t1, rfl, ⟨id, rfl, _⟩, h6⟩ := h6
    obtain ⟨d2, t2, rfl, ⟨tx, rfl, _⟩, h6⟩ := h6
    obtain ⟨d3, t3, rfl, h7, h6⟩ := h6
    cases h6
    obtain ⟨ws, rfl⟩ := words_fit h7
    obtain ⟨ss, rfl⟩ := steps_of es fun e he => h e (by simp [he])
    exact ⟨(n, id, tx, ws) :: ss, rfl⟩
theorem fit_steps {B : Nat} {x : D} (h : ArgFit Try.prog B 29 x) : ∃ ss : List StepI, x = .lst 4 (ss.map stD) := by
  obtain ⟨shs, h1, h2⟩ := h
  rw [shSteps] at h1; cases h1
  have ag := ag29
  rw [ag] at h2
  obtain ⟨d, t, e, h3, h4⟩ := h2
  cases e
  obtain ⟨es, rfl, _, h5⟩ := h3
  obtain ⟨ss, rfl⟩ := steps_of es h5
  exact ⟨ss, rfl⟩
theorem fit_words {B : Nat} {x : D} (h : ArgFit Try.prog B 23 x) : ∃ ws : List W, x = .lst 1 (ws.map .str) := by
  obtain ⟨shs, h1, h2⟩ := h
  rw [shWords] at h1; cases h1
  have ag := ag23
  rw [ag] at h2
  obtain ⟨d, t, e, h3, h4⟩ := h2
  cases e
  exact words_fit h3
end Go.Proofs.Ytjidelngljpbdaa.Am
