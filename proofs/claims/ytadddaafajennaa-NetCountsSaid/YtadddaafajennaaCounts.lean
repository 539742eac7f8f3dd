/- For all lists of steps and all two servers the law NetCounts answers true, and its arguments read afterwards as they did. No condition. -/
import Derived.Test.YtadddaafajennaaRows
import Derived.Test.YtadddaafajennaaNo
import Derived.Test.YtadddaafajennaaAmC
set_option linter.constructorNameAsVariable false
namespace Go.Proofs.Ytadddaafajennaa.Am
open Go Go.Proofs

/-- What the types of the law's arguments hold. -/
def isI : Option Sh → Bool
  | some (.int .i64) => true
  | _ => false
theorem isI_eq {x : Option Sh} (h : isI x = true) : x = some (.int .i64) := by
  unfold isI at h
  split at h
  · rfl
  · cases h
def okSteps : Option (List Sh) → Bool
  | some [.lst 38 true l] => isI l[0]? && (isI l[3]? && l.length == 38)
  | _ => false
def okInt : Option (List Sh) → Bool
  | some [.int .i64] => true
  | _ => false
theorem okInt_eq {x : Option (List Sh)} (h : okInt x = true) : x = some [.int .i64] := by
  unfold okInt at h
  split at h
  · rfl
  · cases h
theorem okSteps_eq {x : Option (List Sh)} (h : okSteps x = true) : ∃ l, x = some [.lst 38 true l] ∧ l[0]? = some (.int .i64) ∧ l[3]? = some (.int .i64) ∧ l.length = 38 := by
  unfold okSteps at h
  split at h
  · rename_i l
    simp only [Bool.and_eq_true, beq_iff_eq] at h
    exact ⟨l, rfl, isI_eq h.1, isI_eq h.2.1, h.2.2⟩
  · cases h
theorem shInt : shapes Try.prog 12 3 = some [.int .i64] := okInt_eq (by kernel_rfl)
theorem shSteps : ∃ l, shapes Try.prog 12 22 = some [.lst 38 true l] ∧ l[0]? = some (.int .i64) ∧ l[3]? = some (.int .i64) ∧ l.length = 38 := okSteps_eq (by kernel_rfl)

theorem ag3 : aggT Try.prog 3 = false := by kernel_rfl
theorem ag22 : aggT Try.prog 22 = false := by kernel_rfl
theorem fit_int {B : Nat} {x : D} (h : ArgFit Try.prog B 3 x) : ∃ n, x = .int .i64 n := by
  obtain ⟨shs, h1, h2⟩ := h
  rw [shInt] at h1; cases h1
  have ag := ag3
  rw [ag] at h2
  obtain ⟨d, t, e, h3, h4⟩ := h2
  cases e
  obtain ⟨n, rfl, _⟩ := h3
  exact ⟨n, rfl⟩

theorem fit_steps {B : Nat} {x : D} (h : ArgFit Try.prog B 22 x) : ∃ es, x = .lst 38 es ∧ ∀ e ∈ es, StepD e := by
  obtain ⟨shs, h1, h2⟩ := h
  obtain ⟨l, g1, g2, g3, g4⟩ := shSteps
  rw [g1] at h1; cases h1
  have ag := ag22
  rw [ag] at h2
  obtain ⟨d, t, e, h3, h4⟩ := h2
  cases e
  obtain ⟨es, rfl, _, h5⟩ := h3
  refine ⟨es, rfl, fun e he => ?_⟩
  obtain ⟨cs, rfl, h6⟩ := h5 e he
  obtain ⟨d0, k1, m1⟩ := h6.get 0 g2
  obtain ⟨d3, k2, m2⟩ := h6.get 3 g3
  obtain ⟨n0, rfl, _⟩ := m1
  obtain ⟨n3, rfl, _⟩ := m2
  exact ⟨cs, n0, n3, rfl, by rw [h6.length, g4], k1, k2⟩

theorem counts_law {B : Nat} (xs : List D) (h : ArgsFit Try.prog B [22, 3, 3] xs) : callA Try.prog 4 (xs.map .d) [] fun r _ => r = .d (.bool true) := by
  obtain ⟨x0, r0, rfl, h0, h⟩ := h
  obtain ⟨x1, r1, rfl, h1, h⟩ := h
  obtain ⟨x2, r2, rfl, h2, h⟩ := h
  cases h
  obtain ⟨es, rfl, hs⟩ := fit_steps h0
  obtain ⟨f, rfl⟩ := fit_int h1
  obtain ⟨t, rfl⟩ := fit_int h2
  exact counts4 es f t hs
end Go.Proofs.Ytadddaafajennaa.Am

namespace Go.Proofs.Ytadddaafajennaa
open Go.ChangeShapes Go.WideShapes Go.ChangeAt Go.RowKit

theorem countsOwn : ownKnob Try.prog.godebug = none := by kernel_rfl
theorem countsLaid : laidOutB Try.prog = true := by kernel_rfl

set_option maxRecDepth 100000 in
theorem counts_lifted (os : Os) (started : os.Started) (H : Type) (enc : TypeId × Value → H) :
    ReturnsInHanded {} Try.checked os 4 .any (Rows.netCountsSpec.pre6 enc Try.prog Try.f4 Rows.netCountsRow.domain false) (Rows.netCountsSpec.post enc Try.prog Try.f4 false true false false) := by
  refine returnsInHanded_of_change (C := Try.checked) countsOwn started (by kernel_rfl) Try.func4
    (ChangeSpec.witness6 (enc := enc) (C := Try.checked) false ⟨#[], #[.slice none 0 0, .int .i64 0, .int .i64 0], []⟩ 8 (by kernel_rfl) (by kernel_rfl) (by kernel_rfl) (by kernel_rfl)) ?_
  intro W base args ds gs before hval hW hcnd _
  have h3 : ∃ d0 d1 d2, ds = [d0, d1, d2] := by
    obtain ⟨p, q, hA0, _⟩ := hW
    have hA : DataW.TrodAll enc Try.prog W 0 (fun _ => true) true [22, 3, 3] args.toList ds p := hA0
    obtain ⟨v0, vs0, d0, ds0, p0, q0, _, rfl, rfl, _, r0⟩ := trodAll_cons hA
    obtain ⟨v1, vs1, d1, ds1, p1, q1, rfl, rfl, rfl, _, r1⟩ := trodAll_cons r0
    obtain ⟨v2, vs2, d2, ds2, p2, q2, rfl, rfl, rfl, _, r2⟩ := trodAll_cons r1
    obtain ⟨rfl, rfl, rfl⟩ := trodAll_nil r2
    exact ⟨d0, d1, d2, rfl⟩
  obtain ⟨d0, d1, d2, rfl⟩ := h3
  refine Am.law_calls (B := maxLen) countsLaid (fun t ht => ?_) rfl rfl Try.underlying4 (fun xs h => Am.counts_law xs h) hval hW rfl rfl rfl (.inl (Nat.le_refl _))
  have : t = 22 ∨ t = 3 := by
    have ht' : t ∈ [22, 3, 3] := ht
    simpa using ht'
  rcases this with rfl | rfl
  · exact ⟨by kernel_rfl, by kernel_rfl, of_decide_eq_true (by kernel_rfl)⟩
  · exact ⟨by kernel_rfl, by kernel_rfl, of_decide_eq_true (by kernel_rfl)⟩

theorem netCounts_holds : Rows.NetCountsSaid :=
  OpenClaim.holds_of_wide 4 Try.f4 rfl rfl rfl rfl rfl rfl rfl ⟨rfl, rfl, rfl, rfl, rfl⟩ rfl rfl rfl rfl rfl (by kernel_rfl) Try.func4 (by kernel_rfl)
    (of_decide_eq_true (by kernel_rfl)) (by unfold Func.isWrapper; first | (rw [if_pos (by decide +kernel)]; kernel_rfl) | (rw [if_neg (by decide +kernel)]; exact ⟨rfl, rfl⟩))
    (fun os started H enc _ => counts_lifted os started H enc)
end Go.Proofs.Ytadddaafajennaa
