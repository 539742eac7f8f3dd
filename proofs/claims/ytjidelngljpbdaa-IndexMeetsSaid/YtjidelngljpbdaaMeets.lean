/- For all lists of steps and all two lists of words the law IndexMeets answers true, and its arguments read afterwards as they did. No condition. -/
import Derived.Test.YtjidelngljpbdaaRows
import Derived.Test.YtjidelngljpbdaaIw
import Derived.Test.YtjidelngljpbdaaIr
set_option linter.constructorNameAsVariable false
namespace Go.Proofs.Ytjidelngljpbdaa.Am
open Go Go.Proofs

theorem meets_law {B : Nat} (xs : List D) (h : ArgsFit Try.prog B [29, 23, 23] xs) : callA Try.prog 6 (xs.map .d) [] fun r _ => r = .d (.bool true) := by
  obtain ⟨x0, r0, rfl, h0, h⟩ := h
  obtain ⟨x1, r1, rfl, h1, h⟩ := h
  obtain ⟨x2, r2, rfl, h2, h⟩ := h
  cases h
  obtain ⟨sa, rfl⟩ := fit_steps h0
  obtain ⟨v, rfl⟩ := fit_words h1
  obtain ⟨w, rfl⟩ := fit_words h2
  exact meets6 sa v w
end Go.Proofs.Ytjidelngljpbdaa.Am

namespace Go.Proofs.Ytjidelngljpbdaa
open Go.ChangeShapes Go.WideShapes Go.ChangeAt Go.RowKit

theorem meetsOwn : ownKnob Try.prog.godebug = none := by kernel_rfl
theorem meetsLaid : laidOutB Try.prog = true := by kernel_rfl

set_option maxRecDepth 100000 in
theorem meets_lifted (os : Os) (started : os.Started) (H : Type) (enc : TypeId × Value → H) :
    ReturnsInHanded {} Try.checked os 6 .any (Rows.indexMeetsSpec.pre6 enc Try.prog Try.f6 Rows.indexMeetsRow.domain false) (Rows.indexMeetsSpec.post enc Try.prog Try.f6 false true false false) := by
  refine returnsInHanded_of_change (C := Try.checked) meetsOwn started (by kernel_rfl) Try.func6
    (ChangeSpec.witness6 (enc := enc) (C := Try.checked) false ⟨#[], #[.slice none 0 0, .slice none 0 0, .slice none 0 0], []⟩ 8 (by kernel_rfl) (by kernel_rfl) (by kernel_rfl) (by kernel_rfl)) ?_
  intro W base args ds gs before hval hW hcnd _
  have h3 : ∃ d0 d1 d2, ds = [d0, d1, d2] := by
    obtain ⟨p, q, hA0, _⟩ := hW
    have hA : DataW.TrodAll enc Try.prog W 0 (fun _ => true) true [29, 23, 23] args.toList ds p := hA0
    obtain ⟨v0, vs0, d0, ds0, p0, q0, _, rfl, rfl, _, r0⟩ := trodAll_cons hA
    obtain ⟨v1, vs1, d1, ds1, p1, q1, rfl, rfl, rfl, _, r1⟩ := trodAll_cons r0
    obtain ⟨v2, vs2, d2, ds2, p2, q2, rfl, rfl, rfl, _, r2⟩ := trodAll_cons r1
    obtain ⟨rfl, rfl, rfl⟩ := trodAll_nil r2
    exact ⟨d0, d1, d2, rfl⟩
  obtain ⟨d0, d1, d2, rfl⟩ := h3
  refine Am.law_calls (B := maxLen) meetsLaid (fun t ht => ?_) rfl rfl Try.underlying4 (fun xs h => Am.meets_law xs h) hval hW rfl rfl rfl (.inl (Nat.le_refl _))
  have : t = 29 ∨ t = 23 := by
    have ht' : t ∈ [29, 23, 23] := ht
    simpa using ht'
  rcases this with rfl | rfl
  · exact ⟨by kernel_rfl, by kernel_rfl, of_decide_eq_true (by kernel_rfl)⟩
  · exact ⟨by kernel_rfl, by kernel_rfl, of_decide_eq_true (by kernel_rfl)⟩

theorem indexMeets_holds : Rows.IndexMeetsSaid :=
  OpenClaim.holds_of_wide 6 Try.f6 rfl rfl rfl rfl rfl rfl rfl ⟨rfl, rfl, rfl, rfl, rfl⟩ rfl rfl rfl rfl rfl (by kernel_rfl) Try.func6 (by kernel_rfl)
    (of_decide_eq_true (by kernel_rfl)) (by unfold Func.isWrapper; first | (rw [if_pos (by decide +kernel)]; kernel_rfl) | (rw [if_neg (by decide +kernel)]; exact ⟨rfl, rfl⟩))
    (fun os started H enc _ => meets_lifted os started H enc)
end Go.Proofs.Ytjidelngljpbdaa
