/- For all lists of steps the law IndexTells answers true, and its arguments read afterwards as they did. No condition. -/
import Derived.Test.YtjidelngljpbdaaRows
import Derived.Test.YtjidelngljpbdaaIv
import Derived.Test.YtjidelngljpbdaaIr
set_option linter.constructorNameAsVariable false
namespace Go.Proofs.Ytjidelngljpbdaa.Am
open Go Go.Proofs

theorem tells_law {B : Nat} (xs : List D) (h : ArgsFit Try.prog B [29] xs) : callA Try.prog 4 (xs.map .d) [] fun r _ => r = .d (.bool true) := by
  obtain ⟨x0, r0, rfl, h0, h⟩ := h
  cases h
  obtain ⟨ss, rfl⟩ := fit_steps h0
  exact tells4 ss
end Go.Proofs.Ytjidelngljpbdaa.Am

namespace Go.Proofs.Ytjidelngljpbdaa
open Go.ChangeShapes Go.WideShapes Go.ChangeAt Go.RowKit

theorem tellsOwn : ownKnob Try.prog.godebug = none := by kernel_rfl
theorem tellsLaid : laidOutB Try.prog = true := by kernel_rfl

set_option maxRecDepth 100000 in
theorem tells_lifted (os : Os) (started : os.Started) (H : Type) (enc : TypeId × Value → H) :
    ReturnsInHanded {} Try.checked os 4 .any (Rows.indexTellsSpec.pre6 enc Try.prog Try.f4 Rows.indexTellsRow.domain false) (Rows.indexTellsSpec.post enc Try.prog Try.f4 false true false false) := by
  refine returnsInHanded_of_change (C := Try.checked) tellsOwn started (by kernel_rfl) Try.func4
    (ChangeSpec.witness6 (enc := enc) (C := Try.checked) false ⟨#[], #[.slice none 0 0], []⟩ 8 (by kernel_rfl) (by kernel_rfl) (by kernel_rfl) (by kernel_rfl)) ?_
  intro W base args ds gs before hval hW hcnd _
  have h3 : ∃ d0, ds = [d0] := by
    obtain ⟨p, q, hA0, _⟩ := hW
    have hA : DataW.TrodAll enc Try.prog W 0 (fun _ => true) true [29] args.toList ds p := hA0
    obtain ⟨v0, vs0, d0, ds0, p0, q0, _, rfl, rfl, _, r0⟩ := trodAll_cons hA
    obtain ⟨rfl, rfl, rfl⟩ := trodAll_nil r0
    exact ⟨d0, rfl⟩
  obtain ⟨d0, rfl⟩ := h3
  refine Am.law_calls (B := maxLen) tellsLaid (fun t ht => ?_) rfl rfl Try.underlying4 (fun xs h => Am.tells_law xs h) hval hW rfl rfl rfl (.inl (Nat.le_refl _))
  have : t = 29 := by
    have ht' : t ∈ [29] := ht
    simpa using ht'
  subst this
  exact ⟨by kernel_rfl, by kernel_rfl, of_decide_eq_true (by kernel_rfl)⟩

theorem indexTells_holds : Rows.IndexTellsSaid :=
  OpenClaim.holds_of_wide 4 Try.f4 rfl rfl rfl rfl rfl rfl rfl ⟨rfl, rfl, rfl, rfl, rfl⟩ rfl rfl rfl rfl rfl (by kernel_rfl) Try.func4 (by kernel_rfl)
    (of_decide_eq_true (by kernel_rfl)) (by unfold Func.isWrapper; first | (rw [if_pos (by decide +kernel)]; kernel_rfl) | (rw [if_neg (by decide +kernel)]; exact ⟨rfl, rfl⟩))
    (fun os started H enc _ => tells_lifted os started H enc)
end Go.Proofs.Ytjidelngljpbdaa
