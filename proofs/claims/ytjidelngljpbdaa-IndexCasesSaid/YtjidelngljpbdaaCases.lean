/- For all texts and all lists of flags the law IndexCases answers true, and its arguments read afterwards as they did. No condition. -/
import Derived.Test.YtjidelngljpbdaaRows
import Derived.Test.YtjidelngljpbdaaIl
import Derived.Test.YtjidelngljpbdaaAmC
set_option linter.constructorNameAsVariable false
namespace Go.Proofs.Ytjidelngljpbdaa.Am
open Go Go.Proofs

/-- What the types of the law's arguments hold. -/
def okStr : Option (List Sh) → Bool
  | some [.str] => true
  | _ => false
def okFlags : Option (List Sh) → Bool
  | some [.lst 1 false [.bool]] => true
  | _ => false
theorem okStr_eq {x : Option (List Sh)} (h : okStr x = true) : x = some [.str] := by
  unfold okStr at h
  split at h
  · rfl
  · cases h
theorem okFlags_eq {x : Option (List Sh)} (h : okFlags x = true) : x = some [.lst 1 false [.bool]] := by
  unfold okFlags at h
  split at h
  · rfl
  · cases h
theorem shStr : shapes Try.prog 12 9 = some [.str] := okStr_eq (by kernel_rfl)
theorem shFlags : shapes Try.prog 12 47 = some [.lst 1 false [.bool]] := okFlags_eq (by kernel_rfl)
theorem ag9 : aggT Try.prog 9 = false := by kernel_rfl
theorem ag47 : aggT Try.prog 47 = false := by kernel_rfl
theorem fit_str {B : Nat} {x : D} (h : ArgFit Try.prog B 9 x) : ∃ s, x = .str s ∧ s.length ≤ B := by
  obtain ⟨shs, h1, h2⟩ := h
  rw [shStr] at h1; cases h1
  have ag := ag9
  rw [ag] at h2
  obtain ⟨d, t, e, h3, h4⟩ := h2
  cases e
  obtain ⟨s, rfl, hs⟩ := h3
  exact ⟨s, rfl, hs⟩
theorem fit_flags {B : Nat} {x : D} (h : ArgFit Try.prog B 47 x) : ∃ es, x = .lst 1 es ∧ ∀ e ∈ es, ∃ b, e = .bool b := by
  obtain ⟨shs, h1, h2⟩ := h
  rw [shFlags] at h1; cases h1
  have ag := ag47
  rw [ag] at h2
  obtain ⟨d, t, e, h3, h4⟩ := h2
  cases e
  obtain ⟨es, rfl, _, h5⟩ := h3
  refine ⟨es, rfl, fun e he => ?_⟩
  obtain ⟨d, t, e1, h6, h7⟩ := h5 e he
  cases e1
  exact h6

theorem cases_law {B : Nat} (xs : List D) (h : ArgsFit Try.prog B [9, 47] xs) : callA Try.prog 7 (xs.map .d) [] fun r _ => r = .d (.bool true) := by
  obtain ⟨x0, r0, rfl, h0, h⟩ := h
  obtain ⟨x1, r1, rfl, h1, h⟩ := h
  cases h
  obtain ⟨s, rfl, _⟩ := fit_str h0
  obtain ⟨es, rfl, hs⟩ := fit_flags h1
  exact cases7 s es hs
end Go.Proofs.Ytjidelngljpbdaa.Am

namespace Go.Proofs.Ytjidelngljpbdaa
open Go.ChangeShapes Go.WideShapes Go.ChangeAt Go.RowKit

theorem casesOwn : ownKnob Try.prog.godebug = none := by kernel_rfl
theorem casesLaid : laidOutB Try.prog = true := by kernel_rfl

set_option maxRecDepth 100000 in
theorem cases_lifted (os : Os) (started : os.Started) (H : Type) (enc : TypeId × Value → H) :
    ReturnsInHanded {} Try.checked os 7 .any (Rows.indexCasesSpec.pre6 enc Try.prog Try.f7 Rows.indexCasesRow.domain false) (Rows.indexCasesSpec.post enc Try.prog Try.f7 false true false false) := by
  refine returnsInHanded_of_change (C := Try.checked) casesOwn started (by kernel_rfl) Try.func7
    (ChangeSpec.witness6 (enc := enc) (C := Try.checked) false ⟨#[], #[.string ⟨#[]⟩, .slice none 0 0], []⟩ 8 (by kernel_rfl) (by kernel_rfl) (by kernel_rfl) (by kernel_rfl)) ?_
  intro W base args ds gs before hval hW hcnd _
  have h3 : ∃ d0 d1, ds = [d0, d1] := by
    obtain ⟨p, q, hA0, _⟩ := hW
    have hA : DataW.TrodAll enc Try.prog W 0 (fun _ => true) true [9, 47] args.toList ds p := hA0
    obtain ⟨v0, vs0, d0, ds0, p0, q0, _, rfl, rfl, _, r0⟩ := trodAll_cons hA
    obtain ⟨v1, vs1, d1, ds1, p1, q1, rfl, rfl, rfl, _, r1⟩ := trodAll_cons r0
    obtain ⟨rfl, rfl, rfl⟩ := trodAll_nil r1
    exact ⟨d0, d1, rfl⟩
  obtain ⟨d0, d1, rfl⟩ := h3
  refine Am.law_calls (B := maxLen) casesLaid (fun t ht => ?_) rfl rfl Try.underlying4 (fun xs h => Am.cases_law xs h) hval hW rfl rfl rfl (.inl (Nat.le_refl _))
  have : t = 9 ∨ t = 47 := by
    have ht' : t ∈ [9, 47] := ht
    simpa using ht'
  rcases this with rfl | rfl
  · exact ⟨by kernel_rfl, by kernel_rfl, of_decide_eq_true (by kernel_rfl)⟩
  · exact ⟨by kernel_rfl, by kernel_rfl, of_decide_eq_true (by kernel_rfl)⟩

theorem indexCases_holds : Rows.IndexCasesSaid :=
  OpenClaim.holds_of_wide 7 Try.f7 rfl rfl rfl rfl rfl rfl rfl ⟨rfl, rfl, rfl, rfl, rfl⟩ rfl rfl rfl rfl rfl (by kernel_rfl) Try.func7 (by kernel_rfl)
    (of_decide_eq_true (by kernel_rfl)) (by unfold Func.isWrapper; first | (rw [if_pos (by decide +kernel)]; kernel_rfl) | (rw [if_neg (by decide +kernel)]; exact ⟨rfl, rfl⟩))
    (fun os started H enc _ => cases_lifted os started H enc)
end Go.Proofs.Ytjidelngljpbdaa
