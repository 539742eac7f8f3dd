/- For all texts and all bytes the law IndexWords answers true, and its arguments read afterwards as they did. No condition. -/
import Derived.Test.YtjidelngljpbdaaRows
import Derived.Test.YtjidelngljpbdaaIo
import Derived.Test.YtjidelngljpbdaaAmC
set_option linter.constructorNameAsVariable false
namespace Go.Proofs.Ytjidelngljpbdaa.Am
open Go Go.Proofs

/-- What the types of the law's arguments hold. -/
def okStr : Option (List Sh) → Bool
  | some [.str] => true
  | _ => false
def okByte : Option (List Sh) → Bool
  | some [.int .u8] => true
  | _ => false
theorem okStr_eq {x : Option (List Sh)} (h : okStr x = true) : x = some [.str] := by
  unfold okStr at h
  split at h
  · rfl
  · cases h
theorem okByte_eq {x : Option (List Sh)} (h : okByte x = true) : x = some [.int .u8] := by
  unfold okByte at h
  split at h
  · rfl
  · cases h
theorem shStr : shapes Try.prog 12 9 = some [.str] := okStr_eq (by kernel_rfl)
theorem shByte : shapes Try.prog 12 5 = some [.int .u8] := okByte_eq (by kernel_rfl)
theorem ag9 : aggT Try.prog 9 = false := by kernel_rfl
theorem ag5 : aggT Try.prog 5 = false := by kernel_rfl
theorem fit_str {B : Nat} {x : D} (h : ArgFit Try.prog B 9 x) : ∃ s, x = .str s ∧ s.length ≤ B := by
  obtain ⟨shs, h1, h2⟩ := h
  rw [shStr] at h1; cases h1
  have ag := ag9
  rw [ag] at h2
  obtain ⟨d, t, e, h3, h4⟩ := h2
  cases e
  obtain ⟨s, rfl, hs⟩ := h3
  exact ⟨s, rfl, hs⟩
theorem fit_byte {B : Nat} {x : D} (h : ArgFit Try.prog B 5 x) : ∃ c, x = u8D c := by
  obtain ⟨shs, h1, h2⟩ := h
  rw [shByte] at h1; cases h1
  have ag := ag5
  rw [ag] at h2
  obtain ⟨d, t, e, h3, h4⟩ := h2
  cases e
  obtain ⟨n, rfl, g1, g2⟩ := h3
  have g1 : 0 ≤ n := g1
  have g2 : n ≤ 255 := g2
  refine ⟨UInt8.ofNat n.toNat, ?_⟩
  have : (UInt8.ofNat n.toNat).toNat = n.toNat := by
    rw [UInt8.toNat_ofNat']
    omega
  rw [u8D, this]
  congr 1
  omega

theorem words_law {B : Nat} (xs : List D) (h : ArgsFit Try.prog B [9, 5] xs) : callA Try.prog 3 (xs.map .d) [] fun r _ => r = .d (.bool true) := by
  obtain ⟨x0, r0, rfl, h0, h⟩ := h
  obtain ⟨x1, r1, rfl, h1, h⟩ := h
  cases h
  obtain ⟨s, rfl, _⟩ := fit_str h0
  obtain ⟨c, rfl⟩ := fit_byte h1
  exact words3 s c
end Go.Proofs.Ytjidelngljpbdaa.Am

namespace Go.Proofs.Ytjidelngljpbdaa
open Go.ChangeShapes Go.WideShapes Go.ChangeAt Go.RowKit

theorem wordsOwn : ownKnob Try.prog.godebug = none := by kernel_rfl
theorem wordsLaid : laidOutB Try.prog = true := by kernel_rfl

set_option maxRecDepth 100000 in
theorem words_lifted (os : Os) (started : os.Started) (H : Type) (enc : TypeId × Value → H) :
    ReturnsInHanded {} Try.checked os 3 .any (Rows.indexWordsSpec.pre6 enc Try.prog Try.f3 Rows.indexWordsRow.domain false) (Rows.indexWordsSpec.post enc Try.prog Try.f3 false true false false) := by
  refine returnsInHanded_of_change (C := Try.checked) wordsOwn started (by kernel_rfl) Try.func3
    (ChangeSpec.witness6 (enc := enc) (C := Try.checked) false ⟨#[], #[.string ⟨#[]⟩, .int .u8 0], []⟩ 8 (by kernel_rfl) (by kernel_rfl) (by kernel_rfl) (by kernel_rfl)) ?_
  intro W base args ds gs before hval hW hcnd _
  have h3 : ∃ d0 d1, ds = [d0, d1] := by
    obtain ⟨p, q, hA0, _⟩ := hW
    have hA : DataW.TrodAll enc Try.prog W 0 (fun _ => true) true [9, 5] args.toList ds p := hA0
    obtain ⟨v0, vs0, d0, ds0, p0, q0, _, rfl, rfl, _, r0⟩ := trodAll_cons hA
    obtain ⟨v1, vs1, d1, ds1, p1, q1, rfl, rfl, rfl, _, r1⟩ := trodAll_cons r0
    obtain ⟨rfl, rfl, rfl⟩ := trodAll_nil r1
    exact ⟨d0, d1, rfl⟩
  obtain ⟨d0, d1, rfl⟩ := h3
  refine Am.law_calls (B := maxLen) wordsLaid (fun t ht => ?_) rfl rfl Try.underlying4 (fun xs h => Am.words_law xs h) hval hW rfl rfl rfl (.inl (Nat.le_refl _))
  have : t = 9 ∨ t = 5 := by
    have ht' : t ∈ [9, 5] := ht
    simpa using ht'
  rcases this with rfl | rfl
  · exact ⟨by kernel_rfl, by kernel_rfl, of_decide_eq_true (by kernel_rfl)⟩
  · exact ⟨by kernel_rfl, by kernel_rfl, of_decide_eq_true (by kernel_rfl)⟩

theorem indexWords_holds : Rows.IndexWordsSaid :=
  OpenClaim.holds_of_wide 3 Try.f3 rfl rfl rfl rfl rfl rfl rfl ⟨rfl, rfl, rfl, rfl, rfl⟩ rfl rfl rfl rfl rfl (by kernel_rfl) Try.func3 (by kernel_rfl)
    (of_decide_eq_true (by kernel_rfl)) (by unfold Func.isWrapper; first | (rw [if_pos (by decide +kernel)]; kernel_rfl) | (rw [if_neg (by decide +kernel)]; exact ⟨rfl, rfl⟩))
    (fun os started H enc _ => words_lifted os started H enc)
end Go.Proofs.Ytjidelngljpbdaa
