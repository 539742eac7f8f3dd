/- For all texts a and b and all numbers n the law ScreenStrips answers true, and its arguments read afterwards as they did. No condition. The row, and the tied card. -/
import Derived.Test.YteafabpedfgedaaGreatDoorRows
import Derived.Test.YteafabpedfgedaaGreatDoorCards
import Derived.Test.YteafabpedfgedaaGreatDoorTie
import Derived.Test.YteafabpedfgedaaGreatDoorZ17
import Derived.Test.YteafabpedfgedaaGreatDoorZ37
import Derived.Test.YteafabpedfgedaaGreatDoorZ39
import Derived.Test.YteafabpedfgedaaGreatDoorZ40
import Derived.ProofKit
import Derived.LaidMore
import Derived.Lay
import Derived.SevenTiedAt
import Derived.Stop.Joined
set_option linter.constructorNameAsVariable false
namespace Go.Proofs.YteafabpedfgedaaGreatDoor.Am
open Go Go.Proofs

def okStr : Option (List Sh) → Bool
  | some [.str] => true
  | _ => false
theorem okStr_eq {x : Option (List Sh)} (h : okStr x = true) : x = some [.str] := by
  unfold okStr at h
  split at h
  · rfl
  · cases h
theorem shStr : shapes Tryz.prog 12 9 = some [.str] := okStr_eq (by kernel_rfl)
theorem ag9 : aggT Tryz.prog 9 = false := by kernel_rfl
theorem fit_str {B : Nat} {x : D} (h : ArgFit Tryz.prog B 9 x) : ∃ s, x = .str s ∧ s.length ≤ B := by
  obtain ⟨shs, h1, h2⟩ := h
  rw [shStr] at h1; cases h1
  have ag := ag9
  rw [ag] at h2
  obtain ⟨d, t, e, h3, h4⟩ := h2
  cases e
  obtain ⟨s, rfl, hs⟩ := h3
  exact ⟨s, rfl, hs⟩
def okInt : Option (List Sh) → Bool
  | some [.int .i64] => true
  | _ => false
theorem okInt_eq {x : Option (List Sh)} (h : okInt x = true) : x = some [.int .i64] := by
  unfold okInt at h
  split at h
  · rfl
  · cases h
theorem shInt : shapes Tryz.prog 12 3 = some [.int .i64] := okInt_eq (by kernel_rfl)
theorem ag3 : aggT Tryz.prog 3 = false := by kernel_rfl
theorem fit_int {B : Nat} {x : D} (h : ArgFit Tryz.prog B 3 x) : ∃ n, x = .int .i64 n := by
  obtain ⟨shs, h1, h2⟩ := h
  rw [shInt] at h1; cases h1
  have ag := ag3
  rw [ag] at h2
  obtain ⟨d, t, e, h3, h4⟩ := h2
  cases e
  obtain ⟨n, rfl, _⟩ := h3
  exact ⟨n, rfl⟩

theorem strips_law {B : Nat} (xs : List D) (h : ArgsFit Tryz.prog B [9, 9, 3] xs) : callA Tryz.prog 3 (xs.map .d) [] fun r _ => r = .d (.bool true) := by
  obtain ⟨x0, r0, rfl, h0, h⟩ := h
  obtain ⟨x1, r1, rfl, h1, h⟩ := h
  obtain ⟨x2, r2, rfl, h2, h⟩ := h
  cases h
  obtain ⟨a, rfl, _⟩ := fit_str h0
  obtain ⟨b, rfl, _⟩ := fit_str h1
  obtain ⟨n, rfl⟩ := fit_int h2
  exact law3 small4 a b n
end Go.Proofs.YteafabpedfgedaaGreatDoor.Am

namespace Go.Proofs.YteafabpedfgedaaGreatDoor
open Go.ChangeShapes Go.WideShapes Go.ChangeAt Go.RowKit

theorem stripsOwn : ownKnob Tryz.prog.godebug = none := by kernel_rfl
theorem stripsLaid : laidOutB Tryz.prog = true := by kernel_rfl

set_option maxRecDepth 100000 in
theorem strips_lifted (os : Os) (started : os.Started) (H : Type) (enc : TypeId × Value → H) :
    ReturnsInHanded {} Tryz.checked os 3 .any (fun w args => (Rows.screenStripsSpec.pre enc Tryz.prog Tryz.f3 Rows.screenStripsRow.domain false w args ∧ laidMetH Tryz.prog Am.rowVars w) ∧ sizedMet enc Tryz.prog Tryz.f3 (OpenSpec.ofChange Rows.screenStripsSpec) false w args)
      (Rows.screenStripsSpec.post enc Tryz.prog Tryz.f3 false true false false) := by
  refine returnsInHanded_of_change_and (C := Tryz.checked) (X := fun w _ => laidMetH Tryz.prog Am.rowVars w) (fun _ _ _ hh h => h.of_heap hh) stripsOwn started (by kernel_rfl) Tryz.func3
    (ChangeSpec.witness_shaped (enc := enc) (C := Tryz.checked) (os := os) (X := fun w _ => laidMetH Tryz.prog Am.rowVars w) false (World.laidAll Tryz.prog os Am.rowVars) #[.string ⟨#[]⟩, .string ⟨#[]⟩, .int .i64 0] 8 (World.laidAll_os _ _ _)
      (World.shaped_of_ZipB (by kernel_rfl) (by kernel_rfl)) (by kernel_rfl) (by kernel_rfl) (by kernel_rfl)
      (by rw [MakeChecks.laidMetH_plain _ _ _ (by kernel_rfl)]; exact laidMet_laidAll _ (by kernel_rfl) (by kernel_rfl))) ?_
  intro W base args ds gs before hval hW _ _ hL _
  have h3 : ∃ d0 d1 d2, ds = [d0, d1, d2] := by
    obtain ⟨p, q, hA0, _⟩ := hW
    have hA : DataW.TrodAll enc Tryz.prog W 0 (fun _ => true) true [9, 9, 3] args.toList ds p := hA0
    obtain ⟨v0, vs0, d0, ds0, p0, q0, _, rfl, rfl, _, r0⟩ := trodAll_cons hA
    obtain ⟨v1, vs1, d1, ds1, p1, q1, rfl, rfl, rfl, _, r1⟩ := trodAll_cons r0
    obtain ⟨v2, vs2, d2, ds2, p2, q2, rfl, rfl, rfl, _, r2⟩ := trodAll_cons r1
    obtain ⟨rfl, rfl, rfl⟩ := trodAll_nil r2
    exact ⟨d0, d1, d2, rfl⟩
  obtain ⟨d0, d1, d2, rfl⟩ := h3
  refine Am.law_calls (B := maxLen) stripsLaid (fun t ht => ?_) rfl rfl Tryz.underlying4 (fun xs h => Am.strips_law xs h) hval hW rfl rfl rfl (.inl (Nat.le_refl _)) (Am.glob_of hL)
  have : t = 9 ∨ t = 3 := by
    have ht' : t ∈ [9, 9, 3] := ht
    simpa using ht'
  rcases this with rfl | rfl
  · exact ⟨by kernel_rfl, by kernel_rfl, of_decide_eq_true (by kernel_rfl)⟩
  · exact ⟨by kernel_rfl, by kernel_rfl, of_decide_eq_true (by kernel_rfl)⟩

theorem screenStrips_row : Rows.ScreenStripsSaid :=
  OpenClaim.holds_of_wide 3 Tryz.f3 rfl rfl rfl rfl rfl rfl rfl ⟨rfl, rfl, rfl, rfl, rfl⟩ rfl rfl rfl rfl rfl (by kernel_rfl) Tryz.func3 strips_facts
    (of_decide_eq_true (by kernel_rfl)) (by unfold Func.isWrapper; first | (rw [if_pos (by decide +kernel)]; kernel_rfl) | (rw [if_neg (by decide +kernel)]; exact ⟨rfl, rfl⟩))
    (fun os started H enc _ => strips_lifted os started H enc)

theorem screenStrips_holds : Rows.ScreenStripsCardSaid :=
  Claim7.holds_tied_plain_at .later [] [.data, .data, .data, .data, .data, .sentinel, .sentinel] true (true, "72fe720f1e7910f1be4cf4f1c76221d546fd6220e37931d0a15d08b17f810f6a") true
    screenStrips_row (fun _ h => by cases h) (by kernel_rfl) (fun _ h => by cases h) screenStrips_row_tie rfl ⟨rfl, rfl⟩ (by kernel_rfl) rfl
    (fun f fn hf hfn => by
      obtain rfl : f = 3 := Option.some.inj ((show Tryz.prog.funcNamed Rows.screenStripsRow.func = some 3 by kernel_rfl).symm.trans hf) |>.symm
      obtain rfl : fn = Tryz.f3 := (Option.some.inj (Tryz.func3.symm.trans hfn)).symm
      exact ⟨by kernel_rfl, fun j t ht => by
        have hp : Tryz.f3.params = #[9, 9, 3] := rfl
        rw [hp] at ht
        have hm : t ∈ [9, 9, 3] := by simpa using Array.mem_of_getElem? ht
        have hall : ([9, 9, 3].all fun u => !Tryz.prog.wantsStandIn u) = true := by kernel_rfl
        exact (show Tryz.prog.wantsStandIn t = false by simpa using List.all_eq_true.1 hall t hm)⟩)
    strips_goes
end Go.Proofs.YteafabpedfgedaaGreatDoor
