/- For all texts and all words the law IndexRules answers true, and its arguments read afterwards as they did. No condition. The row, and the tied card. -/
import Derived.Test.YtchgfpehcjomeaaGreatDoorRows
import Derived.Test.YtchgfpehcjomeaaGreatDoorCards
import Derived.Test.YtchgfpehcjomeaaGreatDoorTie
import Derived.Test.YtchgfpehcjomeaaGreatDoorMd
import Derived.Test.YtchgfpehcjomeaaGreatDoorAmC
import Derived.ProofKit
import Derived.LaidMore
import Derived.Lay
import Derived.SevenTiedAt
import Derived.Stop.Joined
set_option linter.constructorNameAsVariable false
namespace Go.Proofs.YtchgfpehcjomeaaGreatDoor.Am
open Go Go.Proofs

def okStr : Option (List Sh) → Bool
  | some [.str] => true
  | _ => false
theorem okStr_eq {x : Option (List Sh)} (h : okStr x = true) : x = some [.str] := by
  unfold okStr at h
  split at h
  · rfl
  · cases h
theorem shStr : shapes Tryz.prog 12 9 = some [.str] := okStr_eq (by kernel_rfl)
theorem ag9 : aggT Tryz.prog 9 = false := by kernel_rfl
theorem fit_str {B : Nat} {x : D} (h : ArgFit Tryz.prog B 9 x) : ∃ s, x = .str s ∧ s.length ≤ B := by
  obtain ⟨shs, h1, h2⟩ := h
  rw [shStr] at h1; cases h1
  have ag := ag9
  rw [ag] at h2
  obtain ⟨d, t, e, h3, h4⟩ := h2
  cases e
  obtain ⟨s, rfl, hs⟩ := h3
  exact ⟨s, rfl, hs⟩

theorem rules_law {B : Nat} (xs : List D) (h : ArgsFit Tryz.prog B [9, 9] xs) : callA Tryz.prog 3 (xs.map .d) [] fun r _ => r = .d (.bool true) := by
  obtain ⟨x0, r0, rfl, h0, h⟩ := h
  obtain ⟨x1, r1, rfl, h1, h⟩ := h
  cases h
  obtain ⟨s, rfl, _⟩ := fit_str h0
  obtain ⟨w, rfl, _⟩ := fit_str h1
  exact rules3 s w
end Go.Proofs.YtchgfpehcjomeaaGreatDoor.Am

namespace Go.Proofs.YtchgfpehcjomeaaGreatDoor
open Go.ChangeShapes Go.WideShapes Go.ChangeAt Go.RowKit

theorem rulesOwn : ownKnob Tryz.prog.godebug = none := by kernel_rfl
theorem rulesLaid : laidOutB Tryz.prog = true := by kernel_rfl
def rulesVars : List (String × DataW Unit) := Rows.indexRulesRow.laid

set_option maxRecDepth 100000 in
theorem rules_lifted (os : Os) (started : os.Started) (H : Type) (enc : TypeId × Value → H) :
    ReturnsInHanded {} Tryz.checked os 3 .any (fun w args => (Rows.indexRulesSpec.pre enc Tryz.prog Tryz.f3 Rows.indexRulesRow.domain false w args ∧ laidMetH Tryz.prog rulesVars w) ∧ sizedMet enc Tryz.prog Tryz.f3 (OpenSpec.ofChange Rows.indexRulesSpec) false w args)
      (Rows.indexRulesSpec.post enc Tryz.prog Tryz.f3 false true false false) := by
  refine returnsInHanded_of_change_and (C := Tryz.checked) (X := fun w _ => laidMetH Tryz.prog rulesVars w) (fun _ _ _ hh h => h.of_heap hh) rulesOwn started (by kernel_rfl) Tryz.func3
    (ChangeSpec.witness_shaped (enc := enc) (C := Tryz.checked) (os := os) (X := fun w _ => laidMetH Tryz.prog rulesVars w) false (World.laidAll Tryz.prog os rulesVars) #[.string ⟨#[]⟩, .string ⟨#[]⟩] 8 (World.laidAll_os _ _ _)
      (World.shaped_of_ZipB (by kernel_rfl) (by kernel_rfl)) (by kernel_rfl) (by kernel_rfl) (by kernel_rfl)
      (by rw [MakeChecks.laidMetH_plain _ _ _ (by kernel_rfl)]; exact laidMet_laidAll _ (by kernel_rfl) (by kernel_rfl))) ?_
  intro W base args ds gs before hval hW _ _ hL _
  have h3 : ∃ d0 d1, ds = [d0, d1] := by
    obtain ⟨p, q, hA0, _⟩ := hW
    have hA : DataW.TrodAll enc Tryz.prog W 0 (fun _ => true) true [9, 9] args.toList ds p := hA0
    obtain ⟨v0, vs0, d0, ds0, p0, q0, _, rfl, rfl, _, r0⟩ := trodAll_cons hA
    obtain ⟨v1, vs1, d1, ds1, p1, q1, rfl, rfl, rfl, _, r1⟩ := trodAll_cons r0
    obtain ⟨rfl, rfl, rfl⟩ := trodAll_nil r1
    exact ⟨d0, d1, rfl⟩
  obtain ⟨d0, d1, rfl⟩ := h3
  refine Am.law_calls (B := maxLen) rulesLaid (fun t ht => ?_) rfl rfl Tryz.underlying4 (fun xs h => Am.rules_law xs h) hval hW rfl rfl rfl (.inl (Nat.le_refl _)) (by intro g cs e; simp [Am.globs] at e)
  have : t = 9 := by
    have ht' : t ∈ [9, 9] := ht
    simpa using ht'
  subst this
  exact ⟨by kernel_rfl, by kernel_rfl, of_decide_eq_true (by kernel_rfl)⟩

theorem indexRules_row : Rows.IndexRulesSaid :=
  OpenClaim.holds_of_wide 3 Tryz.f3 rfl rfl rfl rfl rfl rfl rfl ⟨rfl, rfl, rfl, rfl, rfl⟩ rfl rfl rfl rfl rfl (by kernel_rfl) Tryz.func3 (by kernel_rfl)
    (of_decide_eq_true (by kernel_rfl)) (by unfold Func.isWrapper; first | (rw [if_pos (by decide +kernel)]; kernel_rfl) | (rw [if_neg (by decide +kernel)]; exact ⟨rfl, rfl⟩))
    (fun os started H enc _ => rules_lifted os started H enc)

theorem indexRules_holds : Rows.IndexRulesCardSaid :=
  Claim7.holds_tied_plain_at .later [] [.data, .data, .data, .sentinel, .sentinel] true (true, "425179a58a8e21fca4981185ffa3ca5aa6fd1ef9880b6ffa0a20cbec7e876697") true
    indexRules_row (fun _ h => by cases h) (by kernel_rfl) (fun _ h => by cases h) indexRules_row_tie rfl ⟨rfl, rfl⟩ (by kernel_rfl) rfl
    (fun f fn hf hfn => by
      obtain rfl : f = 3 := Option.some.inj ((show Tryz.prog.funcNamed Rows.indexRulesRow.func = some 3 by kernel_rfl).symm.trans hf) |>.symm
      obtain rfl : fn = Tryz.f3 := (Option.some.inj (Tryz.func3.symm.trans hfn)).symm
      exact ⟨by kernel_rfl, fun j t ht => by
        have hp : Tryz.f3.params = #[9, 9] := rfl
        rw [hp] at ht
        have hm : t ∈ [9, 9] := by simpa using Array.mem_of_getElem? ht
        have hall : ([9, 9].all fun u => !Tryz.prog.wantsStandIn u) = true := by kernel_rfl
        exact (show Tryz.prog.wantsStandIn t = false by simpa using List.all_eq_true.1 hall t hm)⟩)
    (by kernel_rfl)
end Go.Proofs.YtchgfpehcjomeaaGreatDoor
