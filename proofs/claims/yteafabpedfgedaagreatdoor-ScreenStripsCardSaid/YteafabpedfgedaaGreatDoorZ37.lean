/- The small examples of the law have the documented results. -/
import Derived.Test.YteafabpedfgedaaGreatDoorZ22
import Derived.Test.YteafabpedfgedaaGreatDoorZ23
import Derived.Test.YteafabpedfgedaaGreatDoorZ24
import Derived.Test.YteafabpedfgedaaGreatDoorZ25
import Derived.Test.YteafabpedfgedaaGreatDoorZ28
import Derived.Test.YteafabpedfgedaaGreatDoorZ29
import Derived.Test.YteafabpedfgedaaGreatDoorZ30
import Derived.Test.YteafabpedfgedaaGreatDoorZ31
import Derived.Test.YteafabpedfgedaaGreatDoorZ36
import Derived.Test.YteafabpedfgedaaGreatDoorZ10
import Derived.KernelRfl
import Derived.Test.YteafabpedfgedaaGreatDoorZ26
import Derived.Test.YteafabpedfgedaaGreatDoorRows
import Derived.MakeChecks
import Derived.FnData
import Derived.OpenShut
import Derived.ChangeArms
section
set_option maxRecDepth 100000
namespace Go.Proofs.YteafabpedfgedaaGreatDoor.Am
open Go Go.Proofs

theorem embV_two (cs : List D) (d : D) (n : Nat) : embV [] n (.tup [.agg (cs.map .d), .d d]) = .tup [.agg (cs.map .d), .d d] := by
  have := embV_agg cs n
  simp only [embV, renV, renVs] at this ⊢
  rw [this]
def kn4 : Kn := [
  (8, [.str [115]], vK0),
  (9, [lK0], .d lCS0),
  (10, [lK0, lCS0, .int .i64 0, .str [120], lI0, .int .i64 5], .tup ((cellsD lV1).map .d)),
  (10, [lK0, lCS0, .int .i64 0, .str [120], .str [110, 111, 110, 101], .int .i64 5], .tup ((cellsD lV2).map .d)),
  (10, [lK1, lCS0, .int .i64 0, .str [120], lI0, .int .i64 5], .tup ((cellsD lV3).map .d)),
  (10, [lK1, lCS0, .int .i64 1, .str [120], lI0, .int .i64 5], .tup ((cellsD lV4).map .d)),
  (10, [lK2, lCS0, .int .i64 0, .str [120], lI0, .int .i64 5], .tup ((cellsD lV5).map .d)),
  (11, [lK0, .str [115], lJ1], .tup [.agg ((cellsD lK1).map .d), .d (.bool true)]),
  (11, [lK0, .str [115], lJ2], .tup [.agg ((cellsD lK2).map .d), .d (.bool true)])]
theorem kn4_ok : KnOk Tryz.prog kn4 :=
  ((((((((KnOk.nil _).cons (fun n => embV_two _ _ n) decided2).cons (fun n => embV_two _ _ n) decided1).cons (fun n => embV_tup _ n) verdict5).cons (fun n => embV_tup _ n) verdict4).cons (fun n => embV_tup _ n) verdict3).cons (fun n => embV_tup _ n) verdict2).cons (fun n => embV_tup _ n) verdict1).cons (fun n => embV_d _ n) chains9 |>.cons (fun n => embV_two _ _ n) begun8
noncomputable def nat7 : Nat' := knN kn4 natA
theorem nat7_ok : CallOk Tryz.prog nat7 := knN_ok kn4_ok natA_ok
theorem small4c : callA Tryz.prog 4 [] [] fun r τ => r = .d (.bool true) ∧ τ = [] := run_okK nat7_ok tabOk 60 (by kernel_rfl)
theorem small4 (σ : List Ob) : callA Tryz.prog 4 [] σ fun r σ' => r = .d (.bool true) ∧ σ' = σ := callA_val small4c σ rfl
end Go.Proofs.YteafabpedfgedaaGreatDoor.Am
end
/- What the row says of the listed variables is what the engine asks of them. -/
section
set_option linter.unusedVariables false
namespace Go.Proofs.YteafabpedfgedaaGreatDoor.Am
open Go Go.Proofs

def litZ (k : IntKind) : DataW Unit → Option Int
  | .lit (.int k' z) => if k' = k then some z else none
  | _ => none
def litsZ (k : IntKind) : List (DataW Unit) → Option (List Int)
  | [] => some []
  | d :: r => match litZ k d, litsZ k r with | some z, some zs => some (z :: zs) | _, _ => none
def datZ (k : IntKind) : DataW Unit → Option (List Int)
  | .agg l => litsZ k l
  | _ => none
theorem litZ_eq {k : IntKind} {d : DataW Unit} {z : Int} (h : litZ k d = some z) : d = .lit (.int k z) := by
  unfold litZ at h
  split at h
  · split at h
    · rename_i e; subst e; cases h; rfl
    · cases h
  · cases h
theorem litsZ_eq {k : IntKind} : ∀ {l : List (DataW Unit)} {zs : List Int}, litsZ k l = some zs → l = zs.map fun z => .lit (.int k z)
  | [], zs, h => by simp [litsZ] at h; subst h; rfl
  | d :: r, zs, h => by
    simp only [litsZ] at h
    split at h
    · rename_i z zs' h1 h2
      cases h
      rw [litZ_eq h1, litsZ_eq h2]; rfl
    · cases h

theorem drs_ints {I : Im} (k : IntKind) : ∀ zs : List Int, DRs I (zs.map (D.int k)) (zs.map (Value.int k))
  | [] => by simp [DRs]
  | z :: zs => by
    simp only [List.map_cons, DRs]
    exact ⟨_, _, rfl, by simp [DR], drs_ints k zs⟩

theorem glob_arr {P : Program} {W : World} {name : String} {g t n e fuel : Nat} {k : IntKind} {d : DataW Unit} {p : List MemPlace} {cs : Array Value} {zs : List Int} (hg : P.globalNamed name = some g) (hu : P.underlying t = some (.array n e)) (he : P.underlying e = some (.int k)) (hc : P.cellsOf e = 1)
    (hv : W.var? P name = some cs) (hd : DataW.trod (fun _ => ()) P W 0 (fun _ => true) false fuel t cs.toList = some (d, p)) (hz : datZ k d = some zs) (h0 : 0 < zs.length) :
    (cx0 W).im.ok g ∧ ∃ vs : List Value, DRs (cx0 W).im (zs.map (D.int k)) vs ∧ ∀ j, j < (zs.map (D.int k)).length → (cx0 W).im.cell g j = vs[j]? := by
  obtain ⟨xs, m, _, ex, _, hl, hel⟩ := DataW.trod_array hu hd
  simp only [Prod.mk.injEq] at ex
  obtain ⟨ex, _⟩ := ex
  subst ex
  simp only [datZ] at hz
  have hx := litsZ_eq hz
  have hlen : zs.length = n := by have := congrArg List.length hx; simp only [List.length_map] at this; omega
  have cell : ∀ j, j < zs.length → W.cell? ⟨g, j, none⟩ = (zs.map (Value.int k))[j]? := fun j hj => by
    have hE := hel j (by omega)
    rw [hc, Nat.mul_one, List.getElem?_eq_getElem (by omega)] at hE
    obtain ⟨z, e1, e2, _⟩ := DataW.trod_int he hE
    have e3 : (xs.map (·.1))[j]? = (zs.map fun z => (DataW.lit (.int k z) : DataW Unit))[j]? := by rw [hx]
    rw [List.getElem?_map, List.getElem?_map, List.getElem?_eq_getElem (by omega : j < xs.length), List.getElem?_eq_getElem hj, e2] at e3
    simp only [Option.map_some, Option.some.injEq, DataW.lit.injEq, Lit.int.injEq, true_and] at e3
    rw [World.var?_cell hg hv j, List.getElem?_map, List.getElem?_eq_getElem hj, Option.map_some, ← e3]
    have : cs.toList[j]? = some (.int k z) := by
      have h0 : ((cs.toList.drop j).take 1)[0]? = some (.int k z) := by rw [e1]; rfl
      simpa using h0
    simpa using this
  refine ⟨⟨?_, cx0_own W g, fun h => h⟩, zs.map (Value.int k), drs_ints k zs, fun j hj => ?_⟩
  · rcases Nat.lt_or_ge g W.heap.size with h | h
    · exact h
    · have := cell 0 h0
      rw [List.getElem?_map, List.getElem?_eq_getElem h0] at this
      simp [World.cell?, Array.getElem?_eq_none h] at this
  · rw [List.length_map] at hj
    exact cell j hj

theorem nums_eq (k : IntKind) : ∀ l : List Nat, nums k l = (l.map fun n : Nat => (n : Int)).map (D.int k)
  | [] => rfl
  | n :: l => by rw [nums, nums_eq k l]; rfl

/-- The listed variables, in the row's order. -/
def rowVars : List (String × DataW Unit) := Rows.screenStripsRow.laid
/-- The name of a listed variable. -/
def nameAt (i : Nat) : String := ((rowVars.map (·.1))[i]?).getD ""
theorem glob_of {W : World} (h : laidMetH Tryz.prog rowVars W) : Glob (cx0 W) := by
  rw [MakeChecks.laidMetH_plain _ _ _ (by kernel_rfl)] at h
  obtain ⟨ps, ⟨g0, t0, cs0, f0, p0, q0, hg0, ht0, hv0, hd0, ⟨g1, t1, cs1, f1, p1, q1, hg1, ht1, hv1, hd1, ⟨g2, t2, cs2, f2, p2, q2, hg2, ht2, hv2, hd2, ⟨g3, t3, cs3, f3, p3, q3, hg3, ht3, hv3, hd3, ⟨g4, t4, cs4, f4, p4, q4, hg4, ht4, hv4, hd4, _⟩, _⟩, _⟩, _⟩, _⟩, _⟩ := h
  obtain rfl := Option.some.inj ((show Tryz.prog.globalNamed (nameAt 0) = some 8 by kernel_rfl).symm.trans hg0)
  obtain rfl := Option.some.inj ((show (Tryz.prog.globals[8]?).map (·.type) = some 533 by kernel_rfl).symm.trans ht0)
  obtain rfl := Option.some.inj ((show Tryz.prog.globalNamed (nameAt 1) = some 9 by kernel_rfl).symm.trans hg1)
  obtain rfl := Option.some.inj ((show (Tryz.prog.globals[9]?).map (·.type) = some 534 by kernel_rfl).symm.trans ht1)
  obtain rfl := Option.some.inj ((show Tryz.prog.globalNamed (nameAt 2) = some 1 by kernel_rfl).symm.trans hg2)
  obtain rfl := Option.some.inj ((show (Tryz.prog.globals[1]?).map (·.type) = some 304 by kernel_rfl).symm.trans ht2)
  obtain rfl := Option.some.inj ((show Tryz.prog.globalNamed (nameAt 3) = some 0 by kernel_rfl).symm.trans hg3)
  obtain rfl := Option.some.inj ((show (Tryz.prog.globals[0]?).map (·.type) = some 186 by kernel_rfl).symm.trans ht3)
  obtain rfl := Option.some.inj ((show Tryz.prog.globalNamed (nameAt 4) = some 7 by kernel_rfl).symm.trans hg4)
  obtain rfl := Option.some.inj ((show (Tryz.prog.globals[7]?).map (·.type) = some 531 by kernel_rfl).symm.trans ht4)
  intro g cs e
  unfold globs at e
  split at e
  · cases e
    rw [g_agora_sum_initial, nums_eq]
    exact glob_arr hg3 Tryz.underlying186 Tryz.underlying185 (by kernel_rfl) hv3 hd3 (by kernel_rfl) (by decide)
  · cases e
    rw [g_agora_sum_constants, nums_eq]
    exact glob_arr hg2 Tryz.underlying304 Tryz.underlying185 (by kernel_rfl) hv2 hd2 (by kernel_rfl) (by decide)
  · cases e
    rw [g_internal_strconv_uint64pow10, nums_eq]
    exact glob_arr hg4 Tryz.underlying531 Tryz.underlying218 (by kernel_rfl) hv4 hd4 (by kernel_rfl) (by decide)
  · cases e
    rw [g_math_bits_deBruijn32tab, nums_eq]
    exact glob_arr hg0 Tryz.underlying533 Tryz.underlying5 (by kernel_rfl) hv0 hd0 (by kernel_rfl) (by decide)
  · cases e
    rw [g_math_bits_deBruijn64tab, nums_eq]
    exact glob_arr hg1 Tryz.underlying534 Tryz.underlying5 (by kernel_rfl) hv1 hd1 (by kernel_rfl) (by decide)
  · cases e
end Go.Proofs.YteafabpedfgedaaGreatDoor.Am
end
