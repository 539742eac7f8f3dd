/- Contracts over the library and Strip, as natives of the evaluator. -/
import Derived.Test.YteafabpedfgedaaGreatDoorZ2
import Derived.Test.YteafabpedfgedaaGreatDoorZ10
import Derived.Test.YteafabpedfgedaaGreatDoorZ16
import Derived.Lib.Join
import Derived.Test.YteafabpedfgedaaGreatDoorZ1
import Derived.IntWalk
import Derived.KernelRfl
section
set_option linter.unusedSimpArgs false
set_option linter.unusedVariables false
set_option maxRecDepth 10000
namespace Go.Proofs.YteafabpedfgedaaGreatDoor.Am
open Go Go.Proofs Go.RowKit Go.Shelf

abbrev W := List UInt8
/-- A call that turns nothing that was there. -/
theorem Ext.below {c : Cx} {w' : World} (h : Below c.w.heap.size c.w w') {σ : List Ob} (hs : SR c σ) : Ext c ⟨w', c.loc, c.hid⟩ ∧ SR ⟨w', c.loc, c.hid⟩ σ := by
  have hE : Ext c ⟨w', c.loc, c.hid⟩ := by
    refine ⟨rfl, h.size, fun b cs e f hb => ⟨cs, f, ?_, rfl⟩, fun b hb ho => ⟨h.block b hb, ho⟩, fun _ => .inl rfl, h.os, h.tape, h.output⟩
    rw [h.block b (Array.getElem?_eq_some_iff.1 hb).1]; exact hb
  refine ⟨hE, fun o => ?_, fun e e' => hs.inj e e', hs.hid_ext hE, hE.glob hs.gl⟩
  have r := hs.obj o
  show ORo _ (c.loc o) _
  cases hx : σ[o]? with
  | none => rw [hx] at r; exact r
  | some x => rw [hx] at r; exact OR.keep hE r fun b base sz e => h.block b (hs.lt e)
theorem callA_intro' {P : Program} {f : FuncId} {args : List V} {σ : List Ob} {K : V → List Ob → Prop} (h1 : callable P f) (h : ∀ (c : Cx) (vals : List Value), SR c σ → c.vrs args vals → Calls P f vals.toArray c.w (CallPost c K)) : callA P f args σ K := ⟨h1, h⟩

theorem strip5 (s : List UInt8) (hs : s.length ≤ 35184372088832) (σ : List Ob) : callA Tryz.prog 5 [.d (.str s)] σ fun r σ' => r = .d (.str (stripL false s)) ∧ σ' = σ := by
  refine callA_intro' ⟨Tryz.f5, Tryz.func5, by kernel_rfl, by kernel_rfl⟩ fun c vals hsr hv => ?_
  simp only [Cx.vrs, VRs, VR, DR] at hv
  obtain ⟨v0, t0, rfl, rfl, rfl⟩ := hv
  refine (strip5w ⟨s.toArray⟩ c.w (by show s.toArray.size ≤ _; simpa using hs)).mono fun e w' hp => ?_
  obtain ⟨rfl, hb⟩ := hp
  obtain ⟨hE, hS⟩ := Ext.below hb hsr
  refine ⟨c.loc, σ, _, hS, hE, ?_, rfl, rfl⟩
  simp [Cx.vr, VR, DR]

theorem indexB384 (s : List UInt8) (b : UInt8) (σ : List Ob) : callA Tryz.prog 384 [.d (.str s), .d (.int .u8 (b.toNat : Int))] σ fun r σ' => r = .d (.int .i64 (Lib.indexByte s b)) ∧ σ' = σ := by
  refine callA_intro' ⟨Tryz.f384, Tryz.func384, by kernel_rfl, by kernel_rfl⟩ fun c vals hs hv => ?_
  simp only [Cx.vrs, VRs, VR, DR] at hv
  obtain ⟨v0, t0, rfl, rfl, v1, t1, rfl, rfl, rfl⟩ := hv
  refine (Any.strings_IndexByte ixbS ⟨s.toArray⟩ (b.toNat : Int) c.w).mono fun e w' hp => ?_
  obtain ⟨rfl, rfl⟩ := hp
  refine ⟨c.loc, σ, _, hs, Ext.refl c, ?_, rfl, rfl⟩
  simp [Cx.vr, VR, DR]

theorem join91d (l : List (List UInt8)) (sep : List UInt8) (hl : (Lib.join l sep).length ≤ 1048576) (hn : l.length ≤ 1048576) : callA Tryz.prog 91 [.d (.lst 1 (l.map .str)), .d (.str sep)] [] fun r σ' => r = .d (.str (Lib.join l sep)) ∧ σ' = [] := by
  refine callA_intro' ⟨Tryz.f91, Tryz.func91, by kernel_rfl, by kernel_rfl⟩ fun c vals hs hv => ?_
  simp only [Cx.vrs, VRs, VR] at hv
  obtain ⟨v0, t0, rfl, h0, v1, t1, rfl, h1, rfl⟩ := hv
  simp only [DR] at h1
  subst h1
  simp only [DR] at h0
  obtain ⟨a, cap, rfl, hcap, h2⟩ := h0
  rw [List.length_map] at hcap
  have hmap : (l.map fun w => (⟨w.toArray⟩ : ByteArray)).map (·.data.toList) = l := by
    rw [List.map_map]
    have : ((fun b : ByteArray => b.data.toList) ∘ fun w : List UInt8 => (⟨w.toArray⟩ : ByteArray)) = id := by funext w; simp
    rw [this, List.map_id]
  have fin : ∀ e w', (e = Ending.returned (.string ⟨(Lib.join l sep).toArray⟩) ∧ Below c.w.heap.size c.w w') → CallPost c (fun r σ' => r = .d (.str (Lib.join l sep)) ∧ σ' = []) e w' := fun e w' ⟨he, hb⟩ => by
    subst he
    obtain ⟨hE, hS⟩ := Ext.below hb hs
    refine ⟨c.loc, [], _, hS, hE, ?_, rfl, rfl⟩
    simp [Cx.vr, VR, DR]
  rcases h2 with h2 | ⟨b, off, rfl, _, hok, hr⟩
  · have hl0 : l = [] := by simpa using h2
    subst hl0
    refine (Any.strings_Join_none (ρ := joinS_ren) joinS joinX a cap ⟨sep.toArray⟩ c.w).mono fun e w' hp => fin e w' ?_
    obtain ⟨he, hw⟩ := hp
    exact ⟨by rw [he]; rfl, hw ▸ Below.refl _ _⟩
  · have := Any.strings_Join (ρ := joinS_ren) joinS joinX b off cap (l.map fun w => ⟨w.toArray⟩) ⟨sep.toArray⟩ c.w (fun j x hx => by
      rw [List.getElem?_map] at hx
      cases hj : l[j]? with
      | none => rw [hj] at hx; cases hx
      | some w =>
        rw [hj] at hx; simp only [Option.map_some, Option.some.injEq] at hx; subst hx
        obtain ⟨v, g1, _, g3⟩ := RowsR_get hr j (d := .str w) (by rw [List.getElem?_map, hj]; rfl)
        simp only [DR] at g1
        subst g1
        have := g3 0 (by omega)
        simpa [Value.cells, Cx.im] using this) hok.1 (by simp; omega) (by simpa using hcap) (by rw [hmap]; simp; omega)
    rw [List.length_map] at this
    rw [List.length_map]
    refine this.mono fun e w' hp => fin e w' ?_
    obtain ⟨he, hb⟩ := hp
    refine ⟨?_, hb⟩
    rw [he, hmap]

def strsOf : List D → Option (List (List UInt8))
  | [] => some []
  | .str s :: r => match strsOf r with | some l => some (s :: l) | none => none
  | _ => none
theorem strsOf_eq : ∀ {ds : List D} {l : List (List UInt8)}, strsOf ds = some l → ds = l.map .str
  | [], l, h => by simp [strsOf] at h; subst h; rfl
  | d :: r, l, h => by
    cases d with
    | str s =>
      simp only [strsOf] at h
      split at h
      · rename_i l' hl
        cases h
        rw [strsOf_eq hl]; rfl
      · cases h
    | _ => simp [strsOf] at h
/-- The strings of a list, by value or owned. -/
def strsAt (σ : List Ob) : V → Option (List (List UInt8))
  | .d (.lst 1 ds) => strsOf ds
  | .sl o 0 n => match σ[o]? with
    | some (.arr 1 _ es) => match Nat.beq n es.length with | true => strsOf es | false => none
    | _ => none
  | _ => none
theorem strsAt_read {σ : List Ob} {x : V} {l : List (List UInt8)} (h : strsAt σ x = some l) : ReadV σ x (.lst 1 (l.map .str)) := by
  unfold strsAt at h
  split at h
  · rw [← strsOf_eq h]; exact ReadV.d _ _
  · split at h
    · rename_i ho
      split at h
      · rename_i hb
        rw [← strsOf_eq h]
        exact ReadV.arr ho (Nat.eq_of_beq_eq_true hb)
      · cases h
    · cases h
  · cases h

/-- The library's natives, and Strip. -/
noncomputable def natL : Nat' := fun f args σ => match f with
  | 5 => match args with
    | [.d (.str s)] => match Nat.ble s.length 35184372088832 with | true => openS (stripL false s) fun s => some (.d (.str s), σ) | false => none
    | _ => none
  | 91 => match args with
    | [x, .d (.str sep)] => match strsAt σ x with
      | some l => match Nat.ble l.length 1048576 with
        | true => openS (Lib.join l sep) fun s => match Nat.ble s.length 1048576 with | true => some (.d (.str s), σ) | false => none
        | false => none
      | none => none
    | _ => none
  | _ => none
theorem natL_ok : CallOk Tryz.prog natL := fun f args σ v σ' h => by
  unfold natL at h
  split at h
  · split at h
    · split at h
      · rename_i hb
        rw [openS_eq] at h
        cases h
        exact strip5 _ (Nat.le_of_ble_eq_true hb) σ
      · cases h
    · cases h
  · split at h
    · split at h
      · rename_i l hl
        split at h
        · rename_i hb
          rw [openS_eq] at h
          split at h
          · rename_i hb2
            cases h
            have := callA_thaw (τ := σ) (join91d l _ (Nat.le_of_ble_eq_true hb2) (Nat.le_of_ble_eq_true hb)) (fun r σ' ⟨h1, h2⟩ => by subst h1; subst h2; exact ⟨rfl, by simp⟩) (.cons (strsAt_read hl) (.cons (ReadV.d _ _) (.nil _)))
            refine callA_mono this fun r σ' q => ?_
            obtain ⟨r0, σ0, ⟨rfl, rfl⟩, rfl, rfl⟩ := q
            exact ⟨embV_d _ _, by simp [storeBack, backInto]⟩
          · cases h
        · cases h
      · cases h
    · cases h
  · cases h
end Go.Proofs.YteafabpedfgedaaGreatDoor.Am
end
/- The law's functions over texts: the reference, has. -/
section
set_option linter.unusedSimpArgs false
set_option linter.defProp false
set_option linter.unusedVariables false
set_option maxRecDepth 10000
set_option maxHeartbeats 2000000
namespace Go.Proofs.YteafabpedfgedaaGreatDoor.Am
open Go Go.Proofs


def W3 := And.intro T3 <| And.intro T4 <| And.intro T9 <| T24
def W6 := And.intro T3 <| And.intro T4 <| T9
def W7 := And.intro T3 <| T9
def W15 := And.intro T3 <| T9
def W16 :=  T5

theorem ixs {s : W} {k : Nat} {b : UInt8} (h : s[k]? = some b) : indexF Tryz.prog 9 (.d (.str s)) (.d (.int .i64 (k : Int))) = some (.d (.int .u8 (b.toNat : Int))) := by
  have ht : isStrT Tryz.prog 9 = true := by simp only [T9]
  simp only [indexF, ht]
  rw [if_pos ⟨trivial, by omega⟩]
  simp [h]
theorem slc9 {s : W} {σ : List Ob} (i j : Nat) (h : i ≤ j) (hj : j ≤ s.length) : sliceF Tryz.prog 9 σ (.d (.str s)) (some (.d (.int .i64 (i : Int)))) (some (.d (.int .i64 (j : Int)))) none = some (.d (.str ((s.drop i).take (j - i)))) := by
  have ht : isStrT Tryz.prog 9 = true := by simp only [T9]
  simp only [sliceF, optNat_nat, optNat_none, ht, Option.getD_none, Option.getD_some]
  rw [if_pos ⟨trivial, trivial⟩, if_pos ⟨h, hj⟩]
  simp [cutS, List.take_drop, Nat.add_sub_cancel' h]

theorem pre_take (p x : W) : p.isPrefixOf x = (decide (p.length ≤ x.length) && (x.take p.length == p)) := by
  rw [Bool.eq_iff_iff, List.isPrefixOf_iff_prefix, Bool.and_eq_true, decide_eq_true_eq, beq_iff_eq]
  constructor
  · rintro ⟨t, rfl⟩
    exact ⟨by simp, by simp⟩
  · rintro ⟨_, h⟩
    exact ⟨x.drop p.length, by have := List.take_append_drop p.length x; rwa [h] at this⟩

theorem space16 (c : UInt8) (σ : List Ob) : callA Tryz.prog 16 [.d (.int .u8 (c.toNat : Int))] σ fun r σ' => r = .d (.bool (isSp c)) ∧ σ' = σ := by
  refine w16.go fun K hK => ?_
  by_cases h1 : c.toNat = 32
  · have e1 : ((c.toNat : Int) == 32) = true := by simp; omega
    simp only [e16, c16, p16, Tryz.f16, codeOf, comp, opsOf, stOf, cop, cstp, copAt, planFor, List.find?, List.find?_nil, Option.map_none, Option.getD_none, List.any_cons, List.any_nil, Stp.idx, Bool.or_false, Nat.reduceBEq, ↓RP, RS, Int.reduceBEq, Int.reduceBNe, Int.reduceLT, Int.reduceLE, Int.reduceAdd, Int.reduceSub, ↓reduceIte, Nat.reduceAdd, Nat.reduceMul, Nat.reduceSub, Nat.reduceLT, Nat.reduceLeDiff, Nat.reduceEqDiff, decide_true, decide_false, fieldAddrF, undE, tupE, W16, e1]
    exact hK.ret (by rfl) ⟨by rw [isSp_iff.2 (.inl h1)] <;> rfl, rfl⟩
  have e1 : ((c.toNat : Int) == 32) = false := by simp; omega
  by_cases h2 : c.toNat = 9
  · have e2 : ((c.toNat : Int) == 9) = true := by simp; omega
    simp only [e16, c16, p16, Tryz.f16, codeOf, comp, opsOf, stOf, cop, cstp, copAt, planFor, List.find?, List.find?_nil, Option.map_none, Option.getD_none, List.any_cons, List.any_nil, Stp.idx, Bool.or_false, Nat.reduceBEq, ↓RP, RS, Int.reduceBEq, Int.reduceBNe, Int.reduceLT, Int.reduceLE, Int.reduceAdd, Int.reduceSub, ↓reduceIte, Nat.reduceAdd, Nat.reduceMul, Nat.reduceSub, Nat.reduceLT, Nat.reduceLeDiff, Nat.reduceEqDiff, decide_true, decide_false, fieldAddrF, undE, tupE, W16, e1, e2]
    exact hK.ret (by rfl) ⟨by rw [isSp_iff.2 (.inr (.inl h2))] <;> rfl, rfl⟩
  have e2 : ((c.toNat : Int) == 9) = false := by simp; omega
  by_cases h3 : c.toNat = 10
  · have e3 : ((c.toNat : Int) == 10) = true := by simp; omega
    simp only [e16, c16, p16, Tryz.f16, codeOf, comp, opsOf, stOf, cop, cstp, copAt, planFor, List.find?, List.find?_nil, Option.map_none, Option.getD_none, List.any_cons, List.any_nil, Stp.idx, Bool.or_false, Nat.reduceBEq, ↓RP, RS, Int.reduceBEq, Int.reduceBNe, Int.reduceLT, Int.reduceLE, Int.reduceAdd, Int.reduceSub, ↓reduceIte, Nat.reduceAdd, Nat.reduceMul, Nat.reduceSub, Nat.reduceLT, Nat.reduceLeDiff, Nat.reduceEqDiff, decide_true, decide_false, fieldAddrF, undE, tupE, W16, e1, e2, e3]
    exact hK.ret (by rfl) ⟨by rw [isSp_iff.2 (.inr (.inr h3))] <;> rfl, rfl⟩
  have e3 : ((c.toNat : Int) == 10) = false := by simp; omega
  have e4 : isSp c = false := by
    cases e : isSp c with
    | false => rfl
    | true => rw [isSp_iff] at e; omega
  simp only [e16, c16, p16, Tryz.f16, codeOf, comp, opsOf, stOf, cop, cstp, copAt, planFor, List.find?, List.find?_nil, Option.map_none, Option.getD_none, List.any_cons, List.any_nil, Stp.idx, Bool.or_false, Nat.reduceBEq, ↓RP, RS, Int.reduceBEq, Int.reduceBNe, Int.reduceLT, Int.reduceLE, Int.reduceAdd, Int.reduceSub, ↓reduceIte, Nat.reduceAdd, Nat.reduceMul, Nat.reduceSub, Nat.reduceLT, Nat.reduceLeDiff, Nat.reduceEqDiff, decide_true, decide_false, fieldAddrF, undE, tupE, W16, e1, e2, e3]
  exact hK.ret (by rfl) ⟨by rw [e4] <;> rfl, rfl⟩

theorem begins15 (s p : W) (i : Nat) (hi : i ≤ s.length) (hs : s.length ≤ 1048576) (hp : p.length ≤ 1048576) (σ : List Ob) : callA Tryz.prog 15 [.d (.str s), .d (.int .i64 (i : Int)), .d (.str p)] σ fun r σ' => r = .d (.bool (p.isPrefixOf (s.drop i))) ∧ σ' = σ := by
  refine w15.go fun K hK => ?_
  have hw : IntKind.i64.wrap ((i : Int) + (p.length : Int)) = ((i + p.length : Nat) : Int) := by rw [IntWalk.i64_in _ (by omega)]; omega
  have hpt := pre_take p (s.drop i)
  rw [List.length_drop] at hpt
  rw [hpt] at hK
  by_cases h : i + p.length ≤ s.length
  · have hd : decide (((i + p.length : Nat) : Int) ≤ (s.length : Int)) = true := decide_eq_true (by omega)
    have sl := slc9 (s := s) (σ := σ) i (i + p.length) (by omega) h
    rw [Nat.add_sub_cancel_left] at sl
    have hd2 : decide (p.length ≤ s.length - i) = true := decide_eq_true (by omega)
    simp only [e15, c15, p15, Tryz.f15, codeOf, comp, opsOf, stOf, cop, cstp, copAt, planFor, List.find?, List.find?_nil, Option.map_none, Option.getD_none, List.any_cons, List.any_nil, Stp.idx, Bool.or_false, Nat.reduceBEq, ↓RP, RS, Int.reduceBEq, Int.reduceBNe, Int.reduceLT, Int.reduceLE, Int.reduceAdd, Int.reduceSub, ↓reduceIte, Nat.reduceAdd, Nat.reduceMul, Nat.reduceSub, Nat.reduceLT, Nat.reduceLeDiff, Nat.reduceEqDiff, decide_true, decide_false, fieldAddrF, undE, tupE, W15, hw, hd, sl, strBin]
    exact hK.ret (by rfl) ⟨by rw [hd2, Bool.true_and] <;> rfl, rfl⟩
  · have hd : decide (((i + p.length : Nat) : Int) ≤ (s.length : Int)) = false := decide_eq_false (by omega)
    by_cases h0 : p.length ≤ s.length - i
    · omega
    · have hd2 : decide (p.length ≤ s.length - i) = false := decide_eq_false h0
      simp only [e15, c15, p15, Tryz.f15, codeOf, comp, opsOf, stOf, cop, cstp, copAt, planFor, List.find?, List.find?_nil, Option.map_none, Option.getD_none, List.any_cons, List.any_nil, Stp.idx, Bool.or_false, Nat.reduceBEq, ↓RP, RS, Int.reduceBEq, Int.reduceBNe, Int.reduceLT, Int.reduceLE, Int.reduceAdd, Int.reduceSub, ↓reduceIte, Nat.reduceAdd, Nat.reduceMul, Nat.reduceSub, Nat.reduceLT, Nat.reduceLeDiff, Nat.reduceEqDiff, decide_true, decide_false, fieldAddrF, undE, tupE, W15, hw, hd]
      exact hK.ret (by rfl) ⟨by rw [hd2, Bool.false_and] <;> rfl, rfl⟩

theorem has_short : ∀ (x t : W), x.length < t.length → hasW x t = false
  | [], t, h => by
    cases t with
    | nil => simp at h
    | cons a t => rfl
  | c :: x, t, h => by
    simp only [hasW, Bool.or_eq_false_iff]
    refine ⟨?_, has_short x t (by simp at h; omega)⟩
    rw [pre_take, Bool.and_eq_false_iff]
    exact .inl (decide_eq_false (by omega))
theorem has_step {s t : W} {i : Nat} (h : i + t.length ≤ s.length) : (((s.drop i).take t.length == t) = true → hasW (s.drop i) t = true) ∧ (((s.drop i).take t.length == t) = false → i < s.length ∧ hasW (s.drop i) t = hasW (s.drop (i + 1)) t) := by
  by_cases hi : i < s.length
  · have e : s.drop i = s[i] :: s.drop (i + 1) := List.drop_eq_getElem_cons hi
    have hp : t.isPrefixOf (s.drop i) = ((s.drop i).take t.length == t) := by
      rw [pre_take, List.length_drop, decide_eq_true (by omega), Bool.true_and]
    refine ⟨fun hm => ?_, fun hm => ⟨hi, ?_⟩⟩
    · rw [hm] at hp
      rw [e] at hp ⊢
      rw [hasW, hp, Bool.true_or]
    · rw [hm] at hp
      rw [e] at hp ⊢
      rw [hasW, hp, Bool.false_or]
  · have h0 : t = [] := List.length_eq_zero_iff.1 (by omega)
    subst h0
    refine ⟨fun _ => ?_, fun hm => by simp at hm⟩
    cases s.drop i <;> simp [hasW]

theorem has7 (s t : W) (hs : s.length ≤ 1048576) (ht : t.length ≤ 1048576) (σ : List Ob) : callA Tryz.prog 7 [.d (.str s), .d (.str t)] σ fun r σ' => r = .d (.bool (hasW s t)) ∧ σ' = σ := by
  refine w7.go fun K hK => ?_
  simp only [e7, c7, p7, Tryz.f7, codeOf, comp, opsOf, stOf, cop, cstp, copAt, planFor, List.find?, List.find?_nil, Option.map_none, Option.getD_none, List.any_cons, List.any_nil, Stp.idx, Bool.or_false, Nat.reduceBEq, ↓RP, RS, Int.reduceBEq, Int.reduceBNe, Int.reduceLT, Int.reduceLE, Int.reduceAdd, Int.reduceSub, ↓reduceIte, Nat.reduceAdd, Nat.reduceMul, Nat.reduceSub, Nat.reduceLT, Nat.reduceLeDiff, Nat.reduceEqDiff, decide_true, decide_false, fieldAddrF, undE, tupE, W7]
  refine Loop_k [0, 1, 5] (fun i : Nat => fr 0 24 [(0, .d (.str s)), (1, .d (.str t)), (5, .d (.int .i64 i))]) (fun _ => σ) (fun i => i ≤ s.length ∧ hasW (s.drop i) t = hasW s t) (fun i => s.length - i) 0 (by kernel_rfl) rfl ⟨Nat.zero_le _, rfl⟩ fun i ⟨hi, hI⟩ => ?_
  have hw : IntKind.i64.wrap ((i : Int) + (t.length : Int)) = ((i + t.length : Nat) : Int) := by rw [IntWalk.i64_in _ (by omega)]; omega
  have hw1 : IntKind.i64.wrap ((i : Int) + 1) = ((i + 1 : Nat) : Int) := by rw [IntWalk.i64_in _ (by omega)]; rfl
  by_cases h : i + t.length ≤ s.length
  · have hd : decide (((i + t.length : Nat) : Int) ≤ (s.length : Int)) = true := decide_eq_true (by omega)
    have sl := slc9 (s := s) (σ := σ) i (i + t.length) (by omega) h
    rw [Nat.add_sub_cancel_left] at sl
    obtain ⟨g1, g2⟩ := has_step h
    cases hm : (s.drop i).take t.length == t with
    | true =>
      simp only [fr, ↓RP, RS, Int.reduceBEq, Int.reduceBNe, Int.reduceLT, Int.reduceLE, Int.reduceAdd, Int.reduceSub, ↓reduceIte, Nat.reduceAdd, Nat.reduceMul, Nat.reduceSub, Nat.reduceLT, Nat.reduceLeDiff, Nat.reduceEqDiff, decide_true, decide_false, fieldAddrF, undE, tupE, W7, hw, hd, sl, strBin, hm]
      exact hK.ret (by rfl) ⟨by rw [← hI, g1 hm] <;> rfl, rfl⟩
    | false =>
      obtain ⟨k1, k2⟩ := g2 hm
      simp only [fr, ↓RP, RS, Int.reduceBEq, Int.reduceBNe, Int.reduceLT, Int.reduceLE, Int.reduceAdd, Int.reduceSub, ↓reduceIte, Nat.reduceAdd, Nat.reduceMul, Nat.reduceSub, Nat.reduceLT, Nat.reduceLeDiff, Nat.reduceEqDiff, decide_true, decide_false, fieldAddrF, undE, tupE, W7, hw, hd, sl, strBin, hm, hw1]
      exact seqK_n ⟨i + 1, ⟨by omega, by rw [← k2, hI]⟩, by omega, by kernel_rfl, rfl⟩
  · have hd : decide (((i + t.length : Nat) : Int) ≤ (s.length : Int)) = false := decide_eq_false (by omega)
    simp only [fr, ↓RP, RS, Int.reduceBEq, Int.reduceBNe, Int.reduceLT, Int.reduceLE, Int.reduceAdd, Int.reduceSub, ↓reduceIte, Nat.reduceAdd, Nat.reduceMul, Nat.reduceSub, Nat.reduceLT, Nat.reduceLeDiff, Nat.reduceEqDiff, decide_true, decide_false, fieldAddrF, undE, tupE, W7, hw, hd]
    exact hK.ret (by rfl) ⟨by rw [← hI, has_short _ _ (by rw [List.length_drop]; omega)] <;> rfl, rfl⟩

theorem strip_sp (s : W) (h : ∀ c, s.head? = some c → isSp c = true) : stripL true s = stripL false s := by
  cases s with
  | nil => rfl
  | cons c s =>
    have := h c rfl
    rw [stripL, stripL, if_pos this, if_neg (by rw [lnk_sp this]; decide)]
theorem strip_in {s : W} {j : Nat} {c : UInt8} (h : s[j]? = some c) (hc : isSp c = false) : stripL true (s.drop j) = stripL true (s.drop (j + 1)) := by
  obtain ⟨hj, e⟩ := List.getElem?_eq_some_iff.1 h
  rw [List.drop_eq_getElem_cons hj, stripL, e, hc]; rfl

theorem strip_link {x r : W} {c : UInt8} (h : x = c :: r) (hl : lnk x = true) (hc : isSp c = false) : stripL true x = stripL false x := by
  subst h
  rw [stripL, stripL, if_pos hl, hc]; rfl
theorem ref6 (s : W) (hs : s.length ≤ 1048576) (σ : List Ob) : callA Tryz.prog 6 [.d (.str s)] σ fun r σ' => r = .d (.str (stripL false s)) ∧ σ' = σ := by
  refine w6.go fun K hK => ?_
  simp only [e6, c6, p6, Tryz.f6, codeOf, comp, opsOf, stOf, cop, cstp, copAt, planFor, List.find?, List.find?_nil, Option.map_none, Option.getD_none, List.any_cons, List.any_nil, Stp.idx, Bool.or_false, Nat.reduceBEq, ↓RP, RS, Int.reduceBEq, Int.reduceBNe, Int.reduceLT, Int.reduceLE, Int.reduceAdd, Int.reduceSub, ↓reduceIte, Nat.reduceAdd, Nat.reduceMul, Nat.reduceSub, Nat.reduceLT, Nat.reduceLeDiff, Nat.reduceEqDiff, decide_true, decide_false, fieldAddrF, undE, tupE, W6]
  refine Loop_k [0, 3, 4] (fun y : Nat × W => fr 0 40 [(0, .d (.str s)), (3, .d (.str y.2)), (4, .d (.int .i64 y.1))]) (fun _ => σ) (fun y => y.1 ≤ s.length ∧ y.2.length ≤ y.1 ∧ y.2 ++ stripL false (s.drop y.1) = stripL false s) (fun y => s.length - y.1) (0, []) (by kernel_rfl) rfl ⟨Nat.zero_le _, Nat.le_refl _, rfl⟩ fun ⟨i, acc⟩ hI => ?_
  obtain ⟨hi, hal, hI⟩ := hI
  simp only at hi hal hI ⊢
  by_cases hlt : i < s.length
  · have hd : decide ((i : Int) < (s.length : Int)) = true := decide_eq_true (by omega)
    have hw1 : IntKind.i64.wrap ((i : Int) + 1) = ((i + 1 : Nat) : Int) := by rw [IntWalk.i64_in _ (by omega)]; rfl
    have hcons : s.drop i = s[i] :: s.drop (i + 1) := List.drop_eq_getElem_cons hlt
    -- a link
    have lk : lnk (s.drop i) = true → isSp s[i] = false := fun h => by
      cases e : isSp s[i] with
      | false => rfl
      | true => rw [hcons, lnk_sp e] at h; cases h
    simp only [fr, ↓RP, RS, Int.reduceBEq, Int.reduceBNe, Int.reduceLT, Int.reduceLE, Int.reduceAdd, Int.reduceSub, ↓reduceIte, Nat.reduceAdd, Nat.reduceMul, Nat.reduceSub, Nat.reduceLT, Nat.reduceLeDiff, Nat.reduceEqDiff, decide_true, decide_false, fieldAddrF, undE, tupE, W6, hd]
    refine CallK_use' (begins15 s lkA i hi hs (by decide) σ) fun v σ' ⟨q1, q2⟩ => ?_
    subst q1; rw [q2]; clear q2
    cases hA : lkA.isPrefixOf (s.drop i) with
    | true =>
      have hlk : lnk (s.drop i) = true := by rw [lnk, hA]; rfl
      simp only [↓RP, RS, Int.reduceBEq, Int.reduceBNe, Int.reduceLT, Int.reduceLE, Int.reduceAdd, Int.reduceSub, ↓reduceIte, Nat.reduceAdd, Nat.reduceMul, Nat.reduceSub, Nat.reduceLT, Nat.reduceLeDiff, Nat.reduceEqDiff, decide_true, decide_false, fieldAddrF, undE, tupE, W6]
      refine Loop_k [0, 3, 4] (fun j : Nat => fr 0 40 [(0, .d (.str s)), (3, .d (.str acc)), (4, .d (.int .i64 j))]) (fun _ => σ) (fun j => i ≤ j ∧ j ≤ s.length ∧ stripL true (s.drop j) = stripL true (s.drop i)) (fun j => s.length - j) i (by kernel_rfl) rfl ⟨Nat.le_refl _, hi, rfl⟩ fun j hJ => ?_
      obtain ⟨hij, hj, hJ⟩ := hJ
      have hl0 := lk hlk
      have done : (∀ c, (s.drop j).head? = some c → isSp c = true) → (j ≤ s.length ∧ acc.length ≤ j ∧ acc ++ stripL false (s.drop j) = stripL false s) ∧ s.length - j < s.length - i := fun h => by
        have hne : i ≠ j := by
          rintro rfl
          have := h s[i] (by rw [hcons]; rfl)
          rw [hl0] at this; cases this
        refine ⟨⟨hj, by omega, ?_⟩, by omega⟩
        rw [← hI, ← strip_sp _ h, hJ, strip_link hcons hlk hl0]
      by_cases hjl : j < s.length
      · have hdj : decide ((j : Int) < (s.length : Int)) = true := decide_eq_true (by omega)
        have hwj : IntKind.i64.wrap ((j : Int) + 1) = ((j + 1 : Nat) : Int) := by rw [IntWalk.i64_in _ (by omega)]; rfl
        have hc : s[j]? = some s[j] := List.getElem?_eq_getElem hjl
        have x1 := ixs hc
        simp only [fr, ↓RP, RS, Int.reduceBEq, Int.reduceBNe, Int.reduceLT, Int.reduceLE, Int.reduceAdd, Int.reduceSub, ↓reduceIte, Nat.reduceAdd, Nat.reduceMul, Nat.reduceSub, Nat.reduceLT, Nat.reduceLeDiff, Nat.reduceEqDiff, decide_true, decide_false, fieldAddrF, undE, tupE, W6, hdj, x1]
        refine CallK_use' (space16 s[j] σ) fun v σ' ⟨q1, q2⟩ => ?_
        subst q1; rw [q2]; clear q2
        cases hsp : isSp s[j] with
        | true =>
          simp only [↓RP, RS, Int.reduceBEq, Int.reduceBNe, Int.reduceLT, Int.reduceLE, Int.reduceAdd, Int.reduceSub, ↓reduceIte, Nat.reduceAdd, Nat.reduceMul, Nat.reduceSub, Nat.reduceLT, Nat.reduceLeDiff, Nat.reduceEqDiff, decide_true, decide_false, fieldAddrF, undE, tupE, W6]
          obtain ⟨g1, g2⟩ := done fun c h => by
            rw [List.drop_eq_getElem_cons hjl] at h
            simp only [List.head?_cons, Option.some.injEq] at h
            rw [← h]; exact hsp
          exact seqK_n ⟨(j, acc), g1, g2, by kernel_rfl, rfl⟩
        | false =>
          simp only [↓RP, RS, Int.reduceBEq, Int.reduceBNe, Int.reduceLT, Int.reduceLE, Int.reduceAdd, Int.reduceSub, ↓reduceIte, Nat.reduceAdd, Nat.reduceMul, Nat.reduceSub, Nat.reduceLT, Nat.reduceLeDiff, Nat.reduceEqDiff, decide_true, decide_false, fieldAddrF, undE, tupE, W6, hwj]
          exact seqK_n ⟨j + 1, ⟨by omega, by omega, by rw [← strip_in hc hsp, hJ]⟩, by omega, by kernel_rfl, rfl⟩
      · have hdj : decide ((j : Int) < (s.length : Int)) = false := decide_eq_false (by omega)
        simp only [fr, ↓RP, RS, Int.reduceBEq, Int.reduceBNe, Int.reduceLT, Int.reduceLE, Int.reduceAdd, Int.reduceSub, ↓reduceIte, Nat.reduceAdd, Nat.reduceMul, Nat.reduceSub, Nat.reduceLT, Nat.reduceLeDiff, Nat.reduceEqDiff, decide_true, decide_false, fieldAddrF, undE, tupE, W6, hdj]
        obtain ⟨g1, g2⟩ := done fun c h => by
          rw [List.drop_of_length_le (by omega)] at h
          cases h
        exact seqK_n ⟨(j, acc), g1, g2, by kernel_rfl, rfl⟩
    | false =>
      simp only [↓RP, RS, Int.reduceBEq, Int.reduceBNe, Int.reduceLT, Int.reduceLE, Int.reduceAdd, Int.reduceSub, ↓reduceIte, Nat.reduceAdd, Nat.reduceMul, Nat.reduceSub, Nat.reduceLT, Nat.reduceLeDiff, Nat.reduceEqDiff, decide_true, decide_false, fieldAddrF, undE, tupE, W6]
      refine CallK_use' (begins15 s lkB i hi hs (by decide) σ) fun v σ' ⟨q1, q2⟩ => ?_
      subst q1; rw [q2]; clear q2
      cases hB : lkB.isPrefixOf (s.drop i) with
      | true =>
        have hlk : lnk (s.drop i) = true := by rw [lnk, hA, hB]; rfl
        simp only [↓RP, RS, Int.reduceBEq, Int.reduceBNe, Int.reduceLT, Int.reduceLE, Int.reduceAdd, Int.reduceSub, ↓reduceIte, Nat.reduceAdd, Nat.reduceMul, Nat.reduceSub, Nat.reduceLT, Nat.reduceLeDiff, Nat.reduceEqDiff, decide_true, decide_false, fieldAddrF, undE, tupE, W6]
        refine Loop_k [0, 3, 4] (fun j : Nat => fr 0 40 [(0, .d (.str s)), (3, .d (.str acc)), (4, .d (.int .i64 j))]) (fun _ => σ) (fun j => i ≤ j ∧ j ≤ s.length ∧ stripL true (s.drop j) = stripL true (s.drop i)) (fun j => s.length - j) i (by kernel_rfl) rfl ⟨Nat.le_refl _, hi, rfl⟩ fun j hJ => ?_
        obtain ⟨hij, hj, hJ⟩ := hJ
        have hl0 := lk hlk
        have done : (∀ c, (s.drop j).head? = some c → isSp c = true) → (j ≤ s.length ∧ acc.length ≤ j ∧ acc ++ stripL false (s.drop j) = stripL false s) ∧ s.length - j < s.length - i := fun h => by
          have hne : i ≠ j := by
            rintro rfl
            have := h s[i] (by rw [hcons]; rfl)
            rw [hl0] at this; cases this
          refine ⟨⟨hj, by omega, ?_⟩, by omega⟩
          rw [← hI, ← strip_sp _ h, hJ, strip_link hcons hlk hl0]
        by_cases hjl : j < s.length
        · have hdj : decide ((j : Int) < (s.length : Int)) = true := decide_eq_true (by omega)
          have hwj : IntKind.i64.wrap ((j : Int) + 1) = ((j + 1 : Nat) : Int) := by rw [IntWalk.i64_in _ (by omega)]; rfl
          have hc : s[j]? = some s[j] := List.getElem?_eq_getElem hjl
          have x1 := ixs hc
          simp only [fr, ↓RP, RS, Int.reduceBEq, Int.reduceBNe, Int.reduceLT, Int.reduceLE, Int.reduceAdd, Int.reduceSub, ↓reduceIte, Nat.reduceAdd, Nat.reduceMul, Nat.reduceSub, Nat.reduceLT, Nat.reduceLeDiff, Nat.reduceEqDiff, decide_true, decide_false, fieldAddrF, undE, tupE, W6, hdj, x1]
          refine CallK_use' (space16 s[j] σ) fun v σ' ⟨q1, q2⟩ => ?_
          subst q1; rw [q2]; clear q2
          cases hsp : isSp s[j] with
          | true =>
            simp only [↓RP, RS, Int.reduceBEq, Int.reduceBNe, Int.reduceLT, Int.reduceLE, Int.reduceAdd, Int.reduceSub, ↓reduceIte, Nat.reduceAdd, Nat.reduceMul, Nat.reduceSub, Nat.reduceLT, Nat.reduceLeDiff, Nat.reduceEqDiff, decide_true, decide_false, fieldAddrF, undE, tupE, W6]
            obtain ⟨g1, g2⟩ := done fun c h => by
              rw [List.drop_eq_getElem_cons hjl] at h
              simp only [List.head?_cons, Option.some.injEq] at h
              rw [← h]; exact hsp
            exact seqK_n ⟨(j, acc), g1, g2, by kernel_rfl, rfl⟩
          | false =>
            simp only [↓RP, RS, Int.reduceBEq, Int.reduceBNe, Int.reduceLT, Int.reduceLE, Int.reduceAdd, Int.reduceSub, ↓reduceIte, Nat.reduceAdd, Nat.reduceMul, Nat.reduceSub, Nat.reduceLT, Nat.reduceLeDiff, Nat.reduceEqDiff, decide_true, decide_false, fieldAddrF, undE, tupE, W6, hwj]
            exact seqK_n ⟨j + 1, ⟨by omega, by omega, by rw [← strip_in hc hsp, hJ]⟩, by omega, by kernel_rfl, rfl⟩
        · have hdj : decide ((j : Int) < (s.length : Int)) = false := decide_eq_false (by omega)
          simp only [fr, ↓RP, RS, Int.reduceBEq, Int.reduceBNe, Int.reduceLT, Int.reduceLE, Int.reduceAdd, Int.reduceSub, ↓reduceIte, Nat.reduceAdd, Nat.reduceMul, Nat.reduceSub, Nat.reduceLT, Nat.reduceLeDiff, Nat.reduceEqDiff, decide_true, decide_false, fieldAddrF, undE, tupE, W6, hdj]
          obtain ⟨g1, g2⟩ := done fun c h => by
            rw [List.drop_of_length_le (by omega)] at h
            cases h
          exact seqK_n ⟨(j, acc), g1, g2, by kernel_rfl, rfl⟩
      | false =>
        have hn : lnk (s.drop i) = false := by rw [lnk, hA, hB]; rfl
        have sl := slc9 (s := s) (σ := σ) i (i + 1) (by omega) hlt
        have h1 : (s.drop i).take (i + 1 - i) = [s[i]] := by rw [hcons, Nat.add_sub_cancel_left]; rfl
        rw [h1] at sl
        have ad : strBin .add acc [s[i]] = some (.str (acc ++ [s[i]])) := by rw [strBin, if_pos (by simp; omega)]
        simp only [↓RP, RS, Int.reduceBEq, Int.reduceBNe, Int.reduceLT, Int.reduceLE, Int.reduceAdd, Int.reduceSub, ↓reduceIte, Nat.reduceAdd, Nat.reduceMul, Nat.reduceSub, Nat.reduceLT, Nat.reduceLeDiff, Nat.reduceEqDiff, decide_true, decide_false, fieldAddrF, undE, tupE, W6, hw1, sl, ad]
        refine seqK_n ⟨(i + 1, acc ++ [s[i]]), ⟨by omega, by simp; omega, ?_⟩, by omega, by kernel_rfl, rfl⟩
        rw [hcons] at hn
        rw [hcons, stripL, if_neg (by rw [hn]; decide)] at hI
        rw [← hI]; simp
  · have hd : decide ((i : Int) < (s.length : Int)) = false := decide_eq_false (by omega)
    simp only [fr, ↓RP, RS, Int.reduceBEq, Int.reduceBNe, Int.reduceLT, Int.reduceLE, Int.reduceAdd, Int.reduceSub, ↓reduceIte, Nat.reduceAdd, Nat.reduceMul, Nat.reduceSub, Nat.reduceLT, Nat.reduceLeDiff, Nat.reduceEqDiff, decide_true, decide_false, fieldAddrF, undE, tupE, W6, hd]
    rw [List.drop_of_length_le (by omega), stripL, List.append_nil] at hI
    exact hK.ret (by rfl) ⟨by rw [hI] <;> rfl, rfl⟩
end Go.Proofs.YteafabpedfgedaaGreatDoor.Am
end
/- The walk of the law ScreenStrips, but for its small examples. -/
section
set_option linter.unusedSimpArgs false
set_option linter.unusedVariables false
set_option maxRecDepth 10000
set_option maxHeartbeats 2000000
namespace Go.Proofs.YteafabpedfgedaaGreatDoor.Am
open Go Go.Proofs

def gapsL : List D := [.str [32], .str [9], .str [10]]
theorem gaps3 {σ : List Ob} (s : List V) : buildSliceF Tryz.prog 24 3 σ s [(0, .const (.string ⟨#[32]⟩)), (1, .const (.string ⟨#[9]⟩)), (2, .const (.string ⟨#[10]⟩))] = some (.sl σ.length 0 3, σ ++ [.arr 1 false gapsL]) := by
  simp only [buildSliceF, T24, T9, inOrder, toDs, toD, flatOk, D.csz, D.cells, List.all_cons, List.all_nil, one1, beq_self_eq_true, if_true, Option.map_some, List.length_cons, List.length_nil]
  rfl

theorem load_arr1 {P : Program} {t : TypeId} {σ : List Ob} {o i : Nat} {mk : Bool} {es : List D} {d : D} (h1 : σ[o]? = some (.arr 1 mk es)) (h2 : es[i]? = some d) (hd : one1 d = true) (ha : aggT P t = false) (ht : okT P t = true) : loadF P t σ (.ptr o i 0) = some (.d d) := by
  have e1 : d.csz = some 1 := by cases d <;> first | rfl | cases hd
  have e2 : d.cells = [d] := by cases d <;> first | rfl | cases hd
  simp only [loadF, h1, h2, e1, if_true, takeD, e2, List.drop_zero, ha, ht, Bool.false_eq_true, if_false]

theorem law3 (hsmall : ∀ σ, callA Tryz.prog 4 [] σ fun r σ' => r = .d (.bool true) ∧ σ' = σ) (a b : W) (n : Int) : callA Tryz.prog 3 [.d (.str a), .d (.str b), .d (.int .i64 n)] [] fun r _ => r = .d (.bool true) := by
  refine w3.go fun K hK => ?_
  simp only [e3, c3, p3, Tryz.f3, codeOf, comp, opsOf, stOf, cop, cstp, copAt, planFor, List.find?, List.find?_nil, Option.map_none, Option.getD_none, List.any_cons, List.any_nil, Stp.idx, Bool.or_false, Nat.reduceBEq, ↓RP, RS, Int.reduceBEq, Int.reduceBNe, Int.reduceLT, Int.reduceLE, Int.reduceAdd, Int.reduceSub, ↓reduceIte, Nat.reduceAdd, Nat.reduceMul, Nat.reduceSub, Nat.reduceLT, Nat.reduceLeDiff, Nat.reduceEqDiff, decide_true, decide_false, fieldAddrF, undE, tupE, W3]
  refine CallK_use' (hsmall []) fun v σ' ⟨q1, q2⟩ => ?_
  subst q1; rw [q2]; clear q2
  by_cases ha : 3000 < a.length
  · have e1 : decide ((3000 : Int) < a.length) = true := decide_eq_true (by omega)
    simp only [↓RP, RS, Int.reduceBEq, Int.reduceBNe, Int.reduceLT, Int.reduceLE, Int.reduceAdd, Int.reduceSub, ↓reduceIte, Nat.reduceAdd, Nat.reduceMul, Nat.reduceSub, Nat.reduceLT, Nat.reduceLeDiff, Nat.reduceEqDiff, decide_true, decide_false, fieldAddrF, undE, tupE, W3, e1]
    exact hK.ret (by rfl) rfl
  have e1 : decide ((3000 : Int) < a.length) = false := decide_eq_false (by omega)
  by_cases hb : 3000 < b.length
  · have e2 : decide ((3000 : Int) < b.length) = true := decide_eq_true (by omega)
    simp only [↓RP, RS, Int.reduceBEq, Int.reduceBNe, Int.reduceLT, Int.reduceLE, Int.reduceAdd, Int.reduceSub, ↓reduceIte, Nat.reduceAdd, Nat.reduceMul, Nat.reduceSub, Nat.reduceLT, Nat.reduceLeDiff, Nat.reduceEqDiff, decide_true, decide_false, fieldAddrF, undE, tupE, W3, e1, e2]
    exact hK.ret (by rfl) rfl
  have e2 : decide ((3000 : Int) < b.length) = false := decide_eq_false (by omega)
  simp only [↓RP, RS, Int.reduceBEq, Int.reduceBNe, Int.reduceLT, Int.reduceLE, Int.reduceAdd, Int.reduceSub, ↓reduceIte, Nat.reduceAdd, Nat.reduceMul, Nat.reduceSub, Nat.reduceLT, Nat.reduceLeDiff, Nat.reduceEqDiff, decide_true, decide_false, fieldAddrF, undE, tupE, W3, e1, e2]
  refine CallK_use' (strip5 a (by omega) []) fun v σ' ⟨q1, q2⟩ => ?_
  subst q1; rw [q2]; clear q2
  simp only [↓RP, RS, Int.reduceBEq, Int.reduceBNe, Int.reduceLT, Int.reduceLE, Int.reduceAdd, Int.reduceSub, ↓reduceIte, Nat.reduceAdd, Nat.reduceMul, Nat.reduceSub, Nat.reduceLT, Nat.reduceLeDiff, Nat.reduceEqDiff, decide_true, decide_false, fieldAddrF, undE, tupE, W3]
  refine CallK_use' (strip5 b (by omega) []) fun v σ' ⟨q1, q2⟩ => ?_
  subst q1; rw [q2]; clear q2
  simp only [↓RP, RS, Int.reduceBEq, Int.reduceBNe, Int.reduceLT, Int.reduceLE, Int.reduceAdd, Int.reduceSub, ↓reduceIte, Nat.reduceAdd, Nat.reduceMul, Nat.reduceSub, Nat.reduceLT, Nat.reduceLeDiff, Nat.reduceEqDiff, decide_true, decide_false, fieldAddrF, undE, tupE, W3, gaps3, List.toList_toArray]
  have rm : ∀ (σ : List Ob) (x : Int), binF Tryz.prog .rem 3 σ (.d (.int .i64 x)) (.d (.int .i64 3)) = some (.d (.int .i64 (x.tmod 3))) := fun σ x => rfl
  have t1 := Int.tmod_lt_of_pos n (b := 3) (by omega)
  have t2 : -3 < n.tmod 3 := by have := Int.lt_tmod_of_pos n (b := 3) (by omega); omega
  have hw : IntKind.i64.wrap (n.tmod 3 + 3) = n.tmod 3 + 3 := IntWalk.i64_in _ (by omega)
  obtain ⟨g, hg, hg3⟩ : ∃ g : Nat, (n.tmod 3 + 3).tmod 3 = (g : Int) ∧ g < 3 := by
    have := Int.tmod_eq_emod_of_nonneg (a := n.tmod 3 + 3) (b := 3) (by omega)
    exact ⟨((n.tmod 3 + 3) % 3).toNat, by omega, by omega⟩
  obtain ⟨gp, hgp, hsp⟩ : ∃ gp : UInt8, gapsL[g]? = some (.str [gp]) ∧ isSp gp = true := by
    have : g = 0 ∨ g = 1 ∨ g = 2 := by omega
    rcases this with rfl | rfl | rfl
    · exact ⟨32, rfl, by decide⟩
    · exact ⟨9, rfl, by decide⟩
    · exact ⟨10, rfl, by decide⟩
  simp only [↓RP, RS, Int.reduceBEq, Int.reduceBNe, Int.reduceLT, Int.reduceLE, Int.reduceAdd, Int.reduceSub, ↓reduceIte, Nat.reduceAdd, Nat.reduceMul, Nat.reduceSub, Nat.reduceLT, Nat.reduceLeDiff, Nat.reduceEqDiff, decide_true, decide_false, fieldAddrF, undE, tupE, W3, rm, hw, hg]
  obtain ⟨σ1, hσ1⟩ : ∃ σ1, σ1 = [Ob.arr 1 false gapsL] := ⟨_, rfl⟩
  have g1 : σ1[0]? = some (.arr 1 false gapsL) := by rw [hσ1]; rfl
  have x1 : indexAddrF Tryz.prog 24 σ1 (.sl 0 0 3) (.d (.int .i64 (g : Int))) = some (.ptr 0 g 0) := by
    have := index_arr (P := Tryz.prog) (t := 24) (e := 9) (off := 0) (len := 3) (j := g) (kd := .i64) g1 (by simp only [W3]) (by simp only [W3]) (by simp [gapsL]) hg3
    rwa [Nat.zero_add] at this
  have x2 := load_arr1 (P := Tryz.prog) (t := 9) g1 hgp rfl (by simp only [W3]) (by simp only [W3])
  have exx : (stripL false a == stripL false a) = true := by simp
  have la := strip_len false a
  rw [← hσ1]
  simp only [↓RP, RS, Int.reduceBEq, Int.reduceBNe, Int.reduceLT, Int.reduceLE, Int.reduceAdd, Int.reduceSub, ↓reduceIte, Nat.reduceAdd, Nat.reduceMul, Nat.reduceSub, Nat.reduceLT, Nat.reduceLeDiff, Nat.reduceEqDiff, decide_true, decide_false, fieldAddrF, undE, tupE, W3, x1, x2]
  refine CallK_use' (ref6 a (by omega) σ1) fun v σ' ⟨q1, q2⟩ => ?_
  subst q1; rw [q2]; clear q2
  simp only [↓RP, RS, Int.reduceBEq, Int.reduceBNe, Int.reduceLT, Int.reduceLE, Int.reduceAdd, Int.reduceSub, ↓reduceIte, Nat.reduceAdd, Nat.reduceMul, Nat.reduceSub, Nat.reduceLT, Nat.reduceLeDiff, Nat.reduceEqDiff, decide_true, decide_false, fieldAddrF, undE, tupE, W3, strBin, exx]
  refine CallK_use' (strip5 (stripL false a) (by omega) σ1) fun v σ' ⟨q1, q2⟩ => ?_
  rw [strip_strip] at q1
  subst q1; rw [q2]; clear q2
  simp only [↓RP, RS, Int.reduceBEq, Int.reduceBNe, Int.reduceLT, Int.reduceLE, Int.reduceAdd, Int.reduceSub, ↓reduceIte, Nat.reduceAdd, Nat.reduceMul, Nat.reduceSub, Nat.reduceLT, Nat.reduceLeDiff, Nat.reduceEqDiff, decide_true, decide_false, fieldAddrF, undE, tupE, W3, strBin, exx]
  obtain ⟨c1, c2⟩ := has_clean (clean_strip false a)
  refine CallK_use' (has7 (stripL false a) lkA (by omega) (by decide) σ1) fun v σ' ⟨q1, q2⟩ => ?_
  rw [c1] at q1
  subst q1; rw [q2]; clear q2
  simp only [↓RP, RS, Int.reduceBEq, Int.reduceBNe, Int.reduceLT, Int.reduceLE, Int.reduceAdd, Int.reduceSub, ↓reduceIte, Nat.reduceAdd, Nat.reduceMul, Nat.reduceSub, Nat.reduceLT, Nat.reduceLeDiff, Nat.reduceEqDiff, decide_true, decide_false, fieldAddrF, undE, tupE, W3]
  refine CallK_use' (has7 (stripL false a) lkB (by omega) (by decide) σ1) fun v σ' ⟨q1, q2⟩ => ?_
  rw [c2] at q1
  subst q1; rw [q2]; clear q2
  simp only [↓RP, RS, Int.reduceBEq, Int.reduceBNe, Int.reduceLT, Int.reduceLE, Int.reduceAdd, Int.reduceSub, ↓reduceIte, Nat.reduceAdd, Nat.reduceMul, Nat.reduceSub, Nat.reduceLT, Nat.reduceLeDiff, Nat.reduceEqDiff, decide_true, decide_false, fieldAddrF, undE, tupE, W3]
  have a1 : strBin .add a [gp] = some (.str (a ++ [gp])) := by rw [strBin, if_pos (by simp; omega)]
  have a2 : strBin .add (a ++ [gp]) b = some (.str ((a ++ [gp]) ++ b)) := by rw [strBin, if_pos (by simp; omega)]
  have lb := strip_len false b
  have a3 : strBin .add (stripL false a) [gp] = some (.str (stripL false a ++ [gp])) := by rw [strBin, if_pos (by simp; omega)]
  have a4 : strBin .add (stripL false a ++ [gp]) (stripL false b) = some (.str ((stripL false a ++ [gp]) ++ stripL false b)) := by rw [strBin, if_pos (by simp; omega)]
  have hgap : stripL false ((a ++ [gp]) ++ b) = (stripL false a ++ [gp]) ++ stripL false b := by
    have := strip_gap hsp b false a
    simpa using this
  have hln : decide (((stripL false a).length : Int) ≤ a.length) = true := decide_eq_true (by omega)
  have heq : strBin .eql ((stripL false a ++ [gp]) ++ stripL false b) ((stripL false a ++ [gp]) ++ stripL false b) = some (.bool true) := by simp [strBin]
  refine CallK_use' (has7 a lkH (by omega) (by decide) σ1) fun v σ' ⟨q1, q2⟩ => ?_
  subst q1; rw [q2]; clear q2
  cases hh : hasW a lkH with
  | true =>
    simp only [↓RP, RS, Int.reduceBEq, Int.reduceBNe, Int.reduceLT, Int.reduceLE, Int.reduceAdd, Int.reduceSub, ↓reduceIte, Nat.reduceAdd, Nat.reduceMul, Nat.reduceSub, Nat.reduceLT, Nat.reduceLeDiff, Nat.reduceEqDiff, decide_true, decide_false, fieldAddrF, undE, tupE, W3, a1, a2, a3, a4]
    refine CallK_use' (strip5 ((a ++ [gp]) ++ b) (by simp; omega) σ1) fun v σ' ⟨q1, q2⟩ => ?_
    rw [hgap] at q1
    subst q1; rw [q2]; clear q2
    simp only [↓RP, RS, Int.reduceBEq, Int.reduceBNe, Int.reduceLT, Int.reduceLE, Int.reduceAdd, Int.reduceSub, ↓reduceIte, Nat.reduceAdd, Nat.reduceMul, Nat.reduceSub, Nat.reduceLT, Nat.reduceLeDiff, Nat.reduceEqDiff, decide_true, decide_false, fieldAddrF, undE, tupE, W3, a3, a4, heq, hln]
    exact hK.ret (by rfl) rfl
  | false =>
    have hxa : strBin .neq (stripL false a) a = some (.bool false) := by rw [strip_clean (clean_has hh)]; simp [strBin]
    simp only [↓RP, RS, Int.reduceBEq, Int.reduceBNe, Int.reduceLT, Int.reduceLE, Int.reduceAdd, Int.reduceSub, ↓reduceIte, Nat.reduceAdd, Nat.reduceMul, Nat.reduceSub, Nat.reduceLT, Nat.reduceLeDiff, Nat.reduceEqDiff, decide_true, decide_false, fieldAddrF, undE, tupE, W3, hxa, a1, a2, a3, a4]
    refine CallK_use' (strip5 ((a ++ [gp]) ++ b) (by simp; omega) σ1) fun v σ' ⟨q1, q2⟩ => ?_
    rw [hgap] at q1
    subst q1; rw [q2]; clear q2
    simp only [↓RP, RS, Int.reduceBEq, Int.reduceBNe, Int.reduceLT, Int.reduceLE, Int.reduceAdd, Int.reduceSub, ↓reduceIte, Nat.reduceAdd, Nat.reduceMul, Nat.reduceSub, Nat.reduceLT, Nat.reduceLeDiff, Nat.reduceEqDiff, decide_true, decide_false, fieldAddrF, undE, tupE, W3, a3, a4, heq, hln]
    exact hK.ret (by rfl) rfl
end Go.Proofs.YteafabpedfgedaaGreatDoor.Am
end
/- Arithmetic on unsigned numbers that are given as naturals: what the engine's operators yield. -/
section
set_option linter.unusedSimpArgs false
namespace Go.Proofs.YteafabpedfgedaaGreatDoor.Am
open Go

theorem wrap_u32 (n : Nat) : IntKind.u32.wrap (n : Int) = ((n % 4294967296 : Nat) : Int) := by rw [IntKind.wrap_u32]; omega
theorem wrap_u64 (n : Nat) : IntKind.u64.wrap (n : Int) = ((n % 18446744073709551616 : Nat) : Int) := by rw [IntKind.wrap_u64]; omega
theorem wrap_u8 (n : Nat) : IntKind.u8.wrap (n : Int) = ((n % 256 : Nat) : Int) := by rw [IntKind.wrap_u8]; omega

section
variable {P : Program} {t : TypeId} {σ : List Ob} (a b : Nat)
theorem u32_add : binF P .add t σ (.d (.int .u32 a)) (.d (.int .u32 b)) = some (.d (.int .u32 ((a + b) % 4294967296 : Nat))) := by
  rw [bin_add, ← Int.natCast_add, wrap_u32]
theorem bv_nat (w n : Nat) : BitVec.ofInt w (n : Int) = BitVec.ofNat w n := by simp
theorem bv_xor (w a b : Nat) : (BitVec.ofInt w a ^^^ BitVec.ofInt w b).toNat = (a ^^^ b) % 2 ^ w := by
  rw [bv_nat, bv_nat, BitVec.toNat_xor, BitVec.toNat_ofNat, BitVec.toNat_ofNat, ← Nat.xor_mod_two_pow]
theorem bv_and (w a b : Nat) : (BitVec.ofInt w a &&& BitVec.ofInt w b).toNat = (a &&& b) % 2 ^ w := by
  rw [bv_nat, bv_nat, BitVec.toNat_and, BitVec.toNat_ofNat, BitVec.toNat_ofNat, ← Nat.and_mod_two_pow]
theorem bv_or (w a b : Nat) : (BitVec.ofInt w a ||| BitVec.ofInt w b).toNat = (a ||| b) % 2 ^ w := by
  rw [bv_nat, bv_nat, BitVec.toNat_or, BitVec.toNat_ofNat, BitVec.toNat_ofNat, ← Nat.or_mod_two_pow]
theorem u32_xor : binF P .xor t σ (.d (.int .u32 a)) (.d (.int .u32 b)) = some (.d (.int .u32 ((a ^^^ b) % 4294967296 : Nat))) := by
  show some (V.d (.int .u32 (IntKind.u32.wrap ((BitVec.ofInt 32 (a : Int) ^^^ BitVec.ofInt 32 (b : Int)).toNat : Int)))) = _
  rw [bv_xor, wrap_u32, Nat.mod_mod]
theorem u32_and : binF P .and t σ (.d (.int .u32 a)) (.d (.int .u32 b)) = some (.d (.int .u32 ((a &&& b) % 4294967296 : Nat))) := by
  show some (V.d (.int .u32 (IntKind.u32.wrap ((BitVec.ofInt 32 (a : Int) &&& BitVec.ofInt 32 (b : Int)).toNat : Int)))) = _
  rw [bv_and, wrap_u32, Nat.mod_mod]
theorem u32_or : binF P .or t σ (.d (.int .u32 a)) (.d (.int .u32 b)) = some (.d (.int .u32 ((a ||| b) % 4294967296 : Nat))) := by
  show some (V.d (.int .u32 (IntKind.u32.wrap ((BitVec.ofInt 32 (a : Int) ||| BitVec.ofInt 32 (b : Int)).toNat : Int)))) = _
  rw [bv_or, wrap_u32, Nat.mod_mod]
theorem u32_com : unF .xor (.d (.int .u32 a)) = some (.d (.int .u32 ((4294967295 ^^^ a) % 4294967296 : Nat))) := by
  have h := u32_xor (P := default) (t := 0) (σ := []) 4294967295 a
  simp only [binF, if_true] at h
  simp only [unF]
  exact h
theorem u64_add : binF P .add t σ (.d (.int .u64 a)) (.d (.int .u64 b)) = some (.d (.int .u64 ((a + b) % 18446744073709551616 : Nat))) := by
  rw [bin_add, ← Int.natCast_add, wrap_u64]
theorem u64_mul : binF P .mul t σ (.d (.int .u64 a)) (.d (.int .u64 b)) = some (.d (.int .u64 ((a * b) % 18446744073709551616 : Nat))) := by
  rw [bin_mul, ← Int.natCast_mul, wrap_u64]
theorem u64_and : binF P .and t σ (.d (.int .u64 a)) (.d (.int .u64 b)) = some (.d (.int .u64 ((a &&& b) % 18446744073709551616 : Nat))) := by
  show some (V.d (.int .u64 (IntKind.u64.wrap ((BitVec.ofInt 64 (a : Int) &&& BitVec.ofInt 64 (b : Int)).toNat : Int)))) = _
  rw [bv_and, wrap_u64, Nat.mod_mod]
theorem u64_or : binF P .or t σ (.d (.int .u64 a)) (.d (.int .u64 b)) = some (.d (.int .u64 ((a ||| b) % 18446744073709551616 : Nat))) := by
  show some (V.d (.int .u64 (IntKind.u64.wrap ((BitVec.ofInt 64 (a : Int) ||| BitVec.ofInt 64 (b : Int)).toNat : Int)))) = _
  rw [bv_or, wrap_u64, Nat.mod_mod]
theorem u64_sub (h : b ≤ a) (ha : a < 18446744073709551616) : binF P .sub t σ (.d (.int .u64 a)) (.d (.int .u64 b)) = some (.d (.int .u64 ((a - b : Nat)))) := by
  rw [bin_sub]
  have : (a : Int) - b = ((a - b : Nat) : Int) := by omega
  rw [this, wrap_u64, Nat.mod_eq_of_lt (by omega)]
theorem u64_quo (h : b ≠ 0) (ha : a < 18446744073709551616) : binF P .quo t σ (.d (.int .u64 a)) (.d (.int .u64 b)) = some (.d (.int .u64 ((a / b : Nat)))) := by
  have hb : ¬ ((b : Int) = 0) := by omega
  have e : (a : Int).tdiv b = ((a / b : Nat) : Int) := IntWalk.up_tdiv rfl rfl
  have hle : a / b ≤ a := Nat.div_le_self a b
  simp only [binF, intBin, if_true, if_neg hb, Option.map_some, e, wrap_u64]
  rw [Nat.mod_eq_of_lt (by omega)]
theorem u64_rem (h : b ≠ 0) : binF P .rem t σ (.d (.int .u64 a)) (.d (.int .u64 b)) = some (.d (.int .u64 ((a % b : Nat)))) := by
  have hb : ¬ ((b : Int) = 0) := by omega
  have e : (a : Int).tmod b = ((a % b : Nat) : Int) := IntWalk.up_tmod rfl rfl
  simp only [binF, intBin, if_true, if_neg hb, Option.map_some, e]
theorem u32_shl (k : IntKind) (n : Nat) (hn : n ≤ 32) : binF P .shl t σ (.d (.int .u32 a)) (.d (.int k n)) = some (.d (.int .u32 ((a * 2 ^ n) % 4294967296 : Nat))) := by
  have h0 : ¬ ((n : Int) < 0) := by omega
  have hm : min (n : Int).toNat 32 = n := by simp; omega
  have e : (a : Int) * 2 ^ n = ((a * 2 ^ n : Nat) : Int) := by simp
  simp only [binF, intShift, if_neg h0, IntKind.bits, hm, Option.map_some, e, wrap_u32]
theorem fdiv_nat (a b : Nat) : Int.fdiv (a : Int) ((2 : Int) ^ b) = ((a / 2 ^ b : Nat) : Int) := by
  rw [Int.fdiv_eq_ediv_of_nonneg _ (by exact_mod_cast Nat.zero_le (2 ^ b))]
  simp
theorem u32_shr (k : IntKind) (n : Nat) (hn : n ≤ 32) : binF P .shr t σ (.d (.int .u32 a)) (.d (.int k n)) = some (.d (.int .u32 ((a / 2 ^ n : Nat)))) := by
  have h0 : ¬ ((n : Int) < 0) := by omega
  have hm : min (n : Int).toNat 32 = n := by simp; omega
  simp only [binF, intShift, if_neg h0, IntKind.bits, hm, Option.map_some, fdiv_nat]
theorem u64_shl (k : IntKind) (n : Nat) (hn : n ≤ 64) : binF P .shl t σ (.d (.int .u64 a)) (.d (.int k n)) = some (.d (.int .u64 ((a * 2 ^ n) % 18446744073709551616 : Nat))) := by
  have h0 : ¬ ((n : Int) < 0) := by omega
  have hm : min (n : Int).toNat 64 = n := by simp; omega
  have e : (a : Int) * 2 ^ n = ((a * 2 ^ n : Nat) : Int) := by simp
  simp only [binF, intShift, if_neg h0, IntKind.bits, hm, Option.map_some, e, wrap_u64]
theorem u64_shr (k : IntKind) (n : Nat) (hn : n ≤ 64) : binF P .shr t σ (.d (.int .u64 a)) (.d (.int k n)) = some (.d (.int .u64 ((a / 2 ^ n : Nat)))) := by
  have h0 : ¬ ((n : Int) < 0) := by omega
  have hm : min (n : Int).toNat 64 = n := by simp; omega
  simp only [binF, intShift, if_neg h0, IntKind.bits, hm, Option.map_some, fdiv_nat]
end
end Go.Proofs.YteafabpedfgedaaGreatDoor.Am
end
/- SHA-256 as a function on lists of numbers: by lists, as the program has it, and fast. No program in sight. -/
section
namespace Go.Proofs.YteafabpedfgedaaGreatDoor.Am

def M32 : Nat := 4294967296
def xr (a b : Nat) : Nat := (a ^^^ b) % 4294967296
def an (a b : Nat) : Nat := (a &&& b) % 4294967296
def orr (a b : Nat) : Nat := (a ||| b) % 4294967296
def ad (a b : Nat) : Nat := (a + b) % 4294967296
def sl (a n : Nat) : Nat := (a * 2 ^ n) % 4294967296
def sr (a n : Nat) : Nat := a / 2 ^ n
def rr (x n : Nat) : Nat := orr (sl x (32 - n)) (sr x n)
def sig0 (x : Nat) : Nat := xr (xr (rr x 7) (rr x 18)) (sr x 3)
def sig1 (x : Nat) : Nat := xr (xr (rr x 17) (rr x 19)) (sr x 10)
def Sig1 (x : Nat) : Nat := xr (xr (rr x 6) (rr x 11)) (rr x 25)
def Sig0 (x : Nat) : Nat := xr (xr (rr x 2) (rr x 13)) (rr x 22)
def chF (e f g : Nat) : Nat := xr (an e f) (an (xr 4294967295 e) g)
def majF (a b c : Nat) : Nat := xr (xr (an a b) (an a c)) (an b c)

/-- One more word of the schedule. -/
def nextW (l : List Nat) : Nat := ad (ad (ad (l.getD (l.length - 16) 0) (sig0 (l.getD (l.length - 15) 0))) (l.getD (l.length - 7) 0)) (sig1 (l.getD (l.length - 2) 0))
def extW : Nat → List Nat → List Nat
  | 0, l => l
  | n + 1, l => extW n (l ++ [nextW l])

structure S8 where
  (a b c d e f g h : Nat)

def roundS (s : S8) (k w : Nat) : S8 :=
  let t1 := ad (ad (ad (ad s.h (Sig1 s.e)) (chF s.e s.f s.g)) k) w
  let t2 := ad (Sig0 s.a) (majF s.a s.b s.c)
  ⟨ad t1 t2, s.a, s.b, s.c, ad s.d t1, s.e, s.f, s.g⟩
def roundsS (s : S8) : List (Nat × Nat) → S8
  | [] => s
  | (k, w) :: r => roundsS (roundS s k w) r
def addS (s t : S8) : S8 := ⟨ad s.a t.a, ad s.b t.b, ad s.c t.c, ad s.d t.d, ad s.e t.e, ad s.f t.f, ad s.g t.g, ad s.h t.h⟩

/-! ### fast -/
def force {α : Type} (n : Nat) (f : Nat → α) : α := Nat.rec (f 0) (fun m _ => f (m + 1)) n
theorem force_eq {α : Type} (n : Nat) (f : Nat → α) : force n f = f n := by cases n <;> rfl

def fastR : List Nat → Nat → Nat → Nat → Nat → Nat → Nat → Nat → Nat → Nat → Nat → Nat → Nat → Nat → Nat → Nat → Nat → Nat → Nat → Nat → Nat → Nat → Nat → Nat → Nat → S8
  | [], _, _, _, _, _, _, _, _, _, _, _, _, _, _, _, _, a, b, c, d, e, f, g, h => ⟨a, b, c, d, e, f, g, h⟩
  | k :: ks, w0, w1, w2, w3, w4, w5, w6, w7, w8, w9, w10, w11, w12, w13, w14, w15, a, b, c, d, e, f, g, h =>
    force (ad (ad (ad w0 (sig0 w1)) w9) (sig1 w14)) fun w16 =>
    force (ad (ad (ad (ad h (Sig1 e)) (chF e f g)) k) w0) fun t1 =>
    force (ad t1 (ad (Sig0 a) (majF a b c))) fun a' =>
    force (ad d t1) fun e' =>
    fastR ks w1 w2 w3 w4 w5 w6 w7 w8 w9 w10 w11 w12 w13 w14 w15 w16 a' a b c e' e f g

/-- Sixteen words from the place 'i' on, of a list that is made ever longer. -/
theorem extW_length : ∀ (n : Nat) (l : List Nat), (extW n l).length = l.length + n
  | 0, l => rfl
  | n + 1, l => by rw [extW, extW_length n]; simp; omega

theorem extW_prefix : ∀ (n : Nat) (l : List Nat) (i : Nat), i < l.length → (extW n l)[i]? = l[i]?
  | 0, l, i, h => rfl
  | n + 1, l, i, h => by rw [extW, extW_prefix n _ i (by simp; omega), List.getElem?_append_left h]

theorem extW_next : ∀ (n : Nat) (l : List Nat), 16 ≤ l.length → ∀ i, l.length ≤ i → i < l.length + n → (extW n l)[i]? = some (nextW ((extW n l).take i))
  | 0, l, h, i, h1, h2 => by omega
  | n + 1, l, h, i, h1, h2 => by
    rw [extW]
    by_cases q : i = l.length
    · subst q
      rw [extW_prefix n _ _ (by simp), List.getElem?_append_right (Nat.le_refl _)]
      simp only [Nat.sub_self, List.getElem?_cons_zero, Option.some.injEq]
      congr 1
      apply List.ext_getElem?
      intro j
      rw [List.getElem?_take]
      split
      · rename_i hj
        rw [extW_prefix n _ _ (by simp; omega), List.getElem?_append_left hj]
      · rename_i hj
        rw [List.getElem?_eq_none (by omega)]
    · exact extW_next n _ (by simp; omega) i (by simp; omega) (by simp; omega)

theorem roundsS_fast : ∀ (ks : List Nat) (l : List Nat) (i : Nat) (w0 w1 w2 w3 w4 w5 w6 w7 w8 w9 w10 w11 w12 w13 w14 w15 a b c d e f g h : Nat),
    (∀ j, i + 16 ≤ j → j < l.length → l[j]? = some (nextW (l.take j))) → i + ks.length ≤ l.length →
    (∀ j, j < 16 → i + j < l.length → l[i + j]? = [w0, w1, w2, w3, w4, w5, w6, w7, w8, w9, w10, w11, w12, w13, w14, w15][j]?) →
    fastR ks w0 w1 w2 w3 w4 w5 w6 w7 w8 w9 w10 w11 w12 w13 w14 w15 a b c d e f g h = roundsS ⟨a, b, c, d, e, f, g, h⟩ (ks.zip (l.drop i))
  | [], l, i, w0, w1, w2, w3, w4, w5, w6, w7, w8, w9, w10, w11, w12, w13, w14, w15, a, b, c, d, e, f, g, h, _, _, _ => rfl
  | k :: ks, l, i, w0, w1, w2, w3, w4, w5, w6, w7, w8, w9, w10, w11, w12, w13, w14, w15, a, b, c, d, e, f, g, h, hn, hl, hw => by
    simp only [List.length_cons] at hl
    have h0 : l[i]? = some w0 := hw 0 (by omega) (by omega)
    have hd : l.drop i = w0 :: l.drop (i + 1) := by
      have := (List.getElem?_eq_some_iff.1 h0)
      obtain ⟨q, q'⟩ := this
      rw [List.drop_eq_getElem_cons q, q']
    rw [hd, List.zip_cons_cons]
    simp only [fastR, force_eq]
    rw [roundsS_fast ks l (i + 1)]
    · rfl
    · intro j hj; exact hn j (by omega)
    · omega
    · intro j hj hlt
      by_cases q : j = 15
      · subst q
        show l[i + 1 + 15]? = _
        have e1 : i + 1 + 15 = i + 16 := by omega
        rw [e1] at hlt ⊢
        rw [hn (i + 16) (by omega) hlt]
        have tk : ∀ m, m < 16 → ((l.take (i + 16)).getD (i + m) 0) = [w0, w1, w2, w3, w4, w5, w6, w7, w8, w9, w10, w11, w12, w13, w14, w15].getD m 0 := by
          intro m hm
          rw [List.getD_eq_getElem?_getD, List.getElem?_take, if_pos (by omega), hw m hm (by omega), List.getD_eq_getElem?_getD]
        have tl : (l.take (i + 16)).length = i + 16 := by rw [List.length_take]; omega
        have t0 := tk 0 (by omega)
        have t1 := tk 1 (by omega)
        have t9 := tk 9 (by omega)
        have t14 := tk 14 (by omega)
        simp only [nextW, tl]
        have e0 : i + 16 - 16 = i + 0 := by omega
        have e2 : i + 16 - 15 = i + 1 := by omega
        have e3 : i + 16 - 7 = i + 9 := by omega
        have e4 : i + 16 - 2 = i + 14 := by omega
        rw [e0, e2, e3, e4, t0, t1, t9, t14]
        rfl
      · have := hw (j + 1) (by omega) (by omega)
        have e1 : i + 1 + j = i + (j + 1) := by omega
        rw [e1, this]
        have : j < 15 := by omega
        match j, this with
        | 0, _ | 1, _ | 2, _ | 3, _ | 4, _ | 5, _ | 6, _ | 7, _ | 8, _ | 9, _ | 10, _ | 11, _ | 12, _ | 13, _ | 14, _ => rfl

/-! ### bytes -/
def shaK : List Nat := [1116352408, 1899447441, 3049323471, 3921009573, 961987163, 1508970993, 2453635748, 2870763221, 3624381080, 310598401, 607225278, 1426881987, 1925078388, 2162078206, 2614888103, 3248222580, 3835390401, 4022224774, 264347078, 604807628, 770255983, 1249150122, 1555081692, 1996064986, 2554220882, 2821834349, 2952996808, 3210313671, 3336571891, 3584528711, 113926993, 338241895, 666307205, 773529912, 1294757372, 1396182291, 1695183700, 1986661051, 2177026350, 2456956037, 2730485921, 2820302411, 3259730800, 3345764771, 3516065817, 3600352804, 4094571909, 275423344, 430227734, 506948616, 659060556, 883997877, 958139571, 1322822218, 1537002063, 1747873779, 1955562222, 2024104815, 2227730452, 2361852424, 2428436474, 2756734187, 3204031479, 3329325298]
def shaI : S8 := ⟨1779033703, 3144134277, 1013904242, 2773480762, 1359893119, 2600822924, 528734635, 1541459225⟩

def word4 (a b c d : UInt8) : Nat := orr (orr (orr (sl a.toNat 24) (sl b.toNat 16)) (sl c.toNat 8)) d.toNat
def wordsOf : List UInt8 → List Nat
  | a :: b :: c :: d :: r => word4 a b c d :: wordsOf r
  | _ => []
/-- The state behind a block, as the program reckons it. -/
def mixL (st : S8) (blk : List UInt8) : S8 := addS st (roundsS st (shaK.zip (extW 48 (wordsOf blk))))
/-- The same, fast. -/
def mixF (st : S8) (blk : List UInt8) : S8 :=
  match wordsOf blk with
  | [w0, w1, w2, w3, w4, w5, w6, w7, w8, w9, w10, w11, w12, w13, w14, w15] =>
    let t := fastR shaK w0 w1 w2 w3 w4 w5 w6 w7 w8 w9 w10 w11 w12 w13 w14 w15 st.a st.b st.c st.d st.e st.f st.g st.h
    addS st t
  | _ => mixL st blk

theorem mixF_eq (st : S8) (blk : List UInt8) : mixF st blk = mixL st blk := by
  unfold mixF
  split
  · rename_i w0 w1 w2 w3 w4 w5 w6 w7 w8 w9 w10 w11 w12 w13 w14 w15 h
    unfold mixL
    simp only [h]
    have hl : (extW 48 [w0, w1, w2, w3, w4, w5, w6, w7, w8, w9, w10, w11, w12, w13, w14, w15]).length = 64 := by rw [extW_length]; rfl
    rw [roundsS_fast shaK (extW 48 [w0, w1, w2, w3, w4, w5, w6, w7, w8, w9, w10, w11, w12, w13, w14, w15]) 0]
    · rfl
    · intro j h1 h2
      exact extW_next 48 _ (by simp) j (by simpa using h1) (by rw [hl] at h2; simpa using h2)
    · rw [hl]; decide
    · intro j hj _
      rw [Nat.zero_add, extW_prefix 48 _ j (by simpa using hj)]
  · rfl

def blocksF : Nat → S8 → List UInt8 → S8
  | 0, st, _ => st
  | n + 1, st, s => blocksF n (mixF st (s.take 64)) (s.drop 64)

def be8 (n : Nat) : List UInt8 := [UInt8.ofNat (n / 72057594037927936), UInt8.ofNat (n / 281474976710656), UInt8.ofNat (n / 1099511627776), UInt8.ofNat (n / 4294967296), UInt8.ofNat (n / 16777216), UInt8.ofNat (n / 65536), UInt8.ofNat (n / 256), UInt8.ofNat n]
def padOf (last : List UInt8) (len : Nat) : List UInt8 := last ++ 128 :: (List.replicate ((119 - last.length) % 64) 0 ++ be8 (len * 8 % 18446744073709551616))
def bytes4 (w : Nat) : List UInt8 := [UInt8.ofNat (w / 16777216), UInt8.ofNat (w / 65536), UInt8.ofNat (w / 256), UInt8.ofNat w]
def digestOf (s : S8) : List UInt8 := bytes4 s.a ++ (bytes4 s.b ++ (bytes4 s.c ++ (bytes4 s.d ++ (bytes4 s.e ++ (bytes4 s.f ++ (bytes4 s.g ++ bytes4 s.h))))))

/-- SHA-256. -/
def sha (s : List UInt8) : List UInt8 :=
  let n := s.length / 64
  let e := padOf (s.drop (64 * n)) s.length
  digestOf (blocksF (e.length / 64) (blocksF n shaI s) e)

def abc : List UInt8 := [97, 98, 99]
theorem sha_abc : sha abc = [0xba, 0x78, 0x16, 0xbf, 0x8f, 0x01, 0xcf, 0xea, 0x41, 0x41, 0x40, 0xde, 0x5d, 0xae, 0x22, 0x23, 0xb0, 0x03, 0x61, 0xa3, 0x96, 0x17, 0x7a, 0x9c, 0xb4, 0x10, 0xff, 0x61, 0xf2, 0x00, 0x15, 0xad] := by kernel_rfl
end Go.Proofs.YteafabpedfgedaaGreatDoor.Am
end
/- SHA-256: the walks of turn and schedule. -/
section
set_option linter.unusedSimpArgs false
set_option linter.unusedVariables false
set_option maxRecDepth 10000
set_option maxHeartbeats 4000000
namespace Go.Proofs.YteafabpedfgedaaGreatDoor.Am
open Go Go.Proofs

def rotE (n : Nat) (x : Int) : Int := IntKind.u32.wrap ((BitVec.ofInt 32 (IntKind.u32.wrap (x * 2 ^ (32 - n))) ||| BitVec.ofInt 32 (x.fdiv (2 ^ n))).toNat : Int)
theorem rotE_eq (n : Nat) (x : Nat) : rotE n x = (rr x n : Nat) := by
  have e1 : (x : Int) * 2 ^ (32 - n) = ((x * 2 ^ (32 - n) : Nat) : Int) := by simp
  unfold rotE rr orr sl sr
  rw [e1, wrap_u32 (x * 2 ^ (32 - n)), fdiv_nat, bv_or, wrap_u32, Nat.mod_mod]

theorem turn_ev : ∀ n ∈ [2, 3, 6, 7, 10, 11, 13, 17, 18, 19, 22, 25], ∀ x : Int, evF Tryz.prog tab 5 180 [.d (.int .u32 x), .d (.int .i64 ((n : Nat) : Int))] [] = some (.d (.int .u32 (rotE n x)), []) := by
  intro n hn x
  simp only [List.mem_cons, List.not_mem_nil, or_false] at hn
  rcases hn with rfl | rfl | rfl | rfl | rfl | rfl | rfl | rfl | rfl | rfl | rfl | rfl <;> kernel_rfl

theorem turn_ok (n : Nat) (hn : n ∈ [2, 3, 6, 7, 10, 11, 13, 17, 18, 19, 22, 25]) (x : Nat) (τ : List Ob) : callA Tryz.prog 180 [.d (.int .u32 x), .d (.int .i64 ((n : Nat) : Int))] τ fun r σ' => r = .d (.int .u32 (rr x n : Nat)) ∧ σ' = τ := by
  have h := turn_ev n hn x
  rw [rotE_eq] at h
  exact run_val tabOk 5 h τ rfl
end Go.Proofs.YteafabpedfgedaaGreatDoor.Am
end
/- SHA-256: the walk of schedule. -/
section
set_option linter.unusedSimpArgs false
set_option linter.unusedVariables false
set_option maxRecDepth 10000
set_option maxHeartbeats 4000000
namespace Go.Proofs.YteafabpedfgedaaGreatDoor.Am
open Go Go.Proofs

theorem callA_frozen {P : Program} {f : FuncId} {args : List V} {v : V} (h : callA P f args [] fun r σ' => r = v ∧ σ' = []) (τ : List Ob) (ha : embVs [] τ.length args = args) (hv : embV [] τ.length v = v) : callA P f args τ fun r σ' => r = v ∧ σ' = τ := by
  have := callA_frame h [] τ List.nodup_nil rfl (fun _ h => by simp at h) (fun j i h => by simp at h)
  rw [ha] at this
  refine callA_mono this fun r σ' hr => ?_
  obtain ⟨r0, σ0, ⟨rfl, rfl⟩, rfl, rfl⟩ := hr
  exact ⟨hv, by simp [storeBack, backInto]⟩

theorem Fin.none0 (v : V) (σ : List Ob) (h : renV (keepG []) v = v) : Fin 0 v σ v [] := by
  have := Fin.keep (n := 0) (r := v) (σ := σ) [] List.nodup_nil (fun _ h => by simp at h) (fun i h => by omega)
  rw [h] at this
  simpa [keepσ] using this

/-! ### words of a block -/
theorem len4 {l : List UInt8} (h : 4 ≤ l.length) : ∃ a b c d r, l = a :: b :: c :: d :: r := by
  cases l with
  | nil => simp at h
  | cons a l =>
    cases l with
    | nil => simp at h
    | cons b l =>
      cases l with
      | nil => simp at h
      | cons c l =>
        cases l with
        | nil => simp at h
        | cons d r => exact ⟨a, b, c, d, r, rfl⟩
theorem wordsOf_cons (a b c d : UInt8) (r : List UInt8) : wordsOf (a :: b :: c :: d :: r) = word4 a b c d :: wordsOf r := rfl
theorem wordsOf_get (i : Nat) : ∀ l : List UInt8, 4 * i + 3 < l.length → (wordsOf l)[i]? = some (word4 (l.getD (4 * i) 0) (l.getD (4 * i + 1) 0) (l.getD (4 * i + 2) 0) (l.getD (4 * i + 3) 0)) := by
  induction i with
  | zero =>
    intro l h
    obtain ⟨a, b, c, d, r, rfl⟩ := len4 (l := l) (by omega)
    rfl
  | succ i ih =>
    intro l h
    obtain ⟨a, b, c, d, r, rfl⟩ := len4 (l := l) (by omega)
    simp only [List.length_cons] at h
    rw [wordsOf_cons, List.getElem?_cons_succ, ih r (by omega)]
    have e1 : 4 * (i + 1) = 4 * i + 4 := by omega
    rw [e1]
    rfl
theorem wordsOf_length (n : Nat) : ∀ l : List UInt8, l.length = 4 * n → (wordsOf l).length = n := by
  induction n with
  | zero =>
    intro l h
    have : l = [] := List.eq_nil_of_length_eq_zero (by omega)
    subst this; rfl
  | succ n ih =>
    intro l h
    obtain ⟨a, b, c, d, r, rfl⟩ := len4 (l := l) (by omega)
    simp only [List.length_cons] at h
    rw [wordsOf_cons, List.length_cons, ih r (by omega)]

theorem extW_succ : ∀ (n : Nat) (l : List Nat), extW (n + 1) l = extW n l ++ [nextW (extW n l)]
  | 0, _ => rfl
  | n + 1, l => by rw [extW, extW_succ n, extW]

def wV (n : Nat) : V := .d (.int .u32 n)
/-- The cells of a row of sixty-four, of which so many are laid. -/
def cW (l : List Nat) : List V := (l ++ List.replicate (64 - l.length) 0).map wV
theorem cW_length {l : List Nat} (h : l.length ≤ 64) : (cW l).length = 64 := by simp [cW]; omega
theorem cW_get {l : List Nat} {j : Nat} (h : j < l.length) : (cW l)[j]? = some (wV (l.getD j 0)) := by
  simp only [cW, List.map_append]
  rw [List.getElem?_append_left (by simpa using h), List.getElem?_map, List.getElem?_eq_getElem h, List.getD_eq_getElem?_getD, List.getElem?_eq_getElem h]
  rfl
theorem cW_set {l : List Nat} (h : l.length < 64) (x : Nat) : (cW l).set l.length (wV x) = cW (l ++ [x]) := by
  simp only [cW, List.map_append, List.length_append, List.length_cons, List.length_nil]
  rw [List.set_append_right _ _ (by simp)]
  obtain ⟨m, hm⟩ : ∃ m, 64 - l.length = m + 1 := ⟨63 - l.length, by omega⟩
  have e : 64 - (l.length + 1) = m := by omega
  rw [hm, e, List.replicate_succ]
  simp

section
variable (t : TypeId) (σ : List Ob) (a b : Nat)
theorem o_xor : binF Tryz.prog .xor t σ (.d (.int .u32 a)) (.d (.int .u32 b)) = some (.d (.int .u32 (xr a b : Nat))) := u32_xor a b
theorem o_and : binF Tryz.prog .and t σ (.d (.int .u32 a)) (.d (.int .u32 b)) = some (.d (.int .u32 (an a b : Nat))) := u32_and a b
theorem o_or : binF Tryz.prog .or t σ (.d (.int .u32 a)) (.d (.int .u32 b)) = some (.d (.int .u32 (orr a b : Nat))) := u32_or a b
theorem o_add : binF Tryz.prog .add t σ (.d (.int .u32 a)) (.d (.int .u32 b)) = some (.d (.int .u32 (ad a b : Nat))) := u32_add a b
theorem w_add : IntKind.u32.wrap ((a : Int) + (b : Int)) = ((ad a b : Nat) : Int) := by rw [← Int.natCast_add, wrap_u32]; rfl
theorem o_com : unF .xor (.d (.int .u32 a)) = some (.d (.int .u32 (xr 4294967295 a : Nat))) := u32_com a
theorem o_shl24 : binF Tryz.prog .shl t σ (.d (.int .u32 a)) (.d (.int .u64 24)) = some (.d (.int .u32 (sl a 24 : Nat))) := u32_shl a .u64 24 (by omega)
theorem o_shl16 : binF Tryz.prog .shl t σ (.d (.int .u32 a)) (.d (.int .u64 16)) = some (.d (.int .u32 (sl a 16 : Nat))) := u32_shl a .u64 16 (by omega)
theorem o_shl8 : binF Tryz.prog .shl t σ (.d (.int .u32 a)) (.d (.int .u64 8)) = some (.d (.int .u32 (sl a 8 : Nat))) := u32_shl a .u64 8 (by omega)
theorem o_shr3 : binF Tryz.prog .shr t σ (.d (.int .u32 a)) (.d (.int .u64 3)) = some (.d (.int .u32 (sr a 3 : Nat))) := u32_shr a .u64 3 (by omega)
theorem o_shr10 : binF Tryz.prog .shr t σ (.d (.int .u32 a)) (.d (.int .u64 10)) = some (.d (.int .u32 (sr a 10 : Nat))) := u32_shr a .u64 10 (by omega)
theorem o_conv (c : UInt8) : convF Tryz.prog 5 185 σ (.d (.int .u8 c.toNat)) = some (.d (.int .u32 (c.toNat : Nat))) := by
  simp only [convF, T5, T185, if_true, wrap_u32]
  have := c.toNat_lt
  rw [Nat.mod_eq_of_lt (by omega)]
end

theorem cW_ren (g : Nat → Option Nat) (l : List Nat) : renV g (.agg (cW l)) = .agg (cW l) := by
  have : ∀ l : List Nat, renVs g (l.map wV) = l.map wV := fun l => by
    induction l with
    | nil => rfl
    | cons n l ih => simp only [List.map_cons, renVs, ih]; rfl
  simp only [renV, cW, this]
section
variable (x : Nat) (τ : List Ob)
theorem turn2 : callA Tryz.prog 180 [.d (.int .u32 x), .d (.int .i64 2)] τ fun r σ' => r = .d (.int .u32 (rr x 2 : Nat)) ∧ σ' = τ := turn_ok 2 (by decide) x τ
theorem turn6 : callA Tryz.prog 180 [.d (.int .u32 x), .d (.int .i64 6)] τ fun r σ' => r = .d (.int .u32 (rr x 6 : Nat)) ∧ σ' = τ := turn_ok 6 (by decide) x τ
theorem turn7 : callA Tryz.prog 180 [.d (.int .u32 x), .d (.int .i64 7)] τ fun r σ' => r = .d (.int .u32 (rr x 7 : Nat)) ∧ σ' = τ := turn_ok 7 (by decide) x τ
theorem turn11 : callA Tryz.prog 180 [.d (.int .u32 x), .d (.int .i64 11)] τ fun r σ' => r = .d (.int .u32 (rr x 11 : Nat)) ∧ σ' = τ := turn_ok 11 (by decide) x τ
theorem turn13 : callA Tryz.prog 180 [.d (.int .u32 x), .d (.int .i64 13)] τ fun r σ' => r = .d (.int .u32 (rr x 13 : Nat)) ∧ σ' = τ := turn_ok 13 (by decide) x τ
theorem turn17 : callA Tryz.prog 180 [.d (.int .u32 x), .d (.int .i64 17)] τ fun r σ' => r = .d (.int .u32 (rr x 17 : Nat)) ∧ σ' = τ := turn_ok 17 (by decide) x τ
theorem turn18 : callA Tryz.prog 180 [.d (.int .u32 x), .d (.int .i64 18)] τ fun r σ' => r = .d (.int .u32 (rr x 18 : Nat)) ∧ σ' = τ := turn_ok 18 (by decide) x τ
theorem turn19 : callA Tryz.prog 180 [.d (.int .u32 x), .d (.int .i64 19)] τ fun r σ' => r = .d (.int .u32 (rr x 19 : Nat)) ∧ σ' = τ := turn_ok 19 (by decide) x τ
theorem turn22 : callA Tryz.prog 180 [.d (.int .u32 x), .d (.int .i64 22)] τ fun r σ' => r = .d (.int .u32 (rr x 22 : Nat)) ∧ σ' = τ := turn_ok 22 (by decide) x τ
theorem turn25 : callA Tryz.prog 180 [.d (.int .u32 x), .d (.int .i64 25)] τ fun r σ' => r = .d (.int .u32 (rr x 25 : Nat)) ∧ σ' = τ := turn_ok 25 (by decide) x τ
end
theorem cW_at {i : Nat} (hi : i < 64) (σ : List Ob) {o : Nat} (ha : alive σ o = true) : indexAddrF Tryz.prog 304 σ (.ptr o 0 0) (.d (.int .i64 (i : Nat))) = some (.ptr o 0 i) := by
  have h0 : (0 : Int) ≤ (i : Int) := Int.natCast_nonneg _
  have h1 : (i : Int) < ((64 : Nat) : Int) := by omega
  simp only [indexAddrF, T304, T185, ha, and_self, if_true, Nat.lt_add_one, Int.toNat_natCast, Nat.mul_one, Nat.zero_add]
  rw [if_pos ⟨h0, h1⟩]
theorem zeroW : zeroCs Tryz.prog 304 = some (cW []) := by kernel_rfl

theorem sched_ok (blk : List UInt8) (hb : blk.length = 64) (τ : List Ob) : callA Tryz.prog 179 [.d (.str blk)] τ fun r σ' => r = .agg (cW (extW 48 (wordsOf blk))) ∧ σ' = τ := by
  have hwl := wordsOf_length 16 blk (by omega)
  refine callA_frozen ?_ τ rfl (cW_ren _ _)
  refine w179.go fun K hK => ?_
  simp only [e179, c179, p179, Tryz.f179, codeOf, comp, opsOf, stOf, cop, cstp, copAt, planFor, List.find?, List.find?_nil, Option.map_none, Option.getD_none, List.any_cons, List.any_nil, Stp.idx, Bool.or_false, Nat.reduceBEq, ↓RP, RS, Int.reduceBEq, Int.reduceBNe, Int.reduceLT, Int.reduceLE, Int.reduceAdd, Int.reduceSub, ↓reduceIte, Nat.reduceAdd, Nat.reduceMul, Nat.reduceSub, Nat.reduceLT, Nat.reduceLeDiff, Nat.reduceEqDiff, decide_true, decide_false, fieldAddrF, undE, tupE, allocE, zeroW, List.length_nil]
  refine Loop_k [0, 2, 3, 11] (fun i : Nat => fr 0 86 [(0, .d (.str blk)), (2, .ptr 0 0 0), (3, .ptr 1 0 0), (11, .d (.int .i64 (i : Nat)))]) (fun i => [Ob.box (cW []), Ob.box (cW ((wordsOf blk).take i))]) (fun i => i ≤ 16) (fun i => 16 - i) 0 (by kernel_rfl) rfl (Nat.zero_le _) fun i hi => ?_
  by_cases hlt : i < 16
  · have e3 : decide ((i : Int) < 16) = true := by simpa using (by omega : (i : Int) < 16)
    have w1 : IntKind.i64.wrap (4 * (i : Int)) = ((4 * i : Nat) : Int) := by rw [IntWalk.i64_in _ (by omega)]; omega
    have w2 : IntKind.i64.wrap (((4 * i : Nat) : Int) + 4) = ((4 * i + 4 : Nat) : Int) := by rw [IntWalk.i64_in _ (by omega)]; omega
    have w3 : IntKind.i64.wrap ((i : Int) + 1) = ((i + 1 : Nat) : Int) := by rw [IntWalk.i64_in _ (by omega)]; rfl
    have hcut : (blk.take (4 * i + 4)).drop (4 * i) = [blk.getD (4 * i) 0, blk.getD (4 * i + 1) 0, blk.getD (4 * i + 2) 0, blk.getD (4 * i + 3) 0] := by
      apply List.ext_getElem?
      intro j
      rw [List.getElem?_drop, List.getElem?_take]
      have hg : ∀ k, k < 64 → blk[k]? = some (blk.getD k 0) := fun k hk => by rw [List.getD_eq_getElem?_getD, List.getElem?_eq_getElem (by omega)]; rfl
      by_cases h4 : j < 4
      · rw [if_pos (by omega), hg _ (by omega)]
        match j, h4 with
        | 0, _ => rfl
        | 1, _ => rfl
        | 2, _ => rfl
        | 3, _ => rfl
      · rw [if_neg (by omega), List.getElem?_eq_none (by simp; omega)]
    have s1 : ∀ σ, sliceF Tryz.prog 9 σ (.d (.str blk)) (some (.d (.int .i64 ((4 * i : Nat) : Int)))) (some (.d (.int .i64 ((4 * i + 4 : Nat) : Int)))) none = some (.d (.str [blk.getD (4 * i) 0, blk.getD (4 * i + 1) 0, blk.getD (4 * i + 2) 0, blk.getD (4 * i + 3) 0])) := fun σ => by
      have h0 : (0 : Int) ≤ ((4 * i : Nat) : Int) := Int.natCast_nonneg _
      have h1 : (0 : Int) ≤ ((4 * i + 4 : Nat) : Int) := Int.natCast_nonneg _
      simp only [sliceF, optNat, natOf, Option.map_some, if_pos h0, if_pos h1, Int.toNat_natCast, T9, and_self, if_true, Option.getD_some, cutS, hcut]
      rw [if_pos ⟨by omega, by omega⟩]
    have x1 : ∀ (a b c d : UInt8), indexF Tryz.prog 9 (.d (.str [a, b, c, d])) (.d (.int .i64 0)) = some (.d (.int .u8 a.toNat)) := fun a b c d => by simp only [indexF, T9]; rfl
    have x2 : ∀ (a b c d : UInt8), indexF Tryz.prog 9 (.d (.str [a, b, c, d])) (.d (.int .i64 1)) = some (.d (.int .u8 b.toNat)) := fun a b c d => by simp only [indexF, T9]; rfl
    have x3 : ∀ (a b c d : UInt8), indexF Tryz.prog 9 (.d (.str [a, b, c, d])) (.d (.int .i64 2)) = some (.d (.int .u8 c.toNat)) := fun a b c d => by simp only [indexF, T9]; rfl
    have x4 : ∀ (a b c d : UInt8), indexF Tryz.prog 9 (.d (.str [a, b, c, d])) (.d (.int .i64 3)) = some (.d (.int .u8 d.toNat)) := fun a b c d => by simp only [indexF, T9]; rfl
    have a1 : ∀ x, alive [Ob.box (cW []), Ob.box x] 1 = true := fun x => rfl
    have st : ∀ x, storeF Tryz.prog 185 [Ob.box (cW []), Ob.box (cW ((wordsOf blk).take i))] (.ptr 1 0 i) (.d (.int .u32 (x : Nat))) = some [Ob.box (cW []), Ob.box ((cW ((wordsOf blk).take i)).set i (wV x))] := fun x => store_box (σ := [Ob.box (cW []), Ob.box (cW ((wordsOf blk).take i))]) (o := 1) rfl rfl (by rw [cW_length (by simp; omega)]; omega) (by simp only [T185])
    simp only [fr, ↓RP, RS, Int.reduceBEq, Int.reduceBNe, Int.reduceLT, Int.reduceLE, Int.reduceAdd, Int.reduceSub, ↓reduceIte, Nat.reduceAdd, Nat.reduceMul, Nat.reduceSub, Nat.reduceLT, Nat.reduceLeDiff, Nat.reduceEqDiff, decide_true, decide_false, fieldAddrF, undE, tupE, e3, w1, w2, s1, x1, x2, x3, x4, o_conv, o_shl24, o_shl16, o_shl8, o_or, cW_at (show i < 64 by omega) _ (a1 _), st, w3, chkC]
    have hget := wordsOf_get i blk (by omega)
    have htl : ((wordsOf blk).take i).length = i := by rw [List.length_take]; omega
    have hstep := cW_set (l := (wordsOf blk).take i) (by omega) (word4 (blk.getD (4 * i) 0) (blk.getD (4 * i + 1) 0) (blk.getD (4 * i + 2) 0) (blk.getD (4 * i + 3) 0))
    have htk : (wordsOf blk).take i ++ [word4 (blk.getD (4 * i) 0) (blk.getD (4 * i + 1) 0) (blk.getD (4 * i + 2) 0) (blk.getD (4 * i + 3) 0)] = (wordsOf blk).take (i + 1) := by
      rw [List.take_add_one, hget]; rfl
    rw [htl, htk] at hstep
    exact seqK_n ⟨i + 1, by omega, by omega, by kernel_rfl, by rw [← hstep]; rfl⟩
  · have e3 : decide ((i : Int) < 16) = false := by simpa using (by omega : (16 : Int) ≤ (i : Int))
    have hi16 : i = 16 := by omega
    subst hi16
    have htk : (wordsOf blk).take 16 = wordsOf blk := List.take_of_length_le (by omega)
    rw [htk]
    simp only [fr, ↓RP, RS, Int.reduceBEq, Int.reduceBNe, Int.reduceLT, Int.reduceLE, Int.reduceAdd, Int.reduceSub, ↓reduceIte, Nat.reduceAdd, Nat.reduceMul, Nat.reduceSub, Nat.reduceLT, Nat.reduceLeDiff, Nat.reduceEqDiff, decide_true, decide_false, fieldAddrF, undE, tupE, e3]
    refine Loop_k [2, 3, 6] (fun k : Nat => fr 0 86 [(2, .ptr 0 0 0), (3, .ptr 1 0 0), (6, .d (.int .i64 ((k + 16 : Nat) : Int)))]) (fun k => [Ob.box (cW []), Ob.box (cW (extW k (wordsOf blk)))]) (fun k => k ≤ 48) (fun k => 48 - k) 0 (by kernel_rfl) rfl (Nat.zero_le _) fun k hk => ?_
    have hll : (extW k (wordsOf blk)).length = k + 16 := by rw [extW_length, hwl]; omega
    by_cases hlt : k < 48
    · have e4 : decide (((k + 16 : Nat) : Int) < 64) = true := by simpa using (by omega : ((k : Int) + 16) < 64)
      have w15 : IntKind.i64.wrap (((k + 16 : Nat) : Int) - 15) = ((k + 1 : Nat) : Int) := by rw [IntWalk.i64_in _ (by omega)]; omega
      have w2 : IntKind.i64.wrap (((k + 16 : Nat) : Int) - 2) = ((k + 14 : Nat) : Int) := by rw [IntWalk.i64_in _ (by omega)]; omega
      have w16 : IntKind.i64.wrap (((k + 16 : Nat) : Int) - 16) = ((k : Nat) : Int) := by rw [IntWalk.i64_in _ (by omega)]; omega
      have w7 : IntKind.i64.wrap (((k + 16 : Nat) : Int) - 7) = ((k + 9 : Nat) : Int) := by rw [IntWalk.i64_in _ (by omega)]; omega
      have w1 : IntKind.i64.wrap (((k + 16 : Nat) : Int) + 1) = ((k + 1 + 16 : Nat) : Int) := by rw [IntWalk.i64_in _ (by omega)]; omega
      generalize hl : extW k (wordsOf blk) = l at hll
      have hc : ∀ j, j < k + 16 → (cW l)[j]? = some (wV (l.getD j 0)) := fun j hj => cW_get (by omega)
      have ld : ∀ j, j < k + 16 → loadF Tryz.prog 185 [Ob.box (cW []), Ob.box (cW l)] (.ptr 1 0 j) = some (.d (.int .u32 (l.getD j 0 : Nat))) := fun j hj => load_box (σ := [Ob.box (cW []), Ob.box (cW l)]) (o := 1) rfl (hc j hj) (by simp only [T185]) (by simp only [T185])
      have a1 : alive [Ob.box (cW []), Ob.box (cW l)] 1 = true := rfl
      have ad : ∀ j, j < 64 → indexAddrF Tryz.prog 304 [Ob.box (cW []), Ob.box (cW l)] (.ptr 1 0 0) (.d (.int .i64 (j : Nat))) = some (.ptr 1 0 j) := fun j hj => cW_at hj _ a1
      have st : ∀ x, storeF Tryz.prog 185 [Ob.box (cW []), Ob.box (cW l)] (.ptr 1 0 (k + 16)) (.d (.int .u32 (x : Nat))) = some [Ob.box (cW []), Ob.box ((cW l).set (k + 16) (wV x))] := fun x => store_box (σ := [Ob.box (cW []), Ob.box (cW l)]) (o := 1) rfl rfl (by rw [cW_length (by omega)]; omega) (by simp only [T185])
      simp only [fr, ↓RP, RS, Int.reduceBEq, Int.reduceBNe, Int.reduceLT, Int.reduceLE, Int.reduceAdd, Int.reduceSub, ↓reduceIte, Nat.reduceAdd, Nat.reduceMul, Nat.reduceSub, Nat.reduceLT, Nat.reduceLeDiff, Nat.reduceEqDiff, decide_true, decide_false, fieldAddrF, undE, tupE, e4, w15, w2, ad (k + 1) (by omega), ad (k + 14) (by omega), ld (k + 1) (by omega), ld (k + 14) (by omega), chkC]
      refine CallK_use' (turn7 _ _) fun r σ' ⟨q1, q2⟩ => ?_
      subst q1; subst q2
      simp only [↓RP, RS, Int.reduceBEq, Int.reduceBNe, Int.reduceLT, Int.reduceLE, Int.reduceAdd, Int.reduceSub, ↓reduceIte, Nat.reduceAdd, Nat.reduceMul, Nat.reduceSub, Nat.reduceLT, Nat.reduceLeDiff, Nat.reduceEqDiff, decide_true, decide_false, fieldAddrF, undE, tupE]
      refine CallK_use' (turn18 _ _) fun r σ' ⟨q1, q2⟩ => ?_
      subst q1; subst q2
      simp only [↓RP, RS, Int.reduceBEq, Int.reduceBNe, Int.reduceLT, Int.reduceLE, Int.reduceAdd, Int.reduceSub, ↓reduceIte, Nat.reduceAdd, Nat.reduceMul, Nat.reduceSub, Nat.reduceLT, Nat.reduceLeDiff, Nat.reduceEqDiff, decide_true, decide_false, fieldAddrF, undE, tupE, o_xor, o_shr3]
      refine CallK_use' (turn17 _ _) fun r σ' ⟨q1, q2⟩ => ?_
      subst q1; subst q2
      simp only [↓RP, RS, Int.reduceBEq, Int.reduceBNe, Int.reduceLT, Int.reduceLE, Int.reduceAdd, Int.reduceSub, ↓reduceIte, Nat.reduceAdd, Nat.reduceMul, Nat.reduceSub, Nat.reduceLT, Nat.reduceLeDiff, Nat.reduceEqDiff, decide_true, decide_false, fieldAddrF, undE, tupE]
      refine CallK_use' (turn19 _ _) fun r σ' ⟨q1, q2⟩ => ?_
      subst q1; subst q2
      simp only [↓RP, RS, Int.reduceBEq, Int.reduceBNe, Int.reduceLT, Int.reduceLE, Int.reduceAdd, Int.reduceSub, ↓reduceIte, Nat.reduceAdd, Nat.reduceMul, Nat.reduceSub, Nat.reduceLT, Nat.reduceLeDiff, Nat.reduceEqDiff, decide_true, decide_false, fieldAddrF, undE, tupE, o_xor, o_shr10, w16, w7, ad k (by omega), ad (k + 9) (by omega), ad (k + 16) (by omega), ld k (by omega), ld (k + 9) (by omega), w_add, st, chkC, w1]
      have hstep := cW_set (l := l) (by omega) (nextW l)
      rw [hll] at hstep
      refine seqK_n ?_
      refine ⟨k + 1, by omega, by omega, by kernel_rfl, ?_⟩
      rw [extW_succ, hl, ← hstep]
      simp only [nextW, hll]
      have r1 : k + 16 - 16 = k := by omega
      have r2 : k + 16 - 15 = k + 1 := by omega
      have r3 : k + 16 - 7 = k + 9 := by omega
      have r4 : k + 16 - 2 = k + 14 := by omega
      rw [r1, r2, r3, r4]
      rfl
    · have e4 : decide (((k + 16 : Nat) : Int) < 64) = false := by simpa using (by omega : (64 : Int) ≤ (k : Int) + 16)
      have hk48 : k = 48 := by omega
      subst hk48
      have hcl : (cW (extW 48 (wordsOf blk))).length = 64 := cW_length (by omega)
      have l1 : loadF Tryz.prog 304 [Ob.box (cW []), Ob.box (cW (extW 48 (wordsOf blk)))] (.ptr 1 0 0) = some (.agg (cW (extW 48 (wordsOf blk)))) := load_all (σ := [Ob.box (cW []), Ob.box (cW (extW 48 (wordsOf blk)))]) (o := 1) rfl (by rw [hcl]; simp only [T304]) (by simp only [T304]) (by simp only [T304]; decide)
      have ho : (cW (extW 48 (wordsOf blk))).all (one [Ob.box (cW []), Ob.box (cW (extW 48 (wordsOf blk)))]) = true := by
        rw [List.all_eq_true]
        intro x hx
        obtain ⟨n, _, rfl⟩ := List.mem_map.1 hx
        rfl
      have s1 : storeF Tryz.prog 304 [Ob.box (cW []), Ob.box (cW (extW 48 (wordsOf blk)))] (.ptr 0 0 0) (.agg (cW (extW 48 (wordsOf blk)))) = some [Ob.box (cW (extW 48 (wordsOf blk))), Ob.box (cW (extW 48 (wordsOf blk)))] := by
        have := store_agg (P := Tryz.prog) (t := 304) (σ := [Ob.box (cW []), Ob.box (cW (extW 48 (wordsOf blk)))]) (o := 0) (k := 0) (cs := cW []) (xs := cW (extW 48 (wordsOf blk))) rfl ho (by rw [hcl, cW_length (by simp)]; omega) (by rw [hcl]; simp only [T304]) (by simp only [T304]; decide)
        rw [this]
        have e : setAt (cW []) 0 (cW (extW 48 (wordsOf blk))) = cW (extW 48 (wordsOf blk)) := by
          simp only [setAt, List.take_zero, List.nil_append, Nat.zero_add]
          rw [List.drop_of_length_le (by rw [hcl, cW_length (by simp)]; exact Nat.le_refl 64), List.append_nil]
        rw [e]; rfl
      have l2 : loadF Tryz.prog 304 [Ob.box (cW (extW 48 (wordsOf blk))), Ob.box (cW (extW 48 (wordsOf blk)))] (.ptr 0 0 0) = some (.agg (cW (extW 48 (wordsOf blk)))) := load_all (σ := [Ob.box (cW (extW 48 (wordsOf blk))), Ob.box (cW (extW 48 (wordsOf blk)))]) (o := 0) rfl (by rw [hcl]; simp only [T304]) (by simp only [T304]) (by simp only [T304]; decide)
      simp only [fr, ↓RP, RS, Int.reduceBEq, Int.reduceBNe, Int.reduceLT, Int.reduceLE, Int.reduceAdd, Int.reduceSub, ↓reduceIte, Nat.reduceAdd, Nat.reduceMul, Nat.reduceSub, Nat.reduceLT, Nat.reduceLeDiff, Nat.reduceEqDiff, decide_true, decide_false, fieldAddrF, undE, tupE, e4, l1, s1]
      refine hK.fin (r := .agg (cW (extW 48 (wordsOf blk)))) ?_ (Fin.none0 _ _ (cW_ren _ _)) ⟨rfl, rfl⟩
      simp only [e179, resF, resAll, resOne, List.getD_cons_zero, List.getD_cons_succ, l2]
end Go.Proofs.YteafabpedfgedaaGreatDoor.Am
end
