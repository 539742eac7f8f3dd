/- Walks of the lexer: prefixes, signs, tokens. -/
import Derived.Test.YtchgfpehcjomeaaGreatDoorLa
set_option linter.unusedSimpArgs false
set_option linter.unusedVariables false
set_option maxRecDepth 10000
set_option maxHeartbeats 2000000
namespace Go.Proofs.YtchgfpehcjomeaaGreatDoor.Am
open Go Go.Proofs Go.Shelf

def ixB_ren : Go.Shelf.Ren := ⟨fun | 137 => 96 | 217 => 123 | 266 => 134 | n => n, fun | n => n, fun | n => n⟩
theorem ixB : Lays.n137 Tryz.prog ixB_ren := {
  mixed := (by kernel_rfl),
  f137 := Tryz.func96.trans (congrArg some (by kernel_rfl)),
  f217 := Tryz.func123.trans (congrArg some (by kernel_rfl)),
  f266 := Tryz.func134.trans (congrArg some (by kernel_rfl)),
  t3 := Tryz.underlying3,
  a3 := Tryz.isAgg3,
  z3 := Tryz.sizeOf3,
  v3 := Tryz.zeroValue3,
  t5 := Tryz.underlying5,
  a5 := Tryz.isAgg5,
  z5 := Tryz.sizeOf5,
  v5 := Tryz.zeroValue5,
  t9 := Tryz.underlying9,
  a9 := Tryz.isAgg9,
  z9 := Tryz.sizeOf9,
  v9 := Tryz.zeroValue9 }

theorem index96 (s : W) (b : UInt8) (σ : List Ob) : callA Tryz.prog 96 [.d (.str s), .d (.int .u8 (b.toNat : Int))] σ fun r σ' => r = .d (.int .i64 (Lib.indexByte s b)) ∧ σ' = σ := by
  refine callA_intro' ⟨Tryz.f96, Tryz.func96, by kernel_rfl, by kernel_rfl⟩ fun c vals hs hv => ?_
  simp only [Cx.vrs, VRs, VR, DR] at hv
  obtain ⟨v0, t0, rfl, rfl, v1, t1, rfl, rfl, rfl⟩ := hv
  refine (Any.strings_IndexByte ixB ⟨s.toArray⟩ (b.toNat : Int) c.w).mono fun e w' hp => ?_
  obtain ⟨rfl, rfl⟩ := hp
  refine ⟨c.loc, σ, _, hs, Ext.refl c, ?_, rfl, rfl⟩
  simp [Cx.vr, VR, DR]

def preB (s p : W) : Bool := decide (p.length ≤ s.length) && (s.take p.length == p)

theorem prefix122 (s p : W) (σ : List Ob) : callA Tryz.prog 122 [.d (.str s), .d (.str p)] σ fun r σ' => r = .d (.bool (preB s p)) ∧ σ' = σ := by
  refine w122.go fun K hK => ?_
  by_cases hl : p.length ≤ s.length
  · have hd : decide ((p.length : Int) ≤ (s.length : Int)) = true := by simpa using hl
    have sl : sliceF Tryz.prog 9 σ (.d (.str s)) none (some (.d (.int .i64 (p.length : Int)))) none = some (.d (.str (s.take p.length))) := by
      have ht : isStrT Tryz.prog 9 = true := by simp only [T9]
      simp only [sliceF, optNat_nat, optNat_none, ht, Option.getD_none, Option.getD_some]
      rw [if_pos ⟨trivial, trivial⟩, if_pos ⟨Nat.zero_le _, by omega⟩]
      rfl
    simp only [e122, c122, p122, Tryz.f122, codeOf, comp, opsOf, stOf, cop, cstp, copAt, planFor, List.find?, List.find?_nil, Option.map_none, Option.getD_none, List.any_cons, List.any_nil, Stp.idx, Bool.or_false, Nat.reduceBEq, ↓RP, RS, Int.reduceBEq, Int.reduceBNe, Int.reduceLT, Int.reduceLE, Int.reduceAdd, Int.reduceSub, ↓reduceIte, Nat.reduceAdd, Nat.reduceMul, Nat.reduceSub, Nat.reduceLT, Nat.reduceLeDiff, Nat.reduceEqDiff, decide_true, decide_false, fieldAddrF, undE, tupE, W122, hd, sl, strBin]
    exact hK.ret (by rfl) ⟨by simp [preB, hl], rfl⟩
  · have hd : decide ((p.length : Int) ≤ (s.length : Int)) = false := by simpa using hl
    simp only [e122, c122, p122, Tryz.f122, codeOf, comp, opsOf, stOf, cop, cstp, copAt, planFor, List.find?, List.find?_nil, Option.map_none, Option.getD_none, List.any_cons, List.any_nil, Stp.idx, Bool.or_false, Nat.reduceBEq, ↓RP, RS, Int.reduceBEq, Int.reduceBNe, Int.reduceLT, Int.reduceLE, Int.reduceAdd, Int.reduceSub, ↓reduceIte, Nat.reduceAdd, Nat.reduceMul, Nat.reduceSub, Nat.reduceLT, Nat.reduceLeDiff, Nat.reduceEqDiff, decide_true, decide_false, fieldAddrF, undE, tupE, W122, hd]
    exact hK.ret (by rfl) ⟨by simp [preB, hl], rfl⟩

theorem prefix95 (s p : W) (σ : List Ob) : callA Tryz.prog 95 [.d (.str s), .d (.str p)] σ fun r σ' => r = .d (.bool (preB s p)) ∧ σ' = σ := by
  refine w95.go fun K hK => ?_
  simp only [e95, c95, p95, Tryz.f95, codeOf, comp, opsOf, stOf, cop, cstp, copAt, planFor, List.find?, List.find?_nil, Option.map_none, Option.getD_none, List.any_cons, List.any_nil, Stp.idx, Bool.or_false, Nat.reduceBEq, ↓RP, RS, Int.reduceBEq, Int.reduceBNe, Int.reduceLT, Int.reduceLE, Int.reduceAdd, Int.reduceSub, ↓reduceIte, Nat.reduceAdd, Nat.reduceMul, Nat.reduceSub, Nat.reduceLT, Nat.reduceLeDiff, Nat.reduceEqDiff, decide_true, decide_false, fieldAddrF, undE, tupE, W95]
  refine CallK_use' (prefix122 s p σ) fun v σ' ⟨q1, q2⟩ => ?_
  subst q1; subst q2
  simp only [↓RP, RS, Int.reduceBEq, Int.reduceBNe, Int.reduceLT, Int.reduceLE, Int.reduceAdd, Int.reduceSub, ↓reduceIte, Nat.reduceAdd, Nat.reduceMul, Nat.reduceSub, Nat.reduceLT, Nat.reduceLeDiff, Nat.reduceEqDiff, decide_true, decide_false, fieldAddrF, undE, tupE, W95]
  exact hK.ret (by rfl) ⟨rfl, rfl⟩

/-- A bracket is a sign. -/
theorem sign62 (b : UInt8) (hb : b = 40 ∨ b = 41) (rest : W) (σ : List Ob) : callA Tryz.prog 62 [.d (.str (b :: rest))] σ fun r σ' => r = .d (.str [b]) ∧ σ' = σ := by
  refine w62.go fun K hK => ?_
  have np : ∀ (x y : UInt8), x ≠ b → preB (b :: rest) [x, y] = false := fun x y h => by
    simp only [preB, Bool.and_eq_false_iff]
    right
    cases rest with
    | nil => simp
    | cons z r =>
      simp
      intro e
      exact absurd e.symm h
  have ixz : indexF Tryz.prog 9 (.d (.str (b :: rest))) (.d (.int .i64 0)) = some (.d (.int .u8 (b.toNat : Int))) := ixs (s := b :: rest) (k := 0) rfl
  have sl : sliceF Tryz.prog 9 σ (.d (.str (b :: rest))) none (some (.d (.int .i64 1))) none = some (.d (.str [b])) := by
    have ht : isStrT Tryz.prog 9 = true := by simp only [T9]
    have on : optNat (some (.d (.int .i64 1))) = some (some 1) := optNat_nat .i64 1
    simp only [sliceF, on, optNat_none, ht, Option.getD_none, Option.getD_some]
    rw [if_pos ⟨trivial, trivial⟩, if_pos ⟨Nat.zero_le _, by simp⟩]
    rfl
  have bf : ∀ s, buildF Tryz.prog 177 σ s [(0, .const (.string ⟨#[61, 61]⟩)), (1, .const (.string ⟨#[33, 61]⟩)), (2, .const (.string ⟨#[60, 61]⟩)), (3, .const (.string ⟨#[62, 61]⟩))] = some (.agg [.d (.str [61, 61]), .d (.str [33, 61]), .d (.str [60, 61]), .d (.str [62, 61])]) := fun s => by kernel_rfl
  simp only [e62, c62, p62, Tryz.f62, codeOf, comp, opsOf, stOf, cop, cstp, copAt, planFor, List.find?, List.find?_nil, Option.map_none, Option.getD_none, List.any_cons, List.any_nil, Stp.idx, Bool.or_false, Nat.reduceBEq, ↓RP, RS, Int.reduceBEq, Int.reduceBNe, Int.reduceLT, Int.reduceLE, Int.reduceAdd, Int.reduceSub, ↓reduceIte, Nat.reduceAdd, Nat.reduceMul, Nat.reduceSub, Nat.reduceLT, Nat.reduceLeDiff, Nat.reduceEqDiff, decide_true, decide_false, fieldAddrF, undE, tupE, W62, bf]
  refine Loop_k [0, 5, 6] (fun i : Nat => fr 0 20 [(0, .d (.str (b :: rest))), (5, .agg [.d (.str [61, 61]), .d (.str [33, 61]), .d (.str [60, 61]), .d (.str [62, 61])]), (6, .d (.int .i64 i))]) (fun _ => σ) (fun i => i ≤ 4) (fun i => 4 - i) 0 (by kernel_rfl) rfl (Nat.zero_le _) fun i hi => ?_
  have hw : IntKind.i64.wrap ((i : Int) + 1) = ((i + 1 : Nat) : Int) := by rw [IntWalk.i64_in _ (by omega)]; rfl
  have hn : b ≠ 61 ∧ b ≠ 33 ∧ b ≠ 60 ∧ b ≠ 62 := by rcases hb with rfl | rfl <;> decide
  by_cases hlt : i < 4
  · have hd : decide ((i : Int) < 4) = true := by simp; omega
    obtain ⟨p, hix, hp⟩ : ∃ p : W, indexF Tryz.prog 177 (.agg [.d (.str [61, 61]), .d (.str [33, 61]), .d (.str [60, 61]), .d (.str [62, 61])]) (.d (.int .i64 (i : Int))) = some (.d (.str p)) ∧ preB (b :: rest) p = false := by
      match i, hlt with
      | 0, _ => exact ⟨[61, 61], by kernel_rfl, np _ _ (fun e => hn.1 e.symm)⟩
      | 1, _ => exact ⟨[33, 61], by kernel_rfl, np _ _ (fun e => hn.2.1 e.symm)⟩
      | 2, _ => exact ⟨[60, 61], by kernel_rfl, np _ _ (fun e => hn.2.2.1 e.symm)⟩
      | 3, _ => exact ⟨[62, 61], by kernel_rfl, np _ _ (fun e => hn.2.2.2 e.symm)⟩
    simp only [fr, ↓RP, RS, Int.reduceBEq, Int.reduceBNe, Int.reduceLT, Int.reduceLE, Int.reduceAdd, Int.reduceSub, ↓reduceIte, Nat.reduceAdd, Nat.reduceMul, Nat.reduceSub, Nat.reduceLT, Nat.reduceLeDiff, Nat.reduceEqDiff, decide_true, decide_false, fieldAddrF, undE, tupE, W62, hd, hix]
    refine CallK_use' (prefix95 (b :: rest) p σ) fun v σ' ⟨q1, q2⟩ => ?_
    subst q1; subst q2
    simp only [↓RP, RS, Int.reduceBEq, Int.reduceBNe, Int.reduceLT, Int.reduceLE, Int.reduceAdd, Int.reduceSub, ↓reduceIte, Nat.reduceAdd, Nat.reduceMul, Nat.reduceSub, Nat.reduceLT, Nat.reduceLeDiff, Nat.reduceEqDiff, decide_true, decide_false, fieldAddrF, undE, tupE, W62, hp, hw]
    exact seqK_n ⟨i + 1, by omega, by omega, by kernel_rfl, rfl⟩
  · have hie : i = 4 := by omega
    subst hie
    have hd : decide (((4 : Nat) : Int) < 4) = false := rfl
    simp only [fr, ↓RP, RS, Int.reduceBEq, Int.reduceBNe, Int.reduceLT, Int.reduceLE, Int.reduceAdd, Int.reduceSub, ↓reduceIte, Nat.reduceAdd, Nat.reduceMul, Nat.reduceSub, Nat.reduceLT, Nat.reduceLeDiff, Nat.reduceEqDiff, decide_true, decide_false, fieldAddrF, undE, tupE, W62, hd, ixz]
    refine CallK_use' (index96 [40, 41, 44, 58, 61, 60, 62, 43, 45, 42, 47, 37] b σ) fun v σ' ⟨q1, q2⟩ => ?_
    subst q1; subst q2
    have hge : decide ((0 : Int) ≤ Lib.indexByte [40, 41, 44, 58, 61, 60, 62, 43, 45, 42, 47, 37] b) = true := by rcases hb with rfl | rfl <;> decide
    simp only [↓RP, RS, Int.reduceBEq, Int.reduceBNe, Int.reduceLT, Int.reduceLE, Int.reduceAdd, Int.reduceSub, ↓reduceIte, Nat.reduceAdd, Nat.reduceMul, Nat.reduceSub, Nat.reduceLT, Nat.reduceLeDiff, Nat.reduceEqDiff, decide_true, decide_false, fieldAddrF, undE, tupE, W62, hge, sl]
    exact hK.ret (by rfl) ⟨rfl, rfl⟩

/-- A token. -/
def tokL (k : Nat) (t : W) (at_ : Int) : List D := [.int .i64 k, .str t, .int .i64 0, .int .i64 at_]

/-- What the lexer's 'token' hands back at a source. -/
def TokOk (s : W) (k : Nat) (t : W) (n : Nat) : Prop :=
  ∀ (σ : List Ob) (o : Nat), σ[o]? = some (.box (clsD.map .d)) → callA Tryz.prog 29 [.ptr o 0 0, .d (.str s)] σ fun r σ' => r = .tup [.agg ((tokL k t 0).map .d), .d (.int .i64 n), .d (.bool true)] ∧ Keeps (fun _ => False) σ σ'

theorem tok_word {s : W} {b : UInt8} (hb : s[0]? = some b) (hc : clsN b.toNat = 2) (hs : s.length ≤ 1048576) (hw : (s.takeWhile isWb).length ≤ 24) : TokOk s 0 (s.takeWhile isWb) (s.takeWhile isWb).length := by
  intro σ o h
  refine w29.go fun K hK => ?_
  have g0 : (σ ++ [Ob.box [V.d (.int .i64 0), V.d (.str []), V.d (.int .i64 0), V.d (.int .i64 0)]])[σ.length]? = some (.box [V.d (.int .i64 0), V.d (.str []), V.d (.int .i64 0), V.d (.int .i64 0)]) := by simp
  have h1 : (σ ++ [Ob.box [V.d (.int .i64 0), V.d (.str []), V.d (.int .i64 0), V.d (.int .i64 0)]])[o]? = some (.box (clsD.map .d)) := app_get h _
  have kp : Keeps (fun _ => False) σ (σ ++ [Ob.box [V.d (.int .i64 0), V.d (.str []), V.d (.int .i64 0), V.d (.int .i64 0)]]) := Keeps.app _ _ _
  have hne := lt_of_get h
  generalize hσ1 : σ ++ [Ob.box [V.d (.int .i64 0), V.d (.str []), V.d (.int .i64 0), V.d (.int .i64 0)]] = σ1 at *
  have a1 := alive_of h1 (by simp)
  have a0 := alive_of g0 (by simp)
  have x1 : indexF Tryz.prog 9 (.d (.str s)) (.d (.int .i64 0)) = some (.d (.int .u8 (b.toNat : Int))) := ixs (k := 0) hb
  have x2 := ix82 a1 b
  have x3 := ld82 h1 b
  have e2 : ((clsN b.toNat : Int) == 2) = true := by simp [hc]
  have hle : decide (((s.takeWhile isWb).length : Int) ≤ 24) = true := by simp; omega
  simp only [e29, c29, p29, Tryz.f29, codeOf, comp, opsOf, stOf, cop, cstp, copAt, planFor, List.find?, List.find?_nil, Option.map_none, Option.getD_none, List.any_cons, List.any_nil, Stp.idx, Bool.or_false, Nat.reduceBEq, ↓RP, RS, Int.reduceBEq, Int.reduceBNe, Int.reduceLT, Int.reduceLE, Int.reduceAdd, Int.reduceSub, ↓reduceIte, Nat.reduceAdd, Nat.reduceMul, Nat.reduceSub, Nat.reduceLT, Nat.reduceLeDiff, Nat.reduceEqDiff, decide_true, decide_false, fieldAddrF, undE, tupE, W29, allocE, hσ1, x1, x2, x3, a1, e2]
  refine CallK_use' (word59 h1 s hs) fun v σ' ⟨q1, q2⟩ => ?_
  subst q1; subst q2
  have bf : ∀ sl, get sl (.tmp 25) = .d (.str (s.takeWhile isWb)) → buildF Tryz.prog 85 σ' sl [(0, .const (.int .i64 0)), (1, .tmp 25)] = some (.agg ((tokL 0 (s.takeWhile isWb) 0).map .d)) := fun sl hsl => by
    simp only [buildF, W29, fillV, hsl, cellsV]
    rfl
  have st := store_agg (P := Tryz.prog) (t := 85) (k := 0) (xs := (tokL 0 (s.takeWhile isWb) 0).map .d) g0 (by rfl) (by simp [tokL]) (by simp [tokL, W29]) (by simp [W29])
  rw [setAt_all (by rfl)] at st
  simp only [↓RP, RS, Int.reduceBEq, Int.reduceBNe, Int.reduceLT, Int.reduceLE, Int.reduceAdd, Int.reduceSub, ↓reduceIte, Nat.reduceAdd, Nat.reduceMul, Nat.reduceSub, Nat.reduceLT, Nat.reduceLeDiff, Nat.reduceEqDiff, decide_true, decide_false, fieldAddrF, undE, tupE, W29, bf, st, hle, a0]
  have lm := load_all (P := Tryz.prog) (t := 85) (set_at g0 (.box ((tokL 0 (s.takeWhile isWb) 0).map .d))) (by simp [W29, tokL]) (by simp only [W29]) (by simp [W29])
  refine hK.ret (r := .tup [.agg ((tokL 0 (s.takeWhile isWb) 0).map .d), .d (.int .i64 (s.takeWhile isWb).length), .d (.bool true)]) (by simp only [resF, resAll, resOne, e29, RS, lm]) ⟨rfl, ?_⟩
  refine ⟨by simp; exact kp.1, fun j hj hs => ?_⟩
  rw [List.getElem?_set_ne (by omega)]
  exact kp.2 j hj hs
end Go.Proofs.YtchgfpehcjomeaaGreatDoor.Am
