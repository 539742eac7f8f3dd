/- Walks of the lexer: the classes of bytes, words, texts, signs. -/
import Derived.Test.YtchgfpehcjomeaaGreatDoorIk
import Derived.Shelf.Small.Strs
set_option linter.unusedSimpArgs false
set_option linter.unusedVariables false
set_option maxRecDepth 10000
set_option maxHeartbeats 2000000
namespace Go.Proofs.YtchgfpehcjomeaaGreatDoor.Am
open Go Go.Proofs

/-- The class of a byte. -/
def clsN (n : Nat) : Nat :=
  if n = 9 ∨ n = 10 ∨ n = 13 ∨ n = 32 then 1 else if 97 ≤ n ∧ n ≤ 122 then 2 else if 48 ≤ n ∧ n ≤ 57 then 3 else if n = 95 then 4 else if n = 34 then 5 else 0
def clsD : List D := (List.range 256).map fun n => .int .u8 (clsN n)
theorem clsD_get (b : UInt8) : clsD[b.toNat]? = some (.int .u8 (clsN b.toNat)) := by
  unfold clsD
  rw [List.getElem?_map, List.getElem?_range b.toNat_lt]
  rfl
theorem classes28 : callA Tryz.prog 28 [] [] fun r σ' => r = .agg (clsD.map .d) ∧ σ' = [] := run_ok tabOk 400 (by kernel_rfl)

def isWb (b : UInt8) : Bool := clsN b.toNat == 2 || clsN b.toNat == 3 || clsN b.toNat == 4

theorem ix82 {σ : List Ob} {o : Nat} (h : alive σ o = true) (b : UInt8) : indexAddrF Tryz.prog 82 σ (.ptr o 0 0) (.d (.int .u8 (b.toNat : Int))) = some (.ptr o 0 b.toNat) := by
  have hb := b.toNat_lt
  have z : szOf Tryz.prog 5 = 1 := by simp only [T5]
  have ha : arrT Tryz.prog 82 = some (256, 5) := by simp only [T82]
  simp only [indexAddrF, ha, z, h]
  rw [if_pos ⟨by decide, trivial⟩, if_pos ⟨by omega, by omega⟩]
  simp
theorem ld82 {σ : List Ob} {o : Nat} (h : σ[o]? = some (.box (clsD.map .d))) (b : UInt8) : loadF Tryz.prog 5 σ (.ptr o 0 b.toNat) = some (.d (.int .u8 (clsN b.toNat))) :=
  load_box h (by rw [List.getElem?_map, clsD_get]; rfl) (by simp only [T5]) (by simp only [T5])
theorem ixs {s : W} {k : Nat} {b : UInt8} (h : s[k]? = some b) : indexF Tryz.prog 9 (.d (.str s)) (.d (.int .i64 (k : Int))) = some (.d (.int .u8 (b.toNat : Int))) := by
  have ht : isStrT Tryz.prog 9 = true := by simp only [T9]
  simp only [indexF, ht]
  rw [if_pos ⟨trivial, by omega⟩]
  simp [h]

theorem tw_mem {α : Type} {p : α → Bool} {b : α} : ∀ {s : List α}, b ∈ s.takeWhile p → p b = true
  | [], h => by simp at h
  | x :: s, h => by
    rw [List.takeWhile_cons] at h
    split at h
    · rename_i hp
      rcases List.mem_cons.1 h with rfl | h
      · exact hp
      · exact tw_mem h
    · simp at h

theorem word59 {σ : List Ob} {o : Nat} (h : σ[o]? = some (.box (clsD.map .d))) (s : W) (hs : s.length ≤ 1048576) : callA Tryz.prog 59 [.ptr o 0 0, .d (.str s)] σ fun r σ' => r = .d (.str (s.takeWhile isWb)) ∧ σ' = σ := by
  refine w59.go fun K hK => ?_
  have a1 := alive_of h (by simp)
  simp only [e59, c59, p59, Tryz.f59, codeOf, comp, opsOf, stOf, cop, cstp, copAt, planFor, List.find?, List.find?_nil, Option.map_none, Option.getD_none, List.any_cons, List.any_nil, Stp.idx, Bool.or_false, Nat.reduceBEq, ↓RP, RS, Int.reduceBEq, Int.reduceBNe, Int.reduceLT, Int.reduceLE, Int.reduceAdd, Int.reduceSub, ↓reduceIte, Nat.reduceAdd, Nat.reduceMul, Nat.reduceSub, Nat.reduceLT, Nat.reduceLeDiff, Nat.reduceEqDiff, decide_true, decide_false, fieldAddrF, undE, tupE, W59]
  refine Loop_k [0, 1, 5] (fun i : Nat => fr 0 45 [(0, .ptr o 0 0), (1, .d (.str s)), (5, .d (.int .i64 i))]) (fun _ => σ) (fun i => i ≤ (s.takeWhile isWb).length) (fun i => s.length - i) 0 (by kernel_rfl) rfl (Nat.zero_le _) fun i hi => ?_
  have hle : (s.takeWhile isWb).length ≤ s.length := (List.takeWhile_sublist _).length_le
  have hw : IntKind.i64.wrap ((i : Int) + 1) = ((i + 1 : Nat) : Int) := by rw [IntWalk.i64_in _ (by omega)]; rfl
  have hsp : s = s.takeWhile isWb ++ s.dropWhile isWb := (List.takeWhile_append_dropWhile).symm
  by_cases hlt : i < s.length
  · have hd : decide ((i : Int) < (s.length : Int)) = true := by simpa using hlt
    obtain ⟨b, hb⟩ : ∃ b, s[i]? = some b := ⟨s[i], List.getElem?_eq_getElem hlt⟩
    have x1 := ixs hb
    have x2 := ix82 a1 b
    have x3 := ld82 h b
    by_cases hin : i < (s.takeWhile isWb).length
    · have hbw : isWb b = true := by
        have : (s.takeWhile isWb)[i]? = some b := by
          rw [hsp, List.getElem?_append_left hin] at hb; exact hb
        exact tw_mem (List.mem_of_getElem? this)
      simp only [isWb, Bool.or_eq_true, beq_iff_eq] at hbw
      by_cases c2 : clsN b.toNat = 2
      · have e2 : ((clsN b.toNat : Int) == 2) = true := by simp [c2]
        simp only [fr, ↓RP, RS, Int.reduceBEq, Int.reduceBNe, Int.reduceLT, Int.reduceLE, Int.reduceAdd, Int.reduceSub, ↓reduceIte, Nat.reduceAdd, Nat.reduceMul, Nat.reduceSub, Nat.reduceLT, Nat.reduceLeDiff, Nat.reduceEqDiff, decide_true, decide_false, fieldAddrF, undE, tupE, W59, hd, x1, x2, x3, a1, e2, hw]
        exact seqK_n ⟨i + 1, by omega, by omega, by kernel_rfl, rfl⟩
      have e2 : ((clsN b.toNat : Int) == 2) = false := by simp; omega
      by_cases c3 : clsN b.toNat = 3
      · have e3 : ((clsN b.toNat : Int) == 3) = true := by simp [c3]
        simp only [fr, ↓RP, RS, Int.reduceBEq, Int.reduceBNe, Int.reduceLT, Int.reduceLE, Int.reduceAdd, Int.reduceSub, ↓reduceIte, Nat.reduceAdd, Nat.reduceMul, Nat.reduceSub, Nat.reduceLT, Nat.reduceLeDiff, Nat.reduceEqDiff, decide_true, decide_false, fieldAddrF, undE, tupE, W59, hd, x1, x2, x3, a1, e2, e3, hw]
        exact seqK_n ⟨i + 1, by omega, by omega, by kernel_rfl, rfl⟩
      have e3 : ((clsN b.toNat : Int) == 3) = false := by simp; omega
      have c4 : clsN b.toNat = 4 := by omega
      have e4 : ((clsN b.toNat : Int) == 4) = true := by simp [c4]
      simp only [fr, ↓RP, RS, Int.reduceBEq, Int.reduceBNe, Int.reduceLT, Int.reduceLE, Int.reduceAdd, Int.reduceSub, ↓reduceIte, Nat.reduceAdd, Nat.reduceMul, Nat.reduceSub, Nat.reduceLT, Nat.reduceLeDiff, Nat.reduceEqDiff, decide_true, decide_false, fieldAddrF, undE, tupE, W59, hd, x1, x2, x3, a1, e2, e3, e4, hw]
      exact seqK_n ⟨i + 1, by omega, by omega, by kernel_rfl, rfl⟩
    · have hie : i = (s.takeWhile isWb).length := by omega
      have hbw : isWb b = false := by
        have hd0 : (s.dropWhile isWb)[0]? = some b := by
          have hb' := hb
          rw [hsp, List.getElem?_append_right (by omega), hie, Nat.sub_self] at hb'
          exact hb'
        cases hdw : s.dropWhile isWb with
        | nil => rw [hdw] at hd0; simp at hd0
        | cons y r =>
          rw [hdw] at hd0
          simp at hd0; subst hd0
          have := List.head?_dropWhile_not isWb s
          rw [hdw] at this
          simpa using this
      simp only [isWb, Bool.or_eq_false_iff, beq_eq_false_iff_ne, ne_eq] at hbw
      have e2 : ((clsN b.toNat : Int) == 2) = false := by simp; omega
      have e3 : ((clsN b.toNat : Int) == 3) = false := by simp; omega
      have e4 : ((clsN b.toNat : Int) == 4) = false := by simp; omega
      have sl : sliceF Tryz.prog 9 σ (.d (.str s)) none (some (.d (.int .i64 (i : Int)))) none = some (.d (.str (s.takeWhile isWb))) := by
        have ht : isStrT Tryz.prog 9 = true := by simp only [T9]
        simp only [sliceF, optNat_nat, optNat_none, ht, Option.getD_none, Option.getD_some]
        rw [if_pos ⟨trivial, trivial⟩, if_pos ⟨Nat.zero_le _, by omega⟩]
        congr 3
        simp only [cutS]
        conv => lhs; rw [hsp]
        rw [hie, List.take_left]
      simp only [fr, ↓RP, RS, Int.reduceBEq, Int.reduceBNe, Int.reduceLT, Int.reduceLE, Int.reduceAdd, Int.reduceSub, ↓reduceIte, Nat.reduceAdd, Nat.reduceMul, Nat.reduceSub, Nat.reduceLT, Nat.reduceLeDiff, Nat.reduceEqDiff, decide_true, decide_false, fieldAddrF, undE, tupE, W59, hd, x1, x2, x3, a1, e2, e3, e4, sl]
      exact hK.ret (by rfl) ⟨rfl, rfl⟩
  · have hd : decide ((i : Int) < (s.length : Int)) = false := by simpa using hlt
    have hie : i = s.length := by omega
    have sl : sliceF Tryz.prog 9 σ (.d (.str s)) none (some (.d (.int .i64 (i : Int)))) none = some (.d (.str (s.takeWhile isWb))) := by
      have ht : isStrT Tryz.prog 9 = true := by simp only [T9]
      simp only [sliceF, optNat_nat, optNat_none, ht, Option.getD_none, Option.getD_some]
      rw [if_pos ⟨trivial, trivial⟩, if_pos ⟨Nat.zero_le _, by omega⟩]
      congr 3
      simp only [cutS]
      have : s.takeWhile isWb = s := List.Sublist.eq_of_length (List.takeWhile_sublist _) (by omega)
      rw [this, hie, List.take_length]
    simp only [fr, ↓RP, RS, Int.reduceBEq, Int.reduceBNe, Int.reduceLT, Int.reduceLE, Int.reduceAdd, Int.reduceSub, ↓reduceIte, Nat.reduceAdd, Nat.reduceMul, Nat.reduceSub, Nat.reduceLT, Nat.reduceLeDiff, Nat.reduceEqDiff, decide_true, decide_false, fieldAddrF, undE, tupE, W59, hd, sl]
    exact hK.ret (by rfl) ⟨rfl, rfl⟩

/-- The text of a string that ends at the first quote. -/
theorem text61 (w rest : W) (τ : List Ob) (hw : w.length ≤ 24) (hb : ∀ b ∈ w, 32 ≤ b.toNat ∧ b.toNat ≤ 126 ∧ b.toNat ≠ 34 ∧ b.toNat ≠ 92) : callA Tryz.prog 61 [.d (.str (w ++ 34 :: rest))] τ fun r σ' => r = .tup [.d (.str w), .d (.bool true)] ∧ σ' = τ := by
  refine w61.go fun K hK => ?_
  simp only [e61, c61, p61, Tryz.f61, codeOf, comp, opsOf, stOf, cop, cstp, copAt, planFor, List.find?, List.find?_nil, Option.map_none, Option.getD_none, List.any_cons, List.any_nil, Stp.idx, Bool.or_false, Nat.reduceBEq, ↓RP, RS, Int.reduceBEq, Int.reduceBNe, Int.reduceLT, Int.reduceLE, Int.reduceAdd, Int.reduceSub, ↓reduceIte, Nat.reduceAdd, Nat.reduceMul, Nat.reduceSub, Nat.reduceLT, Nat.reduceLeDiff, Nat.reduceEqDiff, decide_true, decide_false, fieldAddrF, undE, tupE, W61]
  generalize hs : w ++ 34 :: rest = s
  have hl : s.length = w.length + 1 + rest.length := by rw [← hs]; simp; omega
  refine Loop_k [0, 4] (fun i : Nat => fr 0 34 [(0, .d (.str s)), (4, .d (.int .i64 i))]) (fun _ => τ) (fun i => i ≤ w.length) (fun i => w.length - i) 0 (by kernel_rfl) rfl (Nat.zero_le _) fun i hi => ?_
  have hd : decide ((i : Int) < (s.length : Int)) = true := by rw [hl]; simp; omega
  have hd2 : decide ((i : Int) ≤ 24) = true := by simp; omega
  have hw1 : IntKind.i64.wrap ((i : Int) + 1) = ((i + 1 : Nat) : Int) := by rw [IntWalk.i64_in _ (by omega)]; rfl
  by_cases hlt : i < w.length
  · obtain ⟨b, hb1⟩ : ∃ b, w[i]? = some b := ⟨w[i], List.getElem?_eq_getElem hlt⟩
    have hbs : s[i]? = some b := by rw [← hs, List.getElem?_append_left hlt]; exact hb1
    obtain ⟨g1, g2, g3, g4⟩ := hb b (List.mem_of_getElem? hb1)
    have x1 := ixs hbs
    have e1 : ((b.toNat : Int) == 34) = false := by simp; omega
    have e2 : decide ((b.toNat : Int) < 32) = false := by simp; omega
    have e3 : decide ((126 : Int) < b.toNat) = false := by simp; omega
    have e4 : ((b.toNat : Int) == 92) = false := by simp; omega
    simp only [fr, ↓RP, RS, Int.reduceBEq, Int.reduceBNe, Int.reduceLT, Int.reduceLE, Int.reduceAdd, Int.reduceSub, ↓reduceIte, Nat.reduceAdd, Nat.reduceMul, Nat.reduceSub, Nat.reduceLT, Nat.reduceLeDiff, Nat.reduceEqDiff, decide_true, decide_false, fieldAddrF, undE, tupE, W61, hd, hd2, x1, e1, e2, e3, e4, hw1]
    exact seqK_n ⟨i + 1, by omega, by omega, by kernel_rfl, rfl⟩
  · have hie : i = w.length := by omega
    have hbs : s[i]? = some 34 := by rw [← hs, List.getElem?_append_right (by omega), hie, Nat.sub_self]; rfl
    have x1 := ixs hbs
    have x1 : indexF Tryz.prog 9 (.d (.str s)) (.d (.int .i64 (i : Int))) = some (.d (.int .u8 34)) := x1
    have sl : sliceF Tryz.prog 9 τ (.d (.str s)) none (some (.d (.int .i64 (i : Int)))) none = some (.d (.str w)) := by
      have ht : isStrT Tryz.prog 9 = true := by simp only [T9]
      simp only [sliceF, optNat_nat, optNat_none, ht, Option.getD_none, Option.getD_some]
      rw [if_pos ⟨trivial, trivial⟩, if_pos ⟨Nat.zero_le _, by omega⟩]
      congr 3
      simp only [cutS]
      rw [hie, ← hs, List.take_left]
    simp only [fr, ↓RP, RS, Int.reduceBEq, Int.reduceBNe, Int.reduceLT, Int.reduceLE, Int.reduceAdd, Int.reduceSub, ↓reduceIte, Nat.reduceAdd, Nat.reduceMul, Nat.reduceSub, Nat.reduceLT, Nat.reduceLeDiff, Nat.reduceEqDiff, decide_true, decide_false, fieldAddrF, undE, tupE, W61, hd, hd2, x1, sl]
    exact hK.ret (by rfl) ⟨rfl, rfl⟩
end Go.Proofs.YtchgfpehcjomeaaGreatDoor.Am
