/- index.Words: the words of a text, ascending. -/
import Derived.Test.YtchgfpehcjomeaaGreatDoorIb
set_option linter.unusedSimpArgs false
set_option linter.unusedVariables false
set_option maxRecDepth 10000
set_option maxHeartbeats 2000000
namespace Go.Proofs.YtchgfpehcjomeaaGreatDoor.Am
open Go Go.Proofs

/-! ### the scan, byte by byte -/
def scanK (s : W) (k : Nat) : W × List W := ((s.map some ++ [none]).take k).foldl stepW ([], [])
theorem scanK_zero (s : W) : scanK s 0 = ([], []) := rfl
theorem scanK_in (s : W) {k : Nat} (h : k < s.length) : scanK s (k + 1) = stepW (scanK s k) (some s[k]) := by
  have h' : k < (s.map some ++ [none]).length := by simp; omega
  unfold scanK
  rw [List.take_succ_eq_append_getElem h', List.foldl_append, List.getElem_append_left (by simpa using h)]
  simp
theorem scanK_last (s : W) : scanK s (s.length + 1) = stepW (scanK s s.length) none := by
  have h' : s.length < (s.map some ++ [none]).length := by simp
  unfold scanK
  rw [List.take_succ_eq_append_getElem h', List.foldl_append, List.getElem_append_right (by simp)]
  simp
theorem scanK_all (s : W) : scanK s (s.length + 1) = scanW s := by
  unfold scanK scanW
  rw [List.take_of_length_le (by simp)]

structure ScanOk (k : Nat) (x : W × List W) : Prop where
  cur : x.1.length ≤ k
  acc : x.2.length ≤ k
  len : ∀ w ∈ x.2, w.length ≤ k
  nd : x.2.Nodup
theorem ScanOk.step {k : Nat} {x : W × List W} (h : ScanOk k x) (b : Option UInt8) : ScanOk (k + 1) (stepW x b) := by
  unfold stepW
  split
  · exact ⟨by simp; exact h.cur, Nat.le_succ_of_le h.acc, fun w hw => Nat.le_succ_of_le (h.len w hw), h.nd⟩
  · unfold flush
    split
    · exact ⟨by simp, Nat.le_succ_of_le h.acc, fun w hw => Nat.le_succ_of_le (h.len w hw), h.nd⟩
    · unfold addW
      split
      · exact ⟨by simp, Nat.le_succ_of_le h.acc, fun w hw => Nat.le_succ_of_le (h.len w hw), h.nd⟩
      · rename_i hn
        refine ⟨by simp, by simp; exact h.acc, fun w hw => ?_, ?_⟩
        · simp only [List.mem_append, List.mem_singleton] at hw
          rcases hw with hw | rfl
          · exact Nat.le_succ_of_le (h.len w hw)
          · exact Nat.le_succ_of_le h.cur
        · exact List.nodup_append.2 ⟨h.nd, by simp, fun a ha b hb => by simp at hb; subst hb; rintro rfl; exact hn ha⟩
theorem scanOk (s : W) : ∀ k, k ≤ s.length + 1 → ScanOk k (scanK s k)
  | 0, _ => ⟨by simp [scanK_zero], by simp [scanK_zero], by simp [scanK_zero], by simp [scanK_zero]⟩
  | k + 1, h => by
    have ih := scanOk s k (by omega)
    by_cases e : k < s.length
    · rw [scanK_in s e]; exact ih.step _
    · have : k = s.length := by omega
      subst this
      rw [scanK_last]; exact ih.step _

/-- The words of a text, ascending. -/
def wordsOf (s : W) : List W := (scanW s).2.mergeSort leB
def wordsD (s : W) : D := .lst 1 ((wordsOf s).map .str)

theorem keys26 {σ : List Ob} {o : Nat} (h : alive σ o = true) : callA Tryz.prog 26 [.mp o] σ fun r σ' => r = .fn 56 [.ptr σ.length 0 0] ∧ σ' = σ ++ [.box [.mp o]] := by
  refine w26.go fun K hK => ?_
  have e1 : (σ ++ [Ob.box [.mp o]])[σ.length]? = some (.box [.mp o]) := by simp
  have e2 : cellsV σ (.mp o) = some [.mp o] := by simp [cellsV, one_mp h]
  simp only [e26, c26, p26, Tryz.f26, codeOf, comp, opsOf, stOf, cop, cstp, copAt, planFor, List.find?, List.find?_nil, Option.map_none, Option.getD_none, List.any_cons, List.any_nil, Stp.idx, Bool.or_false, Nat.reduceBEq, ↓RP, RS, Int.reduceBEq, Int.reduceBNe, Int.reduceLT, Int.reduceLE, Int.reduceAdd, Int.reduceSub, ↓reduceIte, Nat.reduceAdd, Nat.reduceMul, Nat.reduceSub, Nat.reduceLT, Nat.reduceLeDiff, Nat.reduceEqDiff, decide_true, decide_false, fieldAddrF, undE, tupE, W26, boxE, e2]
  exact hK.ret (by rfl) ⟨rfl, rfl⟩

theorem ents_keys (acc : List W) : (entsW acc).map (·.1) = acc := by
  unfold entsW
  rw [List.map_map]
  exact List.zipIdx_map_fst 0 acc

section
variable {σ : List Ob} {q : Option Nat} {ds : List D}
theorem len_buf (h : ArrB σ q ds) {n : Nat} (hn : n = ds.length) : builtinF Tryz.prog .len [74] σ [cellQ q n] = some (.d (.int .i64 (n : Int))) := by
  subst hn
  cases q with
  | none => simp only [ArrB] at h; subst h; simp only [cellQ, len_nils, W8]; rfl
  | some q =>
    obtain ⟨mk, junk, h⟩ := h
    simp only [cellQ, len_sl, W8, alive_of h (by simp)]; rfl
theorem cv_buf {q : Nat} {w : W} (h : ArrB σ (some q) (w.map u8D)) : cvF Tryz.prog 74 9 σ (.sl q 0 w.length) = some (.d (.str w), σ) := by
  obtain ⟨mk, junk, h⟩ := h
  have e : slD σ (.sl q 0 w.length) = some (w.map u8D) := by
    simp only [slD, h, List.drop_zero]
    rw [if_pos (by simp), List.take_left' (by simp)]
  simp only [cvF, convF, W8, arrSz, h, e, bytesOf_u8D, if_true, and_self, Option.map_some]
end

theorem build9 {σ : List Ob} {s : List V} {x : Operand} {b : UInt8} (h : get s x = .d (u8D b)) : buildSliceF Tryz.prog 74 1 σ s [(0, x)] = some (.sl σ.length 0 1, σ ++ [.arr 1 false [u8D b]]) := by
  simp only [buildSliceF, W8, inOrder, toDs, h, toD, u8D, flatOk, D.csz, D.cells, List.all_cons, List.all_nil, one1, beq_self_eq_true, if_true, Option.map_some, List.length_cons, List.length_nil]
  rfl

theorem words9c (s : W) (hl : s.length ≤ 1048000) : callA Tryz.prog 8 [.d (.str s)] [] fun r σ' => r = .d (wordsD s) ∧ σ' = [] := by
  refine w8.go fun K hK => ?_
  have w0 : IntKind.i64.wrap ((s.length : Int) + 1) = ((s.length + 1 : Nat) : Int) := by rw [IntWalk.i64_in _ (by omega)]; rfl
  simp only [e8, c8, p8, Tryz.f8, codeOf, comp, opsOf, stOf, cop, cstp, copAt, planFor, List.find?, List.find?_nil, Option.map_none, Option.getD_none, List.any_cons, List.any_nil, Stp.idx, Bool.or_false, Nat.reduceBEq, ↓RP, RS, Int.reduceBEq, Int.reduceBNe, Int.reduceLT, Int.reduceLE, Int.reduceAdd, Int.reduceSub, ↓reduceIte, Nat.reduceAdd, Nat.reduceMul, Nat.reduceSub, Nat.reduceLT, Nat.reduceLeDiff, Nat.reduceEqDiff, decide_true, decide_false, fieldAddrF, undE, tupE, W8, w0]
  refine Loop_k [0, 3, 4, 11, 12] (fun x : Nat × List Ob × Option Nat => fr 0 43 [(0, .d (.str s)), (3, .mp 0), (4, cellQ x.2.2 (scanK s x.1).1.length), (11, .d (.int .i64 (s.length + 1 : Nat))), (12, .d (.int .i64 x.1))]) (fun x => x.2.1)
    (fun x => x.1 ≤ s.length + 1 ∧ x.2.1[0]? = some (.map (strM (entsW (scanK s x.1).2)) (scanK s x.1).2.length) ∧ ArrB x.2.1 x.2.2 ((scanK s x.1).1.map u8D) ∧ x.2.2 ≠ some 0) (fun x => s.length + 1 - x.1) (0, [.map [] 0], none) (by kernel_rfl) rfl ⟨by simp, rfl, rfl, by simp⟩ fun ⟨k, sk, q⟩ ⟨hk, hm, hA, hq⟩ => ?_
  simp only at hk hm hA hq ⊢
  have hok := scanOk s k hk
  have hnext := fun (h : k < s.length) => scanK_in s h
  have hlast := scanK_last s
  generalize hx : scanK s k = x at hm hA hok hnext ⊢
  obtain ⟨cur, acc⟩ := x
  simp only at hm hA hok hnext ⊢
  have hcl : cur.length ≤ k := hok.cur
  have lb : ∀ n, n = cur.length → builtinF Tryz.prog .len [74] sk [cellQ q n] = some (.d (.int .i64 (n : Int))) := fun n hn => len_buf hA (by simpa using hn)
  have lb := lb _ rfl
  by_cases hlt : k < s.length + 1
  · have e3 : decide ((k : Int) < ((s.length + 1 : Nat) : Int)) = true := decide_eq_true (by omega)
    have w1 : IntKind.i64.wrap ((k : Int) + 1) = ((k + 1 : Nat) : Int) := by rw [IntWalk.i64_in _ (by omega)]; rfl
    -- the end of a word
    have hput : mapUpdateF Tryz.prog 73 sk (.mp 0) (.d (.str cur)) (.d (.bool true)) = some (sk.set 0 (.map (strM (entsW (addW cur acc))) (addW cur acc).length)) := by
      rw [map_put (kt := 9) (et := 4) (by simp only [W8]) (by simp only [W8]) hm, (ents_put cur acc).1, (ents_put cur acc).2]
    have done : ∀ (σ' : List Ob) (q' : Option Nat) (c' : W) (a' : List W), scanK s (k + 1) = (c', a') → σ'[0]? = some (.map (strM (entsW a')) a'.length) → ArrB σ' q' (c'.map u8D) → q' ≠ some 0 → 
        (fun x : Nat × List Ob × Option Nat => x.1 ≤ s.length + 1 ∧ x.2.1[0]? = some (.map (strM (entsW (scanK s x.1).2)) (scanK s x.1).2.length) ∧ ArrB x.2.1 x.2.2 ((scanK s x.1).1.map u8D) ∧ x.2.2 ≠ some 0) (k + 1, σ', q') := by
      intro σ' q' c' a' h1 h2 h3 h4
      refine ⟨by simp only; omega, ?_, ?_, h4⟩
      · simp only [h1]; exact h2
      · simp only [h1]; exact h3
    by_cases hin : k < s.length
    · have e4 : decide ((k : Int) < (s.length : Int)) = true := decide_eq_true (by omega)
      have x1 : indexF Tryz.prog 9 (.d (.str s)) (.d (.int .i64 (k : Int))) = some (.d (u8D s[k])) := by
        simp only [indexF, W8, Int.toNat_natCast, List.getElem?_eq_getElem hin, true_and]
        rw [if_pos (by omega)]; rfl
      have hn := hnext hin
      simp only [fr, ↓RP, RS, Int.reduceBEq, Int.reduceBNe, Int.reduceLT, Int.reduceLE, Int.reduceAdd, Int.reduceSub, ↓reduceIte, Nat.reduceAdd, Nat.reduceMul, Nat.reduceSub, Nat.reduceLT, Nat.reduceLeDiff, Nat.reduceEqDiff, decide_true, decide_false, fieldAddrF, undE, tupE, W8, e3, e4, x1]
      refine CallK_use' (fold24 s[k] sk) fun v0 s1 ⟨q1, q2⟩ => ?_
      subst q1; rw [q2]
      cases hlt : letter s[k] with
      | some c =>
        have hn' : scanK s (k + 1) = (cur ++ [c], acc) := by rw [hn]; simp [stepW, hlt]
        have fl : foldR s[k] = .tup [.d (u8D c), .d (.bool true)] := by simp [foldR, hlt]
        obtain ⟨q', σ', p1, p2, p3, p4⟩ := app_buf (d := u8D c) hA (by simp; omega) (t := 74) (e := 5) (b := 1) (by simp only [W8]) (by simp only [W8]) (by simp only [W8]) (by simp only [W8]) (by simp only [W8]) (by decide)
        rw [List.length_map] at p1
        have bs := fun (s : List V) (hg : get s (.tmp 28) = .d (u8D c)) => build9 (σ := sk) hg
        simp only [fl, ↓RP, RS, Int.reduceBEq, Int.reduceBNe, Int.reduceLT, Int.reduceLE, Int.reduceAdd, Int.reduceSub, ↓reduceIte, Nat.reduceAdd, Nat.reduceMul, Nat.reduceSub, Nat.reduceLT, Nat.reduceLeDiff, Nat.reduceEqDiff, decide_true, decide_false, fieldAddrF, undE, tupE, W8, bs, List.toList_toArray, p1, w1]
        refine seqK_n ⟨(k + 1, σ', some q'), done _ _ _ _ hn' (p4.get hm hq) (by simpa using p2) ?_, by simp only; omega, by simp only [hn', List.length_append, List.length_cons, List.length_nil]; kernel_rfl, rfl⟩
        rcases p3 with g | g
        · intro e; exact hq (g.trans e)
        · have := lt_of_get hm
          intro e; simp at e; omega
      | none =>
        have fl : foldR s[k] = .tup [.d (.int .u8 0), .d (.bool false)] := by simp [foldR, hlt]
        have hs : stepW (cur, acc) (some s[k]) = ([], flush cur acc) := by simp [stepW, hlt]
        rw [hs] at hn
        simp only [fl, ↓RP, RS, Int.reduceBEq, Int.reduceBNe, Int.reduceLT, Int.reduceLE, Int.reduceAdd, Int.reduceSub, ↓reduceIte, Nat.reduceAdd, Nat.reduceMul, Nat.reduceSub, Nat.reduceLT, Nat.reduceLeDiff, Nat.reduceEqDiff, decide_true, decide_false, fieldAddrF, undE, tupE, W8, lb]
        by_cases hc : cur = []
        · have e5 : decide (0 < (cur.length : Int)) = false := by simp [hc]
          rw [show flush cur acc = acc by simp [flush, hc]] at hn
          have hA : ArrB sk q (([] : W).map u8D) := by rw [← hc]; exact hA
          simp only [e5, ↓RP, RS, Int.reduceBEq, Int.reduceBNe, Int.reduceLT, Int.reduceLE, Int.reduceAdd, Int.reduceSub, ↓reduceIte, Nat.reduceAdd, Nat.reduceMul, Nat.reduceSub, Nat.reduceLT, Nat.reduceLeDiff, Nat.reduceEqDiff, decide_true, decide_false, fieldAddrF, undE, tupE, W8, w1]
          refine seqK_n ⟨(k + 1, sk, q), done _ _ _ _ hn hm hA hq, by simp only; omega, by simp only [hn, hc]; kernel_rfl, rfl⟩
        · have e5 : decide (0 < (cur.length : Int)) = true := by have := List.length_pos_iff.2 hc; exact decide_eq_true (by omega)
          rw [show flush cur acc = addW cur acc by simp [flush, hc]] at hn
          obtain ⟨p, rfl⟩ : ∃ p, q = some p := by
            cases q with
            | none => simp [ArrB, hc] at hA
            | some p => exact ⟨p, rfl⟩
          have hp0 : p ≠ 0 := fun e => hq (by rw [e])
          have cv := cv_buf hA
          obtain ⟨mk, junk, hb⟩ := hA
          have hb' : (sk.set 0 (.map (strM (entsW (addW cur acc))) (addW cur acc).length))[p]? = some (.arr 1 mk (cur.map u8D ++ junk)) := by rw [List.getElem?_set_ne (Ne.symm hp0)]; exact hb
          have sl0 : sliceF Tryz.prog 74 (sk.set 0 (.map (strM (entsW (addW cur acc))) (addW cur acc).length)) (.sl p 0 cur.length) none (some (.d (.int .i64 0))) none = some (.sl p 0 0) := slc_hi (k2 := .i64) (e := 5) (b := 0) hb' (by simp only [W8]) (by simp only [W8]) (by omega) (.inl (Nat.zero_le _))
          simp only [e5, ↓RP, RS, Int.reduceBEq, Int.reduceBNe, Int.reduceLT, Int.reduceLE, Int.reduceAdd, Int.reduceSub, ↓reduceIte, Nat.reduceAdd, Nat.reduceMul, Nat.reduceSub, Nat.reduceLT, Nat.reduceLeDiff, Nat.reduceEqDiff, decide_true, decide_false, fieldAddrF, undE, tupE, W8, w1, cellQ, cv, hput, undE, sl0]
          refine seqK_n ⟨(k + 1, _, some p), done _ _ _ _ hn (by rw [List.getElem?_set_self (lt_of_get hm)]) ⟨mk, _, hb'⟩ hq, by simp only; omega, by simp only [hn]; kernel_rfl, rfl⟩
    · have e4 : decide ((k : Int) < (s.length : Int)) = false := decide_eq_false (by omega)
      have hks : k = s.length := by omega
      have hn : scanK s (k + 1) = ([], flush cur acc) := by subst hks; rw [hlast, hx]; rfl
      simp only [fr, ↓RP, RS, Int.reduceBEq, Int.reduceBNe, Int.reduceLT, Int.reduceLE, Int.reduceAdd, Int.reduceSub, ↓reduceIte, Nat.reduceAdd, Nat.reduceMul, Nat.reduceSub, Nat.reduceLT, Nat.reduceLeDiff, Nat.reduceEqDiff, decide_true, decide_false, fieldAddrF, undE, tupE, W8, e3, e4, lb]
      by_cases hc : cur = []
      · have e5 : decide (0 < (cur.length : Int)) = false := by simp [hc]
        rw [show flush cur acc = acc by simp [flush, hc]] at hn
        have hA : ArrB sk q (([] : W).map u8D) := by rw [← hc]; exact hA
        simp only [e5, ↓RP, RS, Int.reduceBEq, Int.reduceBNe, Int.reduceLT, Int.reduceLE, Int.reduceAdd, Int.reduceSub, ↓reduceIte, Nat.reduceAdd, Nat.reduceMul, Nat.reduceSub, Nat.reduceLT, Nat.reduceLeDiff, Nat.reduceEqDiff, decide_true, decide_false, fieldAddrF, undE, tupE, W8, w1]
        refine seqK_n ⟨(k + 1, sk, q), done _ _ _ _ hn hm hA hq, by simp only; omega, by simp only [hn, hc]; kernel_rfl, rfl⟩
      · have e5 : decide (0 < (cur.length : Int)) = true := by have := List.length_pos_iff.2 hc; exact decide_eq_true (by omega)
        rw [show flush cur acc = addW cur acc by simp [flush, hc]] at hn
        obtain ⟨p, rfl⟩ : ∃ p, q = some p := by
          cases q with
          | none => simp [ArrB, hc] at hA
          | some p => exact ⟨p, rfl⟩
        have hp0 : p ≠ 0 := fun e => hq (by rw [e])
        have cv := cv_buf hA
        obtain ⟨mk, junk, hb⟩ := hA
        have hb' : (sk.set 0 (.map (strM (entsW (addW cur acc))) (addW cur acc).length))[p]? = some (.arr 1 mk (cur.map u8D ++ junk)) := by rw [List.getElem?_set_ne (Ne.symm hp0)]; exact hb
        have sl0 : sliceF Tryz.prog 74 (sk.set 0 (.map (strM (entsW (addW cur acc))) (addW cur acc).length)) (.sl p 0 cur.length) none (some (.d (.int .i64 0))) none = some (.sl p 0 0) := slc_hi (k2 := .i64) (e := 5) (b := 0) hb' (by simp only [W8]) (by simp only [W8]) (by omega) (.inl (Nat.zero_le _))
        simp only [e5, ↓RP, RS, Int.reduceBEq, Int.reduceBNe, Int.reduceLT, Int.reduceLE, Int.reduceAdd, Int.reduceSub, ↓reduceIte, Nat.reduceAdd, Nat.reduceMul, Nat.reduceSub, Nat.reduceLT, Nat.reduceLeDiff, Nat.reduceEqDiff, decide_true, decide_false, fieldAddrF, undE, tupE, W8, w1, cellQ, cv, hput, undE, sl0]
        refine seqK_n ⟨(k + 1, _, some p), done _ _ _ _ hn (by rw [List.getElem?_set_self (lt_of_get hm)]) ⟨mk, _, hb'⟩ hq, by simp only; omega, by simp only [hn]; kernel_rfl, rfl⟩
  · have e3 : decide ((k : Int) < ((s.length + 1 : Nat) : Int)) = false := decide_eq_false (by omega)
    simp only [fr, ↓RP, RS, Int.reduceBEq, Int.reduceBNe, Int.reduceLT, Int.reduceLE, Int.reduceAdd, Int.reduceSub, ↓reduceIte, Nat.reduceAdd, Nat.reduceMul, Nat.reduceSub, Nat.reduceLT, Nat.reduceLeDiff, Nat.reduceEqDiff, decide_true, decide_false, fieldAddrF, undE, tupE, W8, e3]
    refine CallK_use' (keys26 (alive_of hm (by simp))) fun v0 s1 ⟨q1, q2⟩ => ?_
    subst q1; rw [q2]
    simp only [↓RP, RS, Int.reduceBEq, Int.reduceBNe, Int.reduceLT, Int.reduceLE, Int.reduceAdd, Int.reduceSub, ↓reduceIte, Nat.reduceAdd, Nat.reduceMul, Nat.reduceSub, Nat.reduceLT, Nat.reduceLeDiff, Nat.reduceEqDiff, decide_true, decide_false, fieldAddrF, undE, tupE, W8]
    refine CallK_use' (sorted25 (b := sk.length) (o := 0) (es := entsW acc) (clk := acc.length) (by simp) (app_get hm _) (by rw [ents_keys]; exact hok.nd) ?_ ?_) fun v0 s1 ⟨q1, q2⟩ => ?_
    · have := congrArg List.length (ents_keys acc)
      have := hok.acc
      simp only [List.length_map] at *; omega
    · intro e he
      have : e.1 ∈ acc := by rw [← ents_keys acc]; exact List.mem_map.2 ⟨e, he, rfl⟩
      have := hok.len _ this
      omega
    subst q1; rw [q2]
    simp only [↓RP, RS, Int.reduceBEq, Int.reduceBNe, Int.reduceLT, Int.reduceLE, Int.reduceAdd, Int.reduceSub, ↓reduceIte, Nat.reduceAdd, Nat.reduceMul, Nat.reduceSub, Nat.reduceLT, Nat.reduceLeDiff, Nat.reduceEqDiff, decide_true, decide_false, fieldAddrF, undE, tupE, W8]
    have hks : k = s.length + 1 := by omega
    refine hK.fin (by rfl) (Fin.drop0 _ _) ⟨?_, rfl⟩
    have : (scanW s).2 = acc := by rw [← scanK_all, ← hks, hx]
    simp only [wordsD, wordsOf, this, ents_keys]

theorem words9 (s : W) (hl : s.length ≤ 1048000) (τ : List Ob) : callA Tryz.prog 8 [.d (.str s)] τ fun r σ' => r = .d (wordsD s) ∧ σ' = τ := callA_val (words9c s hl) τ rfl
end Go.Proofs.YtchgfpehcjomeaaGreatDoor.Am
