/- The index: walk of Set. -/
import Derived.Test.YtchgfpehcjomeaaGreatDoorIg
set_option linter.unusedSimpArgs false
set_option linter.unusedVariables false
set_option maxRecDepth 10000
set_option maxHeartbeats 2000000
namespace Go.Proofs.YtchgfpehcjomeaaGreatDoor.Am
open Go Go.Proofs

theorem scanW_len (s : W) : (scanW s).2.length ≤ s.length + 1 := by
  rw [← scanK_all]; exact (scanOk s _ (Nat.le_refl _)).acc
theorem wordsOf_len (s : W) : (wordsOf s).length ≤ s.length + 1 := by
  unfold wordsOf; rw [List.length_mergeSort]; exact scanW_len s

theorem set15 {σ : List Ob} {x t i : Nat} {S : Nat → Prop} {A : W → List W} {L : List W} (h : IxG σ x t i S A L) (id text : W) (hA : (A id).length ≤ 1048576) (hT : text.length ≤ 1048000) :
    callA Tryz.prog 9 [.ptr x 0 0, .d (.str id), .d (.str text)] σ fun r σ' => r = .tup [] ∧ ∃ S', IxG σ' x t i S' (updA A id (wordsOf text)) (id :: L) ∧ Keeps S σ σ' ∧ ∀ o, S' o → S o ∨ σ.length ≤ o := by
  refine w9.go fun K hK => ?_
  have hwl : (wordsOf text).length ≤ 1048576 := by have := wordsOf_len text; omega
  simp only [e9, c9, p9, Tryz.f9, codeOf, comp, opsOf, stOf, cop, cstp, copAt, planFor, List.find?, List.find?_nil, Option.map_none, Option.getD_none, List.any_cons, List.any_nil, Stp.idx, Bool.or_false, Nat.reduceBEq, ↓RP, RS, Int.reduceBEq, Int.reduceBNe, Int.reduceLT, Int.reduceLE, Int.reduceAdd, Int.reduceSub, ↓reduceIte, Nat.reduceAdd, Nat.reduceMul, Nat.reduceSub, Nat.reduceLT, Nat.reduceLeDiff, Nat.reduceEqDiff, decide_true, decide_false, fieldAddrF, undE, tupE, W9]
  refine CallK_use' (remove17 h id hA) fun v0 s1 ⟨q1, hI, kp1⟩ => ?_
  subst q1
  simp only [↓RP, RS, Int.reduceBEq, Int.reduceBNe, Int.reduceLT, Int.reduceLE, Int.reduceAdd, Int.reduceSub, ↓reduceIte, Nat.reduceAdd, Nat.reduceMul, Nat.reduceSub, Nat.reduceLT, Nat.reduceLeDiff, Nat.reduceEqDiff, decide_true, decide_false, fieldAddrF, undE, tupE, W9]
  refine CallK_use' (words9 text hT s1) fun v0 s2 ⟨q1, q2⟩ => ?_
  subst q1; rw [q2]
  obtain ⟨tes, tc, ies, ic, H⟩ := hI
  have a0 := alive_of H.box (by simp)
  have l0 : loadF Tryz.prog 44 s1 (.ptr x 0 0) = some (.mp t) := load_box H.box rfl (by simp only [W9]) (by simp only [W9])
  have pu := map_put (P := Tryz.prog) (t := 44) (kt := 9) (et := 35) (by simp only [W9]) (by simp only [W9]) H.tget id (.d (wordsD text))
  have H2 := H.setT (A' := updA A id (wordsOf text)) (H.tok.put id (.d (wordsD text))) fun id' => by
    rw [findM_put]
    have := H.txt id'
    unfold updA at this ⊢
    by_cases e : id' = id
    · rw [if_pos e, if_pos e]; rfl
    · rw [if_neg e, if_neg e]; rw [if_neg e] at this; exact this
  have kp2 : Keeps S s1 (s1.set t (.map (strM (putM id (.d (wordsD text)) tc tes)) (if hasM id tes then tc else tc + 1))) := Keeps.set _ _ H.st
  simp only [wordsD] at pu H2 kp2 ⊢
  generalize hws : wordsOf text = ws at *
  have lw : ∀ τ, LstAt τ (.d (.lst 1 (ws.map .str))) ws := fun τ => .val ws
  have lv := fun τ => (lw τ).len
  simp only [↓RP, RS, Int.reduceBEq, Int.reduceBNe, Int.reduceLT, Int.reduceLE, Int.reduceAdd, Int.reduceSub, ↓reduceIte, Nat.reduceAdd, Nat.reduceMul, Nat.reduceSub, Nat.reduceLT, Nat.reduceLeDiff, Nat.reduceEqDiff, decide_true, decide_false, fieldAddrF, undE, tupE, W9, a0, l0, pu, List.length_map]
  generalize s1.set t (.map (strM (putM id (.d (.lst 1 (ws.map .str))) tc tes)) (if hasM id tes then tc else tc + 1)) = s3 at H2 kp2 ⊢
  refine Loop_k [0, 1, 20, 21, 22] (fun y : Nat × List Ob => fr 0 47 [(0, .ptr x 0 0), (1, .d (.str id)), (20, .d (.lst 1 (ws.map .str))), (21, .d (.int .i64 ws.length)), (22, .d (.int .i64 y.1))]) (fun y => y.2)
    (fun y => y.1 ≤ ws.length ∧ ∃ S', IxAt y.2 x t i S' (updA A id ws) (fun w id' => (w ∈ A id' ∧ id' ≠ id) ∨ (w ∈ ws.take y.1 ∧ id' = id)) (id :: L) ∧ Keeps S σ y.2 ∧ ∀ o, S' o → S o ∨ σ.length ≤ o) (fun y => ws.length - y.1) (0, s3) (by kernel_rfl) rfl ⟨by simp, S, ?_, (kp1.trans kp2 fun _ _ h => h), fun o ho => .inl ho⟩ fun ⟨k, sk⟩ ⟨hk, S', hI, hkp, hS'⟩ => ?_
  · refine IxAt.congr (IxAt.lims ⟨_, _, _, _, H2⟩ fun id' h => by simp [h]) fun w id' => ?_
    unfold pA updA
    by_cases e : id' = id
    · subst e; simp
    · simp [e]
  simp only at hk hI hkp hS' ⊢
  obtain ⟨tes, tc, ies, ic, H⟩ := hI
  have a0 := alive_of H.box (by simp)
  by_cases hlt : k < ws.length
  · have e3 : decide ((k : Int) < (ws.length : Int)) = true := decide_eq_true (by omega)
    have w1 : IntKind.i64.wrap ((k : Int) + 1) = ((k + 1 : Nat) : Int) := by rw [IntWalk.i64_in _ (by omega)]; rfl
    obtain ⟨w0, hw0⟩ : ∃ w0, ws[k]? = some w0 := ⟨_, List.getElem?_eq_getElem hlt⟩
    obtain ⟨ad, x1, x2⟩ := (lw sk).get hw0
    have l1 : loadF Tryz.prog 45 sk (.ptr x 0 1) = some (.mp i) := load_box H.box rfl (by simp only [W9]) (by simp only [W9])
    have tk : ∀ w, w ∈ ws.take (k + 1) ↔ w ∈ ws.take k ∨ w = w0 := by
      intro w
      rw [List.take_add_one, hw0]
      simp
    have done : ∀ (σ' : List Ob) (s' : List V) (S'' : Nat → Prop), IxAt σ' x t i S'' (updA A id ws) (fun w id' => ((w ∈ A id' ∧ id' ≠ id) ∨ (w ∈ ws.take k ∧ id' = id)) ∨ (w = w0 ∧ id' = id)) (id :: L) → Keeps S σ σ' → (∀ o, S'' o → S o ∨ σ.length ≤ o) → keepS [0, 1, 20, 21, 22] 0 s' = fr 0 47 [(0, .ptr x 0 0), (1, .d (.str id)), (20, .d (.lst 1 (ws.map .str))), (21, .d (.int .i64 ws.length)), (22, .d (.int .i64 (k + 1 : Nat)))] →
        ∃ y : Nat × List Ob, (y.1 ≤ ws.length ∧ ∃ S', IxAt y.2 x t i S' (updA A id ws) (fun w id' => (w ∈ A id' ∧ id' ≠ id) ∨ (w ∈ ws.take y.1 ∧ id' = id)) (id :: L) ∧ Keeps S σ y.2 ∧ ∀ o, S' o → S o ∨ σ.length ≤ o) ∧ ws.length - y.1 < ws.length - k ∧ keepS [0, 1, 20, 21, 22] 0 s' = fr 0 47 [(0, .ptr x 0 0), (1, .d (.str id)), (20, .d (.lst 1 (ws.map .str))), (21, .d (.int .i64 ws.length)), (22, .d (.int .i64 y.1))] ∧ σ' = y.2 := by
      intro σ' s' S'' h1 h2 h3 h4
      refine ⟨(k + 1, σ'), ⟨hlt, S'', h1.congr fun w id' => ?_, h2, h3⟩, by simp only; omega, h4, rfl⟩
      simp only [tk]
      constructor
      · rintro ((g | g) | g)
        · exact .inl g
        · exact .inr ⟨.inl g.1, g.2⟩
        · exact .inr ⟨.inr g.1, g.2⟩
      · rintro (g | ⟨g | g, g2⟩)
        · exact .inl (.inl g)
        · exact .inl (.inr ⟨g, g2⟩)
        · exact .inr ⟨g, g2⟩
    have kpS : ∀ {σ' : List Ob} {T : Nat → Prop}, Keeps T sk σ' → (∀ o, o < sk.length → T o → S' o) → Keeps S σ σ' := fun {σ' T} g e => by
      refine ⟨Nat.le_trans hkp.1 g.1, fun o ho hn => ?_⟩
      have hol : o < sk.length := Nat.lt_of_lt_of_le ho hkp.1
      rw [g.2 o hol fun ht => ?_, hkp.2 o ho hn]
      rcases hS' o (e o hol ht) with g | g
      · exact hn g
      · omega
    cases hf : findM w0 ies with
    | some u =>
      obtain ⟨o, rfl, so, ox, ot, oi, es, clk, ho, hok, hvs, hp⟩ := H.yes w0 u hf
      have lk1 := map_lookup (P := Tryz.prog) (t := 45) (kt := 9) (et := 73) (by simp only [W9]) (by simp only [W9]) H.iget w0 hf
      have ao := alive_of ho (by simp)
      have bq := bin_mpn Tryz.prog 73 sk o
      have pu1 := map_put (P := Tryz.prog) (t := 73) (kt := 9) (et := 4) (by simp only [W9]) (by simp only [W9]) ho id (.d (.bool true))
      have H1 := H.putId (id := id) hf ho hok hvs hp ox ot oi (by simp)
      simp only [fr, ↓RP, RS, Int.reduceBEq, Int.reduceBNe, Int.reduceLT, Int.reduceLE, Int.reduceAdd, Int.reduceSub, ↓reduceIte, Nat.reduceAdd, Nat.reduceMul, Nat.reduceSub, Nat.reduceLT, Nat.reduceLeDiff, Nat.reduceEqDiff, decide_true, decide_false, fieldAddrF, undE, tupE, W9, e3, x1, x2, a0, l1, lk1, bq, ao, pu1, w1]
      exact seqK_n (done _ _ S' ⟨_, _, _, _, H1⟩ (kpS (Keeps.set (S := fun o' => o' = o) _ _ rfl) fun o' _ e => e ▸ so) hS' (by kernel_rfl))
    | none =>
      have lk1 := map_lookup_no (P := Tryz.prog) (t := 45) (kt := 9) (et := 73) (z := .d .nilm) (by simp only [W9]) (by simp only [W9]) H.iget w0 (by kernel_rfl) hf
      have bq := bin_nmn Tryz.prog 73 sk
      have a1 : alive (sk ++ [Ob.map [] 0]) x = true := alive_app a0 _
      have l2 : loadF Tryz.prog 45 (sk ++ [Ob.map [] 0]) (.ptr x 0 1) = some (.mp i) := load_box (app_get H.box _) rfl (by simp only [W9]) (by simp only [W9])
      have pu1 := map_put (P := Tryz.prog) (t := 45) (kt := 9) (et := 73) (by simp only [W9]) (by simp only [W9]) (app_get H.iget [Ob.map [] 0]) w0 (.mp sk.length)
      have H1 := H.newW hf
      have kp1 : Keeps (fun o => o = i) sk ((sk ++ [Ob.map [] 0]).set i (.map (strM (putM w0 (.mp sk.length) ic ies)) (if hasM w0 ies then ic else ic + 1))) := (Keeps.app _ _ _).trans (Keeps.set (S := fun o => o = i) _ _ rfl) fun _ _ h => h
      have hlen : ((sk ++ [Ob.map [] 0]).set i (.map (strM (putM w0 (.mp sk.length) ic ies)) (if hasM w0 ies then ic else ic + 1)))[sk.length]? = some (.map (strM []) 0) := by
        rw [List.getElem?_set_ne (by have := lt_of_get H.iget; omega)]; simp [strM]
      generalize hσ1 : (sk ++ [Ob.map [] 0]).set i (.map (strM (putM w0 (.mp sk.length) ic ies)) (if hasM w0 ies then ic else ic + 1)) = σ1 at H1 pu1 kp1 hlen
      have a2 := alive_of H1.box (by simp)
      have l3 : loadF Tryz.prog 45 σ1 (.ptr x 0 1) = some (.mp i) := load_box H1.box rfl (by simp only [W9]) (by simp only [W9])
      have hf1 : findM w0 (putM w0 (.mp sk.length) ic ies) = some (.mp sk.length) := by rw [findM_put, if_pos rfl]
      have lk2 := map_lookup (P := Tryz.prog) (t := 45) (kt := 9) (et := 73) (by simp only [W9]) (by simp only [W9]) H1.iget w0 hf1
      obtain ⟨o, ho1, so, ox, ot, oi, es, clk, ho, hok, hvs, hp⟩ := H1.yes w0 _ hf1
      cases ho1
      have pu2 := map_put (P := Tryz.prog) (t := 73) (kt := 9) (et := 4) (by simp only [W9]) (by simp only [W9]) ho id (.d (.bool true))
      have H3 := H1.putId (id := id) hf1 ho hok hvs hp ox ot oi (by simp)
      simp only [fr, ↓RP, RS, Int.reduceBEq, Int.reduceBNe, Int.reduceLT, Int.reduceLE, Int.reduceAdd, Int.reduceSub, ↓reduceIte, Nat.reduceAdd, Nat.reduceMul, Nat.reduceSub, Nat.reduceLT, Nat.reduceLeDiff, Nat.reduceEqDiff, decide_true, decide_false, fieldAddrF, undE, tupE, W9, e3, x1, x2, a0, l1, lk1, bq, a1, l2, pu1, a2, l3, lk2, pu2, w1]
      refine seqK_n (done _ _ _ ⟨_, _, _, _, H3⟩ (kpS (kp1.trans (Keeps.set (S := fun o' => o' = i ∨ o' = sk.length) _ _ (.inr rfl)) fun _ hlo h => ?_) ?_) (fun o ho => ?_) (by kernel_rfl))
      · rcases h with h | h
        · exact h
        · omega
      · intro o _ e
        rw [e]; exact H.si
      · rcases ho with ho | ho
        · exact hS' o ho
        · exact .inr (by rw [ho]; exact hkp.1)
  · have e3 : decide ((k : Int) < (ws.length : Int)) = false := decide_eq_false (by omega)
    simp only [fr, ↓RP, RS, Int.reduceBEq, Int.reduceBNe, Int.reduceLT, Int.reduceLE, Int.reduceAdd, Int.reduceSub, ↓reduceIte, Nat.reduceAdd, Nat.reduceMul, Nat.reduceSub, Nat.reduceLT, Nat.reduceLeDiff, Nat.reduceEqDiff, decide_true, decide_false, fieldAddrF, undE, tupE, W9, e3]
    refine hK.nrm (by rfl) ⟨rfl, S', IxAt.congr ⟨_, _, _, _, H⟩ fun w id' => ?_, hkp, hS'⟩
    rw [List.take_of_length_le (by omega)]
    unfold pA updA
    by_cases e : id' = id
    · subst e; simp
    · simp [e]
end Go.Proofs.YtchgfpehcjomeaaGreatDoor.Am
