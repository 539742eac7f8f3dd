/- The index: walk of Find. -/
import Derived.Test.YtchgfpehcjomeaaGreatDoorIi
set_option linter.unusedSimpArgs false
set_option linter.unusedVariables false
set_option maxRecDepth 10000
set_option maxHeartbeats 2000000
namespace Go.Proofs.YtchgfpehcjomeaaGreatDoor.Am
open Go Go.Proofs

theorem Keeps.setNew {S : Nat → Prop} {σ σ' : List Ob} (h : Keeps S σ σ') {p : Nat} (hp : σ.length ≤ p) (x : Ob) : Keeps S σ (σ'.set p x) :=
  ⟨by simpa using h.1, fun o ho hn => by rw [List.getElem?_set_ne (by omega)]; exact h.2 o ho hn⟩
theorem key_inj : ∀ {es : Es}, (es.map (·.1)).Nodup → ∀ {e e'}, e ∈ es → e' ∈ es → e.1 = e'.1 → e = e'
  | [], _, _, _, h, _, _ => by cases h
  | x :: es, hn, e, e', h, h', hk => by
    rw [List.map_cons, List.nodup_cons] at hn
    rcases List.mem_cons.1 h with rfl | h1
    · rcases List.mem_cons.1 h' with rfl | h2
      · rfl
      · exact (hn.1 (List.mem_map.2 ⟨e', h2, hk.symm⟩)).elim
    · rcases List.mem_cons.1 h' with rfl | h2
      · exact (hn.1 (List.mem_map.2 ⟨e, h1, hk⟩)).elim
      · exact key_inj hn.2 h1 h2 hk
theorem stamp_inj : ∀ {es : Es}, (es.map (·.2.2)).Nodup → ∀ {e e'}, e ∈ es → e' ∈ es → e.2.2 = e'.2.2 → e = e'
  | [], _, _, _, h, _, _ => by cases h
  | x :: es, hn, e, e', h, h', hk => by
    rw [List.map_cons, List.nodup_cons] at hn
    rcases List.mem_cons.1 h with rfl | h1
    · rcases List.mem_cons.1 h' with rfl | h2
      · rfl
      · exact (hn.1 (List.mem_map.2 ⟨e', h2, hk.symm⟩)).elim
    · rcases List.mem_cons.1 h' with rfl | h2
      · exact (hn.1 (List.mem_map.2 ⟨e, h1, hk⟩)).elim
      · exact stamp_inj hn.2 h1 h2 hk
theorem find_stamp : ∀ {es : Es}, (es.map (·.2.2)).Nodup → ∀ {e}, e ∈ es → (strM es).find? (fun x => x.2.2 == e.2.2) = some (.str e.1, e.2.1, e.2.2)
  | [], _, _, h => by cases h
  | x :: es, hn, e, h => by
    rw [List.map_cons, List.nodup_cons] at hn
    simp only [strM, List.map_cons, List.find?_cons]
    rcases List.mem_cons.1 h with rfl | h
    · simp
    · have : (x.2.2 == e.2.2) = false := by
        have : x.2.2 ≠ e.2.2 := fun g => hn.1 (List.mem_map.2 ⟨e, h, g.symm⟩)
        simpa using this
      rw [this]
      exact find_stamp hn.2 h

/-- What the entries that were seen give. -/
def goodF (A : W → List W) (ws : List W) (id : W) : Bool := ws.all fun w => decide (w ∈ A id)
def fsOf (A : W → List W) (ws : List W) (vs : Es) : List W := (vs.map (·.1)).filter (goodF A ws)

theorem find19 {σ : List Ob} {x t i : Nat} {S : Nat → Prop} {A : W → List W} {L : List W} (h : IxG σ x t i S A L) (hL : L.length ≤ 1048000) (ws : List W) {v : V} (hv : LstAt σ v ws) (hw : ws.length ≤ 1048576) :
    callA Tryz.prog 10 [.ptr x 0 0, v] σ fun r σ' => ∃ l, LstAt σ' r l ∧ FoundOk A ws l ∧ Keeps (fun _ => False) σ σ' ∧ (∀ q o n, r = .sl q o n → σ.length ≤ q) := by
  refine w10.go fun K hK => ?_
  have lv := hv.len
  have hIx := h
  obtain ⟨tes, tc, ies, ic, H⟩ := h
  have a0 := alive_of H.box (by simp)
  have l1 : loadF Tryz.prog 45 σ (.ptr x 0 1) = some (.mp i) := load_box H.box rfl (by simp only [W10]) (by simp only [W10])
  cases ws with
  | nil =>
    have e0 : ((([] : List W).length : Int) == 0) = true := rfl
    rw [List.length_nil] at lv e0
    simp only [e10, c10, p10, Tryz.f10, codeOf, comp, opsOf, stOf, cop, cstp, copAt, planFor, List.find?, List.find?_nil, Option.map_none, Option.getD_none, List.any_cons, List.any_nil, Stp.idx, Bool.or_false, Nat.reduceBEq, ↓RP, RS, Int.reduceBEq, Int.reduceBNe, Int.reduceLT, Int.reduceLE, Int.reduceAdd, Int.reduceSub, ↓reduceIte, Nat.reduceAdd, Nat.reduceMul, Nat.reduceSub, Nat.reduceLT, Nat.reduceLeDiff, Nat.reduceEqDiff, decide_true, decide_false, fieldAddrF, undE, tupE, W10, lv, e0]
    exact hK.ret (by rfl) ⟨[], .nil, ⟨.nil, by simp⟩, Keeps.refl _ _, by simp⟩
  | cons w0 ws' =>
    have e0 : (((w0 :: ws').length : Int) == 0) = false := by simp; omega
    obtain ⟨ad0, x1', x2⟩ := hv.get (k := 0) (s := w0) rfl
    have x1 : indexAddrF Tryz.prog 35 σ v (.d (.int .i64 0)) = some ad0 := x1'
    rw [List.length_cons] at lv e0 hw
    cases hf : findM w0 ies with
    | none =>
      have lk := map_lookup_no (P := Tryz.prog) (t := 45) (kt := 9) (et := 73) (z := .d .nilm) (by simp only [W10]) (by simp only [W10]) H.iget w0 (by kernel_rfl) hf
      have rg : rangeF Tryz.prog 73 σ (.d .nilm) = some (.ptr σ.length 0 0, σ ++ [.mit (.d .nilm) 0 [] 0]) := by simp only [rangeF, W10, if_true]
      have gi : (σ ++ [Ob.mit (.d .nilm) 0 [] 0])[σ.length]? = some (.mit (.d .nilm) 0 [] 0) := by simp
      have kp : Keeps (fun _ => False) σ (σ ++ [Ob.mit (.d .nilm) 0 [] 0]) := Keeps.app _ _ _
      simp only [e10, c10, p10, Tryz.f10, codeOf, comp, opsOf, stOf, cop, cstp, copAt, planFor, List.find?, List.find?_nil, Option.map_none, Option.getD_none, List.any_cons, List.any_nil, Stp.idx, Bool.or_false, Nat.reduceBEq, ↓RP, RS, Int.reduceBEq, Int.reduceBNe, Int.reduceLT, Int.reduceLE, Int.reduceAdd, Int.reduceSub, ↓reduceIte, Nat.reduceAdd, Nat.reduceMul, Nat.reduceSub, Nat.reduceLT, Nat.reduceLeDiff, Nat.reduceEqDiff, decide_true, decide_false, fieldAddrF, undE, tupE, W10, lv, e0, a0, l1, x1, x2, lk, F_range, rg]
      refine Loop_k [5, 21] (fun _ : Unit => fr 0 53 [(5, .d .nils), (21, .ptr σ.length 0 0)]) (fun _ => σ ++ [.mit (.d .nilm) 0 [] 0]) (fun _ => True) (fun _ => 0) () (by kernel_rfl) rfl trivial fun _ _ => ?_
      simp only [fr, ↓RP, RS, Int.reduceBEq, Int.reduceBNe, Int.reduceLT, Int.reduceLE, Int.reduceAdd, Int.reduceSub, ↓reduceIte, Nat.reduceAdd, Nat.reduceMul, Nat.reduceSub, Nat.reduceLT, Nat.reduceLeDiff, Nat.reduceEqDiff, decide_true, decide_false, fieldAddrF, undE, tupE, W10]
      refine NextK_nil (by rfl) gi ?_
      simp only [↓RP, RS, Int.reduceBEq, Int.reduceBNe, Int.reduceLT, Int.reduceLE, Int.reduceAdd, Int.reduceSub, ↓reduceIte, Nat.reduceAdd, Nat.reduceMul, Nat.reduceSub, Nat.reduceLT, Nat.reduceLeDiff, Nat.reduceEqDiff, decide_true, decide_false, fieldAddrF, undE, tupE, W10]
      refine CallK_use' (sort28n _) fun v0 s1 ⟨q1, q2⟩ => ?_
      subst q1; rw [q2]
      simp only [↓RP, RS, Int.reduceBEq, Int.reduceBNe, Int.reduceLT, Int.reduceLE, Int.reduceAdd, Int.reduceSub, ↓reduceIte, Nat.reduceAdd, Nat.reduceMul, Nat.reduceSub, Nat.reduceLT, Nat.reduceLeDiff, Nat.reduceEqDiff, decide_true, decide_false, fieldAddrF, undE, tupE, W10]
      refine hK.ret (by rfl) ⟨[], .nil, ⟨.nil, fun id => ?_⟩, kp, by simp⟩
      have := H.no w0 hf id
      simp only [pA] at this
      simp [this]
    | some u =>
      obtain ⟨o, rfl, so, ox, ot, oi, es, clk, ho, hok, hvs, hp⟩ := H.yes w0 u hf
      have lk := map_lookup (P := Tryz.prog) (t := 45) (kt := 9) (et := 73) (by simp only [W10]) (by simp only [W10]) H.iget w0 hf
      have rg : rangeF Tryz.prog 73 σ (.mp o) = some (.ptr σ.length 0 0, σ ++ [.mit (.mp o) clk [] clk]) := by simp only [rangeF, W10, if_true, ho]
      have gi : (σ ++ [Ob.mit (.mp o) clk [] clk])[σ.length]? = some (.mit (.mp o) clk [] clk) := by simp
      have kp : Keeps (fun _ => False) σ (σ ++ [Ob.mit (.mp o) clk [] clk]) := Keeps.app _ _ _
      have hel : es.length ≤ L.length := by
        have := nodup_le hok.keys (m := L) fun id hid => H.lim w0 id ((hp id).1 ((hasM_mem _ _).2 hid))
        simpa using this
      simp only [e10, c10, p10, Tryz.f10, codeOf, comp, opsOf, stOf, cop, cstp, copAt, planFor, List.find?, List.find?_nil, Option.map_none, Option.getD_none, List.any_cons, List.any_nil, Stp.idx, Bool.or_false, Nat.reduceBEq, ↓RP, RS, Int.reduceBEq, Int.reduceBNe, Int.reduceLT, Int.reduceLE, Int.reduceAdd, Int.reduceSub, ↓reduceIte, Nat.reduceAdd, Nat.reduceMul, Nat.reduceSub, Nat.reduceLT, Nat.reduceLeDiff, Nat.reduceEqDiff, decide_true, decide_false, fieldAddrF, undE, tupE, W10, lv, e0, a0, l1, x1, x2, lk, F_range, rg]
      refine Loop_k [0, 1, 5, 21] (fun y : Es × List Ob × Option Nat => fr 0 53 [(0, .ptr x 0 0), (1, v), (5, cellQ y.2.2 (fsOf A ws' y.1).length), (21, .ptr σ.length 0 0)]) (fun y => y.2.1)
        (fun y => (y.1.map (·.2.2)).Nodup ∧ (∀ e ∈ y.1, e ∈ es) ∧ Keeps (fun _ => False) σ y.2.1 ∧ y.2.1[σ.length]? = some (.mit (.mp o) clk (y.1.map (·.2.2)) clk) ∧ ArrK y.2.1 y.2.2 ((fsOf A ws' y.1).map .str) ∧ (∀ p, y.2.2 = some p → σ.length < p)) (fun y => es.length - y.1.length) ([], σ ++ [.mit (.mp o) clk [] clk], none) (by kernel_rfl) rfl ⟨by simp, by simp, kp, gi, rfl, by simp⟩ fun ⟨vs, sk, q⟩ ⟨hnd, hsub, hkp, hit, hA, hq⟩ => ?_
      simp only at hnd hsub hkp hit hA hq ⊢
      have ho' := hkp.get ho (fun h => h)
      have hvl : vs.length ≤ es.length := by
        have := nodup_le hnd (m := es.map (·.2.2)) fun st hst => by
          obtain ⟨e, he, rfl⟩ := List.mem_map.1 hst
          exact List.mem_map.2 ⟨e, hsub e he, rfl⟩
        simpa using this
      have hfl : (fsOf A ws' vs).length ≤ vs.length := by
        have := List.length_filter_le (goodF A ws') (vs.map (·.1))
        simpa [fsOf] using this
      simp only [fr, ↓RP, RS, Int.reduceBEq, Int.reduceBNe, Int.reduceLT, Int.reduceLE, Int.reduceAdd, Int.reduceSub, ↓reduceIte, Nat.reduceAdd, Nat.reduceMul, Nat.reduceSub, Nat.reduceLT, Nat.reduceLeDiff, Nat.reduceEqDiff, decide_true, decide_false, fieldAddrF, undE, tupE, W10]
      refine NextK_map (es := strM es) (by rfl) hit ho' (fun e he => ?_) (Nat.le_refl _) (fun hall => ?_) (fun e he hns => ?_)
      · obtain ⟨e0, he0, rfl⟩ := List.mem_map.1 he
        exact hok.lt e0 he0
      · -- all are seen
        simp only [↓RP, RS, Int.reduceBEq, Int.reduceBNe, Int.reduceLT, Int.reduceLE, Int.reduceAdd, Int.reduceSub, ↓reduceIte, Nat.reduceAdd, Nat.reduceMul, Nat.reduceSub, Nat.reduceLT, Nat.reduceLeDiff, Nat.reduceEqDiff, decide_true, decide_false, fieldAddrF, undE, tupE, W10]
        have hall' : ∀ e ∈ es, e ∈ vs := fun e he => by
          have := hall _ (List.mem_map.2 ⟨e, he, rfl⟩)
          obtain ⟨e', he', hs⟩ := List.mem_map.1 this
          have := stamp_inj hok.stamps he (hsub e' he') hs.symm
          rw [this]; exact he'
        have hkn : (fsOf A ws' vs).Nodup := by
          have h1 : (vs.map (·.1)).Nodup := List.pairwise_map.2 ((List.pairwise_map.1 hnd).imp_of_mem fun {a b} ha hb hne hk => hne (by rw [key_inj hok.keys (hsub a ha) (hsub b hb) hk]))
          exact h1.sublist List.filter_sublist
        have hfound : FoundOk A (w0 :: ws') ((fsOf A ws' vs).mergeSort leB) := by
          refine ⟨sorted_lt hkn, fun id => ?_⟩
          rw [(List.mergeSort_perm _ _).mem_iff]
          have hpi := hp id
          simp only [pA] at hpi
          unfold fsOf
          rw [List.mem_filter]
          constructor
          · rintro ⟨h1, h2⟩
            refine ⟨by simp, fun w hw => ?_⟩
            rcases List.mem_cons.1 hw with rfl | hw
            · obtain ⟨e, he, rfl⟩ := List.mem_map.1 h1
              exact hpi.1 ((hasM_mem _ _).2 (List.mem_map.2 ⟨e, hsub e he, rfl⟩))
            · simp only [goodF, List.all_eq_true, decide_eq_true_eq] at h2
              exact h2 w hw
          · rintro ⟨_, h2⟩
            constructor
            · obtain ⟨e, he, rfl⟩ := List.mem_map.1 ((hasM_mem _ _).1 (hpi.2 (h2 w0 (by simp))))
              exact List.mem_map.2 ⟨e, hall' e he, rfl⟩
            · simp only [goodF, List.all_eq_true, decide_eq_true_eq]
              exact fun w hw => h2 w (by simp [hw])
        cases q with
        | none =>
          simp only [ArrK, List.map_eq_nil_iff] at hA
          simp only [cellQ]
          refine CallK_use' (sort28n _) fun v0 s1 ⟨q1, q2⟩ => ?_
          subst q1; rw [q2]
          simp only [↓RP, RS, Int.reduceBEq, Int.reduceBNe, Int.reduceLT, Int.reduceLE, Int.reduceAdd, Int.reduceSub, ↓reduceIte, Nat.reduceAdd, Nat.reduceMul, Nat.reduceSub, Nat.reduceLT, Nat.reduceLeDiff, Nat.reduceEqDiff, decide_true, decide_false, fieldAddrF, undE, tupE, W10]
          rw [hA, List.mergeSort_nil] at hfound
          exact hK.ret (by rfl) ⟨[], .nil, hfound, hkp, by simp⟩
        | some p =>
          obtain ⟨mk, hA⟩ := hA
          simp only [cellQ]
          refine CallK_use' (sort28 hA (by omega)) fun v0 s1 ⟨q1, q2⟩ => ?_
          subst q1; rw [q2]
          simp only [↓RP, RS, Int.reduceBEq, Int.reduceBNe, Int.reduceLT, Int.reduceLE, Int.reduceAdd, Int.reduceSub, ↓reduceIte, Nat.reduceAdd, Nat.reduceMul, Nat.reduceSub, Nat.reduceLT, Nat.reduceLeDiff, Nat.reduceEqDiff, decide_true, decide_false, fieldAddrF, undE, tupE, W10]
          have hpl := hq p rfl
          refine hK.ret (by rfl) ⟨_, ?_, hfound, hkp.setNew (by omega) _, fun q o n e => by cases e; omega⟩
          rw [← List.length_mergeSort (le := leB) (fsOf A ws' vs)]
          exact .own0 (by rw [List.getElem?_set_self (lt_of_get hA)])
      · -- one more
        obtain ⟨e0, he0, rfl⟩ := List.mem_map.1 he
        simp only at hns ⊢
        have hnd' : ((vs ++ [e0]).map (·.2.2)).Nodup := by
          rw [List.map_append]
          refine List.nodup_append.2 ⟨hnd, by simp, fun a ha b hb => ?_⟩
          simp at hb; subst hb
          rintro rfl; exact hns ha
        have hsub' : ∀ e ∈ vs ++ [e0], e ∈ es := fun e he => by
          rcases List.mem_append.1 he with he | he
          · exact hsub e he
          · simp at he; rw [he]; exact he0
        have hvl' : vs.length + 1 ≤ es.length := by
          have := nodup_le hnd' (m := es.map (·.2.2)) fun st hst => by
            obtain ⟨e, he, rfl⟩ := List.mem_map.1 hst
            exact List.mem_map.2 ⟨e, hsub' e he, rfl⟩
          simpa using this
        have hfs : fsOf A ws' (vs ++ [e0]) = fsOf A ws' vs ++ (if goodF A ws' e0.1 then [e0.1] else []) := by
          unfold fsOf
          rw [List.map_append, List.filter_append]
          congr 1
          cases hg : goodF A ws' e0.1 <;> simp [hg]
        have hol := lt_of_get ho
        have hil := lt_of_get hit
        have hit1 : (sk.set σ.length (.mit (.mp o) clk (vs.map (·.2.2) ++ [e0.2.2]) clk))[σ.length]? = some (.mit (.mp o) clk ((vs ++ [e0]).map (·.2.2)) clk) := by rw [List.getElem?_set_self hil, List.map_append]; rfl
        have en : entryF (sk.set σ.length (.mit (.mp o) clk (vs.map (·.2.2) ++ [e0.2.2]) clk)) (.ptr σ.length 0 0) = some (.tup [.d (.str e0.1), e0.2.1]) := by
          have h1 : (sk.set σ.length (.mit (.mp o) clk (vs.map (·.2.2) ++ [e0.2.2]) clk))[o]? = some (.map (strM es) clk) := by rw [List.getElem?_set_ne (by omega)]; exact ho'
          simp only [entryF, hit1, h1, List.map_append, List.map_cons, List.map_nil, List.getLast?_concat, if_true, find_stamp hok.stamps he0, Option.map_some]
        have hkp1 := hkp.setNew (Nat.le_refl _) (.mit (.mp o) clk (vs.map (·.2.2) ++ [e0.2.2]) clk)
        have hA1 : ArrK (sk.set σ.length (.mit (.mp o) clk (vs.map (·.2.2) ++ [e0.2.2]) clk)) q ((fsOf A ws' vs).map .str) := hA.keep (Keeps.set (S := fun o => o = σ.length) _ _ rfl) fun p e g => by have := hq p e; omega
        generalize sk.set σ.length (.mit (.mp o) clk (vs.map (·.2.2) ++ [e0.2.2]) clk) = σ1 at hit1 en hkp1 hA1 ⊢
        have hv1 := hv.keep hkp1 (fun _ _ _ _ h => h)
        obtain ⟨v', sl1, hv'⟩ := hv1.tail (by simp)
        rw [List.drop_one, List.tail_cons] at hv'
        have lv' := hv'.len
        have hI1 := hIx.keep hkp1 (fun _ _ h => h)
        obtain ⟨tes1, tc1, ies1, ic1, H1⟩ := hI1
        have a1 := alive_of H1.box (by simp)
        have l2 : loadF Tryz.prog 45 σ1 (.ptr x 0 1) = some (.mp i) := load_box H1.box rfl (by simp only [W10]) (by simp only [W10])
        simp only [↓RP, RS, Int.reduceBEq, Int.reduceBNe, Int.reduceLT, Int.reduceLE, Int.reduceAdd, Int.reduceSub, ↓reduceIte, Nat.reduceAdd, Nat.reduceMul, Nat.reduceSub, Nat.reduceLT, Nat.reduceLeDiff, Nat.reduceEqDiff, decide_true, decide_false, fieldAddrF, undE, tupE, W10, en, sl1, lv']
        refine Loop_k [0, 1, 5, 6, 7, 21, 27, 28, 29] (fun y : Nat => fr 0 53 [(0, .ptr x 0 0), (1, v), (5, cellQ q (fsOf A ws' vs).length), (6, .d (.str e0.1)), (7, .d (.bool (goodF A (ws'.take y) e0.1))), (21, .ptr σ.length 0 0), (27, v'), (28, .d (.int .i64 ws'.length)), (29, .d (.int .i64 y))]) (fun _ => σ1) (fun y => y ≤ ws'.length) (fun y => ws'.length - y) 0 (by kernel_rfl) rfl (Nat.zero_le _) fun k hk => ?_
        by_cases hlt : k < ws'.length
        · have e3 : decide ((k : Int) < (ws'.length : Int)) = true := decide_eq_true (by omega)
          have w1 : IntKind.i64.wrap ((k : Int) + 1) = ((k + 1 : Nat) : Int) := by rw [IntWalk.i64_in _ (by omega)]; rfl
          obtain ⟨w, hwk⟩ : ∃ w, ws'[k]? = some w := ⟨_, List.getElem?_eq_getElem hlt⟩
          obtain ⟨ad, y1, y2⟩ := hv'.get hwk
          have hgs : goodF A (ws'.take (k + 1)) e0.1 = (goodF A (ws'.take k) e0.1 && decide (w ∈ A e0.1)) := by
            unfold goodF
            rw [List.take_add_one, hwk, List.all_append]; simp
          obtain ⟨u, z1, z2⟩ := H1.look w e0.1
          cases hb : goodF A (ws'.take k) e0.1 with
          | true =>
            rw [hb, Bool.true_and] at hgs
            simp only [fr, ↓RP, RS, Int.reduceBEq, Int.reduceBNe, Int.reduceLT, Int.reduceLE, Int.reduceAdd, Int.reduceSub, ↓reduceIte, Nat.reduceAdd, Nat.reduceMul, Nat.reduceSub, Nat.reduceLT, Nat.reduceLeDiff, Nat.reduceEqDiff, decide_true, decide_false, fieldAddrF, undE, tupE, W10, e3, y1, y2, hb, a1, l2, z1, z2, w1]
            exact seqK_n ⟨k + 1, hlt, by omega, by rw [hgs]; kernel_rfl, rfl⟩
          | false =>
            rw [hb, Bool.false_and] at hgs
            simp only [fr, ↓RP, RS, Int.reduceBEq, Int.reduceBNe, Int.reduceLT, Int.reduceLE, Int.reduceAdd, Int.reduceSub, ↓reduceIte, Nat.reduceAdd, Nat.reduceMul, Nat.reduceSub, Nat.reduceLT, Nat.reduceLeDiff, Nat.reduceEqDiff, decide_true, decide_false, fieldAddrF, undE, tupE, W10, e3, y1, y2, hb, w1]
            exact seqK_n ⟨k + 1, hlt, by omega, by rw [hgs]; kernel_rfl, rfl⟩
        · have e3 : decide ((k : Int) < (ws'.length : Int)) = false := decide_eq_false (by omega)
          have htk : ws'.take k = ws' := List.take_of_length_le (by omega)
          cases hb : goodF A ws' e0.1 with
          | true =>
            rw [hb, if_pos rfl] at hfs
            have bs := fun (s : List V) (hg : get s (.tmp 47) = .d (.str e0.1)) => build23 (σ := σ1) hg
            obtain ⟨q', σ2, p1, p2, p3, p4⟩ := app_one (d := .str e0.1) hA1 (by simp; omega) (t := 35) (e := 9) (b := 16) (by simp only [W10]) (by simp only [W10]) (by simp only [W10]) (by simp only [W10]) (by simp only [W10]) (by decide)
            rw [List.length_map] at p1
            simp only [fr, ↓RP, RS, Int.reduceBEq, Int.reduceBNe, Int.reduceLT, Int.reduceLE, Int.reduceAdd, Int.reduceSub, ↓reduceIte, Nat.reduceAdd, Nat.reduceMul, Nat.reduceSub, Nat.reduceLT, Nat.reduceLeDiff, Nat.reduceEqDiff, decide_true, decide_false, fieldAddrF, undE, tupE, W10, e3, htk, hb, bs, List.toList_toArray, p1]
            have hl1 : σ.length < σ1.length := lt_of_get hit1
            refine seqK_n ⟨(vs ++ [e0], σ2, some q'), ⟨hnd', hsub', ?_, p4.get hit1 (fun e => by have := hq _ e; omega), by simp only [hfs, List.map_append]; exact p2, fun p e => by cases e; omega⟩, by simp only [List.length_append, List.length_cons, List.length_nil]; omega, by simp only [hfs, List.length_append, List.length_cons, List.length_nil]; kernel_rfl, rfl⟩
            refine ⟨Nat.le_trans hkp1.1 p4.1, fun o' ho' hn => ?_⟩
            rw [p4.2 o' (by omega) (fun e => by have := hq _ e; omega), hkp1.2 o' ho' hn]
          | false =>
            rw [hb] at hfs
            simp only [Bool.false_eq_true, if_false, List.append_nil] at hfs
            simp only [fr, ↓RP, RS, Int.reduceBEq, Int.reduceBNe, Int.reduceLT, Int.reduceLE, Int.reduceAdd, Int.reduceSub, ↓reduceIte, Nat.reduceAdd, Nat.reduceMul, Nat.reduceSub, Nat.reduceLT, Nat.reduceLeDiff, Nat.reduceEqDiff, decide_true, decide_false, fieldAddrF, undE, tupE, W10, e3, htk, hb]
            exact seqK_n ⟨(vs ++ [e0], σ1, q), ⟨hnd', hsub', hkp1, hit1, by simp only [hfs]; exact hA1, hq⟩, by simp only [List.length_append, List.length_cons, List.length_nil]; omega, by simp only [hfs]; kernel_rfl, rfl⟩
end Go.Proofs.YtchgfpehcjomeaaGreatDoor.Am
