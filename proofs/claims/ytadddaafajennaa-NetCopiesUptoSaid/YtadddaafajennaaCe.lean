/- Walks: a link; messages with memory of their own that are added to it, sent, doubled. -/
import Derived.Test.YtadddaafajennaaCd
set_option linter.unusedSimpArgs false
set_option linter.unusedVariables false
set_option maxRecDepth 10000
namespace Go.Proofs.Ytadddaafajennaa.Am
open Go Go.Proofs

def p37v : List (Nat × List Stp) := [(1, [.q false 0, .q false 1, .q false 2, .q false 3, .q false 4, .q false 5, .ef 6 [(0, false), (1, false), (2, false), (3, false), (4, false)], .ef 7 [(0, false), (1, false), (2, false), (3, false), (4, false)], .ef 8 [(0, false)], .q false 9, .q false 10, .ef 11 []])]
noncomputable def c37v : CCode := codeOf p37v Try.f37
noncomputable def e37v : FnE := ⟨c37v, 15, [], false⟩
theorem w37v : Opened Try.prog 37 e37v := openedOf p37v 15 [] false Try.func37 rfl rfl (by kernel_rfl) hmix rfl rfl

/-- The way from server 3 to server 2 in a network of 20, and what its queue is. -/
structure LkAt (σ : List Ob) (x L R : Nat) (q : V) : Prop where
  hx : σ[x]? = some (.box [.sl L 0 20])
  hL : ∃ cL, σ[L]? = some (.box cL) ∧ cL[3]? = some (.sl R 0 20)
  hR : ∃ cR, σ[R]? = some (.box cR) ∧ cR[4]? = some q ∧ cR[5]? = some (.d (.bool false))

/-- A queue of n messages. -/
def QuAt (σ : List Ob) (q : V) (n : Nat) : Prop := (q = .d .nils ∧ n = 0) ∨ ∃ p, q = .sl p 0 n ∧ alive σ p = true

section
variable {σ : List Ob} {x L R : Nat} {q : V} {n : Nat}

theorem LkAt.keep (h : LkAt σ x L R q) {σ' : List Ob} {S : Nat → Prop} (hk : Keeps S σ σ') (h1 : ¬ S x) (h2 : ¬ S L) (h3 : ¬ S R) : LkAt σ' x L R q := by
  obtain ⟨g1, ⟨cL, g2, g3⟩, ⟨cR, g4, g5⟩⟩ := h
  exact ⟨hk.get g1 h1, ⟨cL, hk.get g2 h2, g3⟩, ⟨cR, hk.get g4 h3, g5⟩⟩

theorem LkAt.set (h : LkAt σ x L R q) (hx : x ≠ R) (hL : L ≠ R) {σ' : List Ob} {q' : V} {cR : List V} (h1 : σ[R]? = some (.box cR)) (hx' : σ'[x]? = σ[x]?) (hL' : σ'[L]? = σ[L]?) (hR' : σ'[R]? = some (.box (cR.set 4 q'))) : LkAt σ' x L R q' := by
  obtain ⟨g1, ⟨cL, g2, g3⟩, ⟨cR', g4, g5, g6⟩⟩ := h
  rw [h1] at g4; cases g4
  have hl := (List.getElem?_eq_some_iff.1 g5).1
  exact ⟨by rw [hx']; exact g1, ⟨cL, by rw [hL']; exact g2, g3⟩, ⟨_, hR', by rw [List.getElem?_set_self hl], by rw [List.getElem?_set_ne (by decide)]; exact g6⟩⟩

theorem link35v (h : LkAt σ x L R q) : callA Try.prog 35 [.ptr x 0 0, .d (.int .i64 3), .d (.int .i64 2)] σ (fun r σ' => r = .ptr R 0 4 ∧ σ' = σ) := by
  refine w35.go fun K hK => ?_
  obtain ⟨hx, ⟨cL, hL, hcL⟩, ⟨cR, hR, _⟩⟩ := h
  have a1 := alive_of hx (by simp)
  have a2 := alive_of hL (by simp)
  have l1 := load_box (P := Try.prog) (t := 64) (k := 0) hx rfl (by simp only [W35]) (by simp only [W35])
  have x1 := index_box (P := Try.prog) (t := 64) (e := 67) (kd := .i64) (len := 20) (j := 3) hL (by simp only [W35]) (by simp [W35]) (by decide)
  have l2 := load_box (P := Try.prog) (t := 67) hL hcL (by simp only [W35]) (by simp only [W35])
  have x2 := index_box (P := Try.prog) (t := 67) (e := 77) (kd := .i64) (len := 20) (j := 2) hR (by simp only [W35]) (by simp [W35]) (by decide)
  have z1 : szOf Try.prog 67 = 1 := by simp only [W35]
  have z2 : szOf Try.prog 77 = 2 := by simp only [W35]
  rw [z1, Nat.mul_one] at x1
  rw [z2] at x2
  have x1 : indexAddrF Try.prog 64 σ (.sl L 0 20) (.d (.int .i64 3)) = some (.ptr L 0 3) := x1
  have x2 : indexAddrF Try.prog 67 σ (.sl R 0 20) (.d (.int .i64 2)) = some (.ptr R 0 4) := x2
  have d1 : decide ((3 : Int) < 0) = false := rfl
  have d2 : decide (((20 : Nat) : Int) ≤ 3) = false := rfl
  have d3 : decide ((2 : Int) < 0) = false := rfl
  have d4 : decide (((20 : Nat) : Int) ≤ 2) = false := rfl
  have d5 : ((3 : Int) == 2) = false := rfl
  simp only [e35, c35, p35, Try.f35, codeOf, comp, opsOf, stOf, cop, cstp, copAt, planFor, List.find?, List.find?_nil, Option.map_none, Option.getD_none, List.any_cons, List.any_nil, Stp.idx, Bool.or_false, Nat.reduceBEq, ↓RP, RS, Int.reduceBEq, Int.reduceBNe, Int.reduceLT, Int.reduceLE, Int.reduceAdd, Int.reduceSub, ↓reduceIte, Nat.reduceAdd, Nat.reduceMul, Nat.reduceSub, Nat.reduceLT, Nat.reduceLeDiff, Nat.reduceEqDiff, decide_true, decide_false, fieldAddrF, undE, tupE, W35, a1, a2, fieldAddrF, l1, x1, l2, x2, d1, d2, d3, d4, d5]
  exact hK.ret (by rfl) ⟨by rfl, by rfl⟩

theorem full36v {o k : Nat} {cs : List V} (h1 : σ[o]? = some (.box cs)) (h2 : cs[k]? = some q) (h3 : QuAt σ q n) : callA Try.prog 36 [.ptr o 0 k] σ (fun r σ' => r = .d (.bool (decide (1024 ≤ n))) ∧ σ' = σ) := by
  refine w36.go fun K hK => ?_
  have a1 := alive_of h1 (by simp)
  have l1 := load_box (P := Try.prog) (t := 68) h1 h2 (by simp only [W36]) (by simp only [W36])
  have e : decide ((1024 : Int) ≤ (n : Int)) = decide (1024 ≤ n) := by simp; omega
  rcases h3 with ⟨rfl, rfl⟩ | ⟨p, rfl, a2⟩
  · simp only [e36, c36, p36, Try.f36, codeOf, comp, opsOf, stOf, cop, cstp, copAt, planFor, List.find?, List.find?_nil, Option.map_none, Option.getD_none, List.any_cons, List.any_nil, Stp.idx, Bool.or_false, Nat.reduceBEq, ↓RP, RS, Int.reduceBEq, Int.reduceBNe, Int.reduceLT, Int.reduceLE, Int.reduceAdd, Int.reduceSub, ↓reduceIte, Nat.reduceAdd, Nat.reduceMul, Nat.reduceSub, Nat.reduceLT, Nat.reduceLeDiff, Nat.reduceEqDiff, decide_true, decide_false, fieldAddrF, undE, tupE, W36, a1, fieldAddrF, l1]
    exact hK.ret (by rfl) ⟨by rfl, by rfl⟩
  · simp only [e36, c36, p36, Try.f36, codeOf, comp, opsOf, stOf, cop, cstp, copAt, planFor, List.find?, List.find?_nil, Option.map_none, Option.getD_none, List.any_cons, List.any_nil, Stp.idx, Bool.or_false, Nat.reduceBEq, ↓RP, RS, Int.reduceBEq, Int.reduceBNe, Int.reduceLT, Int.reduceLE, Int.reduceAdd, Int.reduceSub, ↓reduceIte, Nat.reduceAdd, Nat.reduceMul, Nat.reduceSub, Nat.reduceLT, Nat.reduceLeDiff, Nat.reduceEqDiff, decide_true, decide_false, fieldAddrF, undE, tupE, W36, a1, a2, fieldAddrF, l1, e]
    exact hK.ret (by rfl) ⟨by rfl, by rfl⟩

theorem has40v {o k : Nat} {cs : List V} (h1 : σ[o]? = some (.box cs)) (h2 : cs[k]? = some q) (h3 : QuAt σ q n) : callA Try.prog 40 [.ptr o 0 k, .d (.int .i64 0)] σ (fun r σ' => r = .d (.bool (decide (0 < n))) ∧ σ' = σ) := by
  refine w40.go fun K hK => ?_
  have a1 := alive_of h1 (by simp)
  have l1 := load_box (P := Try.prog) (t := 68) h1 h2 (by simp only [W40]) (by simp only [W40])
  have d1 : decide ((0 : Int) ≤ 0) = true := rfl
  have e : decide ((0 : Int) < (n : Int)) = decide (0 < n) := by simp
  rcases h3 with ⟨rfl, rfl⟩ | ⟨p, rfl, a2⟩
  · simp only [e40, c40, p40, Try.f40, codeOf, comp, opsOf, stOf, cop, cstp, copAt, planFor, List.find?, List.find?_nil, Option.map_none, Option.getD_none, List.any_cons, List.any_nil, Stp.idx, Bool.or_false, Nat.reduceBEq, ↓RP, RS, Int.reduceBEq, Int.reduceBNe, Int.reduceLT, Int.reduceLE, Int.reduceAdd, Int.reduceSub, ↓reduceIte, Nat.reduceAdd, Nat.reduceMul, Nat.reduceSub, Nat.reduceLT, Nat.reduceLeDiff, Nat.reduceEqDiff, decide_true, decide_false, fieldAddrF, undE, tupE, W40, a1, fieldAddrF, l1, d1]
    exact hK.ret (by rfl) ⟨by rfl, by rfl⟩
  · simp only [e40, c40, p40, Try.f40, codeOf, comp, opsOf, stOf, cop, cstp, copAt, planFor, List.find?, List.find?_nil, Option.map_none, Option.getD_none, List.any_cons, List.any_nil, Stp.idx, Bool.or_false, Nat.reduceBEq, ↓RP, RS, Int.reduceBEq, Int.reduceBNe, Int.reduceLT, Int.reduceLE, Int.reduceAdd, Int.reduceSub, ↓reduceIte, Nat.reduceAdd, Nat.reduceMul, Nat.reduceSub, Nat.reduceLT, Nat.reduceLeDiff, Nat.reduceEqDiff, decide_true, decide_false, fieldAddrF, undE, tupE, W40, a1, a2, fieldAddrF, l1, d1, e]
    exact hK.ret (by rfl) ⟨by rfl, by rfl⟩
end

theorem toD_none {σ : List Ob} {cells : List V} {k o a b : Nat} (h : cells[k]? = some (.sl o a b)) : toD σ (.agg cells) = none := by
  cases e : toD σ (.agg cells) with
  | none => rfl
  | some d =>
    exfalso
    simp only [toD] at e
    split at e
    · rename_i ds hm
      have := mapM_d _ _ hm
      subst this
      rw [List.getElem?_map] at h
      cases hd : ds[k]? with
      | none => rw [hd] at h; cases h
      | some y => rw [hd] at h; cases h
    · cases e

theorem OM.sl33 {σ : List Ob} {lo hi : Nat} {cells : List V} {ms : List D} (h : OM σ lo hi cells ms) : ∃ o n, cells[33]? = some (.sl o 0 n) := by
  obtain ⟨ents, lk, vE, vK, g1, rfl, g3, o, rfl, _⟩ := h
  exact ⟨o, lk.length, by simp [g1.len]⟩

section
variable {P : Program} {t tx e : TypeId} {σ : List Ob} {p q sz m n : Nat} {c d : List V}
theorem srcD_vec {off len : Nat} (h : σ[p]? = some (.vec sz c)) : srcD P e σ tx (.sl p off len) = none := by simp only [srcD, h]
theorem srcV_all (h : σ[p]? = some (.vec sz c)) (ht : isSliceT P tx = true) (hz : szOf P e = sz) (hl : c.length = m * sz) (h1 : c.all (one σ) = true) : srcV P e σ tx (.sl p 0 m) = some (c, m) := by
  simp only [srcV, h, Nat.zero_mul, List.drop_zero, Nat.zero_add]
  rw [← hl, List.take_length]
  rw [if_pos ⟨ht, hz.symm, Nat.le_refl _, h1⟩]
theorem app_vec_nil (h : σ[p]? = some (.vec sz c)) (he : elemOfSlice P t = some e) (hk : elemOk P e = true) (hz : szOf P e = sz) (ht : isSliceT P tx = true) (hl : c.length = m * sz) (h1 : c.all (one σ) = true) (hm : 0 < m) {b : Nat} (hbt : bytesT P e = b) (hb : m * b ≤ 70368744177664) (hb' : b ≤ 16384) :
    appE P t tx σ (.d .nils) (.sl p 0 m) = some (.sl σ.length 0 m, σ ++ [.vec sz c]) := by
  simp only [appE, appendInF, appendF, appendVecF, he, hk, if_true, srcD_vec h, srcV_all h ht hz hl h1, hbt, hz]
  rw [if_pos ⟨hm, hb, hb'⟩]
theorem app_vec_new (h : σ[p]? = some (.vec sz c)) (hq : σ[q]? = some (.vec sz d)) (he : elemOfSlice P t = some e) (hk : elemOk P e = true) (hz : szOf P e = sz) (h0 : 0 < sz) (ht : isSliceT P tx = true) (hl : c.length = m * sz) (hd : d.length = n * sz) (h1 : c.all (one σ) = true) (hm : 0 < m) {b : Nat} (hbt : bytesT P e = b) (hb : (n + m) * b ≤ 70368744177664) (hb' : b ≤ 16384) :
    appE P t tx σ (.sl q 0 n) (.sl p 0 m) = some (.sl σ.length 0 (n + m), σ.set q .dead ++ [.vec sz (d ++ c)]) := by
  simp only [appE, appendInF, appendF, appendVecF, he, hk, if_true, srcD_vec h, srcV_all h ht hz hl h1, hbt, hz, hq]
  have hms : 0 < m * sz := Nat.mul_pos hm h0
  rw [if_neg (by omega), if_neg (by rw [hd, Nat.zero_add, Nat.add_mul]; omega), if_pos ⟨trivial, trivial, by rw [hd]; exact Nat.le_refl _, hb, hb'⟩, ← hd, List.take_length]
end

/-- What an append of one such message leaves. -/
theorem add37v {σ : List Ob} {o k lo hi : Nat} {cs mc : List V} {ms : List D} {q : V} {n : Nat} (h1 : σ[o]? = some (.box cs)) (h2 : cs[k]? = some q) (hq : (q = .d .nils ∧ n = 0) ∨ ∃ p c, q = .sl p 0 n ∧ σ[p]? = some (.vec 34 c) ∧ c.length = n * 34 ∧ p ≠ o) (hn : n ≤ 1024) (hm : OM σ lo hi mc ms) {ents lk : List D} (hI : MsgIs ms ents lk) :
    callA Try.prog 37 [.ptr o 0 k, .agg mc] σ (fun r σ' => ∃ p' lo' hi' c', σ.length ≤ lo' ∧ hi' ≤ p' ∧ σ'[o]? = some (.box (cs.set k (.sl p' 0 (n + 1)))) ∧ OM σ' lo' hi' c' ms ∧ c'.length = 34 ∧
      ((n = 0 ∧ σ'[p']? = some (.vec 34 c')) ∨ ∃ p c, q = .sl p 0 n ∧ σ[p]? = some (.vec 34 c) ∧ σ'[p']? = some (.vec 34 (c ++ c'))) ∧ Keeps (fun j => j = o ∨ ∃ a b, q = .sl j a b) σ σ' ∧ p' < σ'.length) := by
  refine w37v.go fun K hK => ?_
  have hk : k < cs.length := (List.getElem?_eq_some_iff.1 h2).1
  have ho := lt_of_get h1
  generalize hσ1 : σ ++ [Ob.box mc] = σ1
  have g1 : σ1[o]? = some (.box cs) := by rw [← hσ1]; exact app_get h1 _
  have g2 : σ1[σ.length]? = some (.box mc) := by rw [← hσ1]; simp
  have gl : σ1.length = σ.length + 1 := by rw [← hσ1]; simp
  have hm1 : OM σ1 lo hi mc ms := hm.keep (fun p x _ _ hp => by rw [← hσ1]; exact app_get hp _) (Nat.le_refl _) (Nat.le_refl _)
  have a1 := alive_of g1 (by simp)
  have l1 := load_box (P := Try.prog) (t := 68) g1 h2 (by simp only [W37]) (by simp only [W37])
  have l2 := load_all (P := Try.prog) (t := 42) g2 (by simp [hm.len, W37]) (by simp only [W37]) (by simp [W37])
  simp only [e37v, c37v, p37v, e37, c37, p37, Try.f37, codeOf, comp, opsOf, stOf, cop, cstp, copAt, planFor, List.find?, List.find?_nil, Option.map_none, Option.getD_none, List.any_cons, List.any_nil, Stp.idx, Bool.or_false, Nat.reduceBEq, ↓RP, RS, Int.reduceBEq, Int.reduceBNe, Int.reduceLT, Int.reduceLE, Int.reduceAdd, Int.reduceSub, ↓reduceIte, Nat.reduceAdd, Nat.reduceMul, Nat.reduceSub, Nat.reduceLT, Nat.reduceLeDiff, Nat.reduceEqDiff, decide_true, decide_false, fieldAddrF, undE, tupE, W37, boxE, cellsV, hσ1, a1, l1, l2, RS]
  refine CallK_use (NewM.at (copy46n hI) hm1.read) fun v σ2 ⟨c', q1, q2, q3⟩ => ?_
  subst q1
  have k2 : ∀ p x, σ1[p]? = some x → σ2[p]? = some x := fun p x hp => q3.get hp (by simp)
  have g3 := k2 _ _ g1
  have a2 := alive_of g3 (by simp)
  have l3 := load_box (P := Try.prog) (t := 68) g3 h2 (by simp only [W37]) (by simp only [W37])
  have hcl := q2.len
  obtain ⟨os, ns, hsl⟩ := q2.sl33
  have b1 : ∀ s, get s (.tmp 10) = .agg c' → buildSliceF Try.prog 68 1 σ2 s [(0, .tmp 10)] = none := fun s hs => by
    simp only [buildSliceF, W37, inOrder, toDs, hs, toD_none hsl, RS, if_true, Nat.reduceMul, Nat.reduceLeDiff, Nat.reduceAdd, Option.map_some, List.length_cons, List.length_nil]
  have b2 : ∀ s, get s (.tmp 10) = .agg c' → buildVecF Try.prog 68 1 σ2 s [(0, .tmp 10)] = some (.sl σ2.length 0 1, σ2 ++ [.vec 34 c']) := fun s hs => by
    simp only [buildVecF, W37, inOrder, toCs, cellsV, hs, hcl, RS, if_true, Nat.reduceMul, Nat.reduceLeDiff, Nat.reduceAdd, Option.map_some, List.length_cons, List.length_nil, List.append_nil]
  refine ⟨by simp only [chkC, wantC, ↓RP, RS, Int.reduceBEq, Int.reduceBNe, Int.reduceLT, Int.reduceLE, Int.reduceAdd, Int.reduceSub, ↓reduceIte, Nat.reduceAdd, Nat.reduceMul, Nat.reduceSub, Nat.reduceLT, Nat.reduceLeDiff, Nat.reduceEqDiff, decide_true, decide_false, fieldAddrF, undE, tupE, W37, a2, l3], ?_⟩
  have hσ3 : ∀ p x, σ2[p]? = some x → (σ2 ++ [Ob.vec 34 c'])[p]? = some x := fun p x hp => app_get hp _
  have a3 : alive (σ2 ++ [Ob.vec 34 c']) o = true := alive_of (hσ3 _ _ g3) (by simp)
  have l4 := load_box (P := Try.prog) (t := 68) (hσ3 _ _ g3) h2 (by simp only [W37]) (by simp only [W37])
  have n3 : (σ2 ++ [Ob.vec 34 c'])[σ2.length]? = some (.vec 34 c') := by simp
  generalize hs3 : σ2 ++ [Ob.vec 34 c'] = σ3 at *
  have gl3 : σ3.length = σ2.length + 1 := by rw [← hs3]; simp
  have gl2 : σ1.length ≤ σ2.length := q3.1
  have hq3 : OM σ3 σ1.length σ2.length c' ms := q2.keep (fun p x _ _ hp => hσ3 p x hp) (Nat.le_refl _) (Nat.le_refl _)
  have hone := hq3.all_one
  have k3 : Keeps (fun _ => False) σ σ3 := by
    have e1 : Keeps (fun _ => False) σ σ1 := by rw [← hσ1]; exact Keeps.app _ _ _
    have e2 : Keeps (fun _ => False) σ2 σ3 := by rw [← hs3]; exact Keeps.app _ _ _
    exact (e1.trans q3 fun _ _ h => h).trans e2 fun _ _ h => h
  rcases hq with ⟨rfl, rfl⟩ | ⟨p, c, rfl, hp, hc, hpo⟩
  · have ap := app_vec_nil (P := Try.prog) (t := 68) (e := 42) (tx := 68) (m := 1) n3 (by simp only [W37]) (by simp only [W37]) (by simp only [W37]) (by simp only [W37]) (by simp [hcl]) hone (by decide) (b := 344) (by simp only [W37]) (by decide) (by decide)
    have g4 : (σ3 ++ [Ob.vec 34 c'])[o]? = some (.box cs) := app_get (hσ3 _ _ g3) _
    have a4 := alive_of g4 (by simp)
    have a5 : alive (σ3 ++ [Ob.vec 34 c']) σ3.length = true := alive_of (x := .vec 34 c') (by simp) (by simp)
    have st := store_box (P := Try.prog) (t := 68) (k := k) (x := .sl σ3.length 0 1) g4 (one_sl a5) hk (by simp only [W37])
    simp only [↓RP, RS, Int.reduceBEq, Int.reduceBNe, Int.reduceLT, Int.reduceLE, Int.reduceAdd, Int.reduceSub, ↓reduceIte, Nat.reduceAdd, Nat.reduceMul, Nat.reduceSub, Nat.reduceLT, Nat.reduceLeDiff, Nat.reduceEqDiff, decide_true, decide_false, fieldAddrF, undE, tupE, W37, b1, b2, List.toList_toArray, chkC, wantC, a3, l4, ap, a4, st]
    refine hK.nrm (by rfl) ⟨σ3.length, σ1.length, σ2.length, c', by omega, by omega, ?_, ?_, hcl, .inl ⟨rfl, ?_⟩, ?_, by simp⟩
    · rw [List.getElem?_set_self (by simp; omega)]
    · refine hq3.keep (fun p x h1 h2 hp => ?_) (Nat.le_refl _) (Nat.le_refl _)
      rw [List.getElem?_set_ne (by omega)]
      exact app_get hp _
    · rw [List.getElem?_set_ne (by omega)]; simp
    · exact ((k3.mono (fun _ h => h.elim)).trans (Keeps.app _ _ _) (fun _ _ h => h)).trans (Keeps.set _ _ (.inl rfl)) (fun _ _ h => h)
  · have hp3 : σ3[p]? = some (.vec 34 c) := k3.get hp (fun h => h)
    have hpl := lt_of_get hp
    have ap := app_vec_new (P := Try.prog) (t := 68) (e := 42) (tx := 68) (m := 1) (n := n) n3 hp3 (by simp only [W37]) (by simp only [W37]) (by simp only [W37]) (by decide) (by simp only [W37]) (by simp [hcl]) hc hone (by decide) (b := 344) (by simp only [W37]) (by omega) (by decide)
    have g4 : (σ3.set p .dead ++ [Ob.vec 34 (c ++ c')])[o]? = some (.box cs) := app_get (set_get (hσ3 _ _ g3) (fun e => hpo e) _) _
    have a4 := alive_of g4 (by simp)
    have a5 : alive (σ3.set p .dead ++ [Ob.vec 34 (c ++ c')]) σ3.length = true := alive_of (x := .vec 34 (c ++ c')) (by simp) (by simp)
    have st := store_box (P := Try.prog) (t := 68) (k := k) (x := .sl σ3.length 0 (n + 1)) g4 (one_sl a5) hk (by simp only [W37])
    simp only [↓RP, RS, Int.reduceBEq, Int.reduceBNe, Int.reduceLT, Int.reduceLE, Int.reduceAdd, Int.reduceSub, ↓reduceIte, Nat.reduceAdd, Nat.reduceMul, Nat.reduceSub, Nat.reduceLT, Nat.reduceLeDiff, Nat.reduceEqDiff, decide_true, decide_false, fieldAddrF, undE, tupE, W37, b1, b2, List.toList_toArray, chkC, wantC, a3, l4, ap, a4, st]
    refine hK.nrm (by rfl) ⟨σ3.length, σ1.length, σ2.length, c', by omega, by omega, ?_, ?_, hcl, .inr ⟨p, c, rfl, hp, ?_⟩, ?_, by simp⟩
    · rw [List.getElem?_set_self (by simp; omega)]
    · refine hq3.keep (fun j x h1 h2 hp => ?_) (Nat.le_refl _) (Nat.le_refl _)
      rw [List.getElem?_set_ne (by omega)]
      exact app_get (set_get hp (by omega) _) _
    · rw [List.getElem?_set_ne (by omega)]; simp
    · exact (((k3.mono (fun _ h => h.elim)).trans (Keeps.set (S := fun j => j = o ∨ ∃ a b, V.sl p 0 n = .sl j a b) _ _ (.inr ⟨0, n, rfl⟩)) (fun _ _ h => h)).trans (Keeps.app _ _ _) (fun _ _ h => h)).trans (Keeps.set _ _ (.inl rfl)) (fun _ _ h => h)

section
variable {σ : List Ob} {x L R : Nat}

theorem send13v (h : LkAt σ x L R (.d .nils)) (hx : x ≠ R) (hL : L ≠ R) {lo hi : Nat} {mc : List V} {ms ents lk : List D} (hm : OM σ lo hi mc ms) (hI : MsgIs ms ents lk) (h1 : mc[1]? = some (.d (.int .i64 3))) (h2 : mc[2]? = some (.d (.int .i64 2))) :
    callA Try.prog 13 [.ptr x 0 0, .agg mc] σ (fun r σ' => r = .d (.bool true) ∧ ∃ p lo' hi' c, σ.length ≤ lo' ∧ hi' ≤ p ∧ p < σ'.length ∧ LkAt σ' x L R (.sl p 0 1) ∧ OM σ' lo' hi' c ms ∧ c.length = 34 ∧ σ'[p]? = some (.vec 34 c) ∧ Keeps (fun j => j = R) σ σ') := by
  refine w13.go fun K hK => ?_
  have kp : Keeps (fun _ => False) σ (σ ++ [Ob.box mc]) := Keeps.app _ _ _
  have h' := h.keep kp (fun h => h) (fun h => h) (fun h => h)
  have g0 : (σ ++ [Ob.box mc])[σ.length]? = some (.box mc) := by simp
  have hm1 : OM (σ ++ [Ob.box mc]) lo hi mc ms := hm.keep (fun p x _ _ hp => app_get hp _) (Nat.le_refl _) (Nat.le_refl _)
  have gl1 : (σ ++ [Ob.box mc]).length = σ.length + 1 := by simp
  generalize hσ1 : σ ++ [Ob.box mc] = σ1 at *
  have a0 := alive_of g0 (by simp)
  have l1 := load_box (P := Try.prog) (t := 3) g0 h1 (by simp only [W13]) (by simp only [W13])
  have l2 := load_box (P := Try.prog) (t := 3) g0 h2 (by simp only [W13]) (by simp only [W13])
  have l3 := load_all (P := Try.prog) (t := 42) g0 (by simp [hm.len, W13]) (by simp only [W13]) (by simp [W13])
  simp only [e13, c13, p13, Try.f13, codeOf, comp, opsOf, stOf, cop, cstp, copAt, planFor, List.find?, List.find?_nil, Option.map_none, Option.getD_none, List.any_cons, List.any_nil, Stp.idx, Bool.or_false, Nat.reduceBEq, ↓RP, RS, Int.reduceBEq, Int.reduceBNe, Int.reduceLT, Int.reduceLE, Int.reduceAdd, Int.reduceSub, ↓reduceIte, Nat.reduceAdd, Nat.reduceMul, Nat.reduceSub, Nat.reduceLT, Nat.reduceLeDiff, Nat.reduceEqDiff, decide_true, decide_false, fieldAddrF, undE, tupE, W13, boxE, cellsV, hσ1, a0, l1, l2]
  refine CallK_use' (link35v h') fun v σ' ⟨q1, q2⟩ => ?_
  subst q1; subst q2
  obtain ⟨cR, hR, hc4, hc5⟩ := h'.hR
  have a1 := alive_of hR (by simp)
  have l4 := load_box (P := Try.prog) (t := 4) hR hc5 (by simp only [W13]) (by simp only [W13])
  simp only [↓RP, RS, Int.reduceBEq, Int.reduceBNe, Int.reduceLT, Int.reduceLE, Int.reduceAdd, Int.reduceSub, ↓reduceIte, Nat.reduceAdd, Nat.reduceMul, Nat.reduceSub, Nat.reduceLT, Nat.reduceLeDiff, Nat.reduceEqDiff, decide_true, decide_false, fieldAddrF, undE, tupE, W13, a1, l4]
  refine CallK_use' (full36v (n := 0) hR hc4 (.inl ⟨rfl, rfl⟩)) fun v σ'' ⟨q1, q2⟩ => ?_
  subst q1; subst q2
  have d1 : decide (1024 ≤ 0) = false := rfl
  simp only [↓RP, RS, Int.reduceBEq, Int.reduceBNe, Int.reduceLT, Int.reduceLE, Int.reduceAdd, Int.reduceSub, ↓reduceIte, Nat.reduceAdd, Nat.reduceMul, Nat.reduceSub, Nat.reduceLT, Nat.reduceLeDiff, Nat.reduceEqDiff, decide_true, decide_false, fieldAddrF, undE, tupE, W13, a1, l3, d1]
  refine CallK_use' (add37v (n := 0) hR hc4 (.inl ⟨rfl, rfl⟩) (by decide) hm1 hI) fun v σ'' ⟨p, lo', hi', c, e1, e2, e3, e4, e5, e6, e7, e8⟩ => ?_
  simp only [↓RP, RS, Int.reduceBEq, Int.reduceBNe, Int.reduceLT, Int.reduceLE, Int.reduceAdd, Int.reduceSub, ↓reduceIte, Nat.reduceAdd, Nat.reduceMul, Nat.reduceSub, Nat.reduceLT, Nat.reduceLeDiff, Nat.reduceEqDiff, decide_true, decide_false, fieldAddrF, undE, tupE]
  have hp : σ''[p]? = some (.vec 34 c) := by
    rcases e6 with ⟨_, q⟩ | ⟨_, _, q, _⟩
    · exact q
    · cases q
  have k8 : Keeps (fun j => j = R) _ σ'' := e7.mono fun j q => q.elim id fun ⟨a, b, q⟩ => by cases q
  refine hK.ret (by rfl) ⟨rfl, p, lo', hi', c, by omega, e2, e8, ?_, e4, e5, hp, (kp.mono fun _ q => q.elim).trans k8 fun _ _ q => q⟩
  exact h'.set hx hL hR (k8.2 x (lt_of_get h'.hx) hx) (k8.2 L (lt_of_get h'.hL.choose_spec.1) hL) e3

theorem twice19v {p : Nat} {c1 : List V} (h : LkAt σ x L R (.sl p 0 1)) (hx : x ≠ R) (hL : L ≠ R) (hpR : p ≠ R) (hxp : x ≠ p) (hLp : L ≠ p) (hp : σ[p]? = some (.vec 34 c1)) {lo hi : Nat} {ms ents lk : List D} (hm : OM σ lo hi c1 ms) (hI : MsgIs ms ents lk) :
    callA Try.prog 19 [.ptr x 0 0, .d (.int .i64 3), .d (.int .i64 2), .d (.int .i64 0)] σ (fun r σ' => r = .d (.bool true) ∧ ∃ p' lo' hi' c, σ.length ≤ lo' ∧ hi' ≤ p' ∧ p' < σ'.length ∧ LkAt σ' x L R (.sl p' 0 2) ∧ OM σ' lo' hi' c ms ∧ c.length = 34 ∧ σ'[p']? = some (.vec 34 (c1 ++ c)) ∧ Keeps (fun j => j = R ∨ j = p) σ σ') := by
  refine w19.go fun K hK => ?_
  simp only [e19, c19, p19, Try.f19, codeOf, comp, opsOf, stOf, cop, cstp, copAt, planFor, List.find?, List.find?_nil, Option.map_none, Option.getD_none, List.any_cons, List.any_nil, Stp.idx, Bool.or_false, Nat.reduceBEq, ↓RP, RS, Int.reduceBEq, Int.reduceBNe, Int.reduceLT, Int.reduceLE, Int.reduceAdd, Int.reduceSub, ↓reduceIte, Nat.reduceAdd, Nat.reduceMul, Nat.reduceSub, Nat.reduceLT, Nat.reduceLeDiff, Nat.reduceEqDiff, decide_true, decide_false, fieldAddrF, undE, tupE]
  refine CallK_use' (link35v h) fun v σ' ⟨q1, q2⟩ => ?_
  subst q1; subst q2
  obtain ⟨cR, hR, hc4, hc5⟩ := h.hR
  have a1 := alive_of hR (by simp)
  have ap := alive_of hp (by simp)
  have hcl := hm.len
  simp only [↓RP, RS, Int.reduceBEq, Int.reduceBNe, Int.reduceLT, Int.reduceLE, Int.reduceAdd, Int.reduceSub, ↓reduceIte, Nat.reduceAdd, Nat.reduceMul, Nat.reduceSub, Nat.reduceLT, Nat.reduceLeDiff, Nat.reduceEqDiff, decide_true, decide_false, fieldAddrF, undE, tupE, W19, a1]
  refine CallK_use' (has40v (n := 1) hR hc4 (.inr ⟨p, rfl, ap⟩)) fun v σ'' ⟨q1, q2⟩ => ?_
  subst q1; subst q2
  have d1 : decide (0 < 1) = true := rfl
  simp only [↓RP, RS, Int.reduceBEq, Int.reduceBNe, Int.reduceLT, Int.reduceLE, Int.reduceAdd, Int.reduceSub, ↓reduceIte, Nat.reduceAdd, Nat.reduceMul, Nat.reduceSub, Nat.reduceLT, Nat.reduceLeDiff, Nat.reduceEqDiff, decide_true, decide_false, fieldAddrF, undE, tupE, W19, a1, d1]
  refine CallK_use' (full36v (n := 1) hR hc4 (.inr ⟨p, rfl, ap⟩)) fun v σ'' ⟨q1, q2⟩ => ?_
  subst q1; subst q2
  have d1 : decide (1024 ≤ 1) = false := rfl
  have l1 := load_box (P := Try.prog) (t := 68) hR hc4 (by simp only [W19]) (by simp only [W19])
  have x1 := index_vec (P := Try.prog) (t := 68) (e := 42) (kd := .i64) (off := 0) (len := 1) (j := 0) hp (by simp only [W19]) (by simp only [W19]) (by decide) (by decide)
  have x1 : indexAddrF Try.prog 68 _ (.sl p 0 1) (.d (.int .i64 0)) = some (.ptr p 0 0) := x1
  have l2 := load_vecs (P := Try.prog) (t := 42) (i := 0) (k := 0) hp (by simp only [W19]) (by simp [W19]) (by simp only [W19]; omega)
  have z42 : szOf Try.prog 42 = 34 := by simp only [W19]
  rw [z42, Nat.zero_mul, List.drop_zero, List.take_of_length_le (by omega)] at l2
  simp only [↓RP, RS, Int.reduceBEq, Int.reduceBNe, Int.reduceLT, Int.reduceLE, Int.reduceAdd, Int.reduceSub, ↓reduceIte, Nat.reduceAdd, Nat.reduceMul, Nat.reduceSub, Nat.reduceLT, Nat.reduceLeDiff, Nat.reduceEqDiff, decide_true, decide_false, fieldAddrF, undE, tupE, W19, a1, d1, l1, x1, l2]
  refine CallK_use' (add37v (n := 1) hR hc4 (.inr ⟨p, c1, rfl, hp, by omega, hpR⟩) (by decide) hm hI) fun v σ3 ⟨p', lo', hi', c, e1, e2, e3, e4, e5, e6, e7, e8⟩ => ?_
  simp only [↓RP, RS, Int.reduceBEq, Int.reduceBNe, Int.reduceLT, Int.reduceLE, Int.reduceAdd, Int.reduceSub, ↓reduceIte, Nat.reduceAdd, Nat.reduceMul, Nat.reduceSub, Nat.reduceLT, Nat.reduceLeDiff, Nat.reduceEqDiff, decide_true, decide_false, fieldAddrF, undE, tupE]
  have hp' : σ3[p']? = some (.vec 34 (c1 ++ c)) := by
    rcases e6 with ⟨q, _⟩ | ⟨p0, c0, q, q1, q2⟩
    · cases q
    · cases q
      rw [hp] at q1; cases q1
      exact q2
  have k8 : Keeps (fun j => j = R ∨ j = p) _ σ3 := e7.mono fun j q => q.elim .inl fun ⟨a, b, q⟩ => by cases q; exact .inr rfl
  refine hK.ret (by rfl) ⟨rfl, p', lo', hi', c, e1, e2, e8, ?_, e4, e5, hp', k8⟩
  exact h.set hx hL hR (k8.2 x (lt_of_get h.hx) fun q => q.elim hx hxp) (k8.2 L (lt_of_get h.hL.choose_spec.1) fun q => q.elim hL hLp) e3
end
end Go.Proofs.Ytadddaafajennaa.Am
