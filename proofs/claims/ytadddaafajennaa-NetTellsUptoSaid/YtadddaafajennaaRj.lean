/- The law that tells: the network and the reference side by side. Printed by program (genJ.py). -/
import Derived.Test.YtadddaafajennaaRi
set_option linter.unusedSimpArgs false
set_option linter.unusedVariables false
set_option maxRecDepth 10000
set_option maxHeartbeats 8000000
namespace Go.Proofs.Ytadddaafajennaa.Am
open Go Go.Proofs

def kndB : List (Option SK) → List D → Bool
  | [], [] => true
  | some .int :: r, .int _ _ :: t => kndB r t
  | some .str :: r, .str _ :: t => kndB r t
  | some .bool :: r, .bool _ :: t => kndB r t
  | none :: r, .lst _ _ :: t => kndB r t
  | _, _ => false
theorem kndB_ok : ∀ {ks : List (Option SK)} {ds : List D}, kndB ks ds = true → Knd ks ds
  | [], [], h => rfl
  | some .int :: r, .int k n :: t, h => ⟨k, n, t, rfl, kndB_ok (by simpa [kndB] using h)⟩
  | some .str :: r, .str s :: t, h => ⟨s, t, rfl, kndB_ok (by simpa [kndB] using h)⟩
  | some .bool :: r, .bool b :: t, h => ⟨b, t, rfl, kndB_ok (by simpa [kndB] using h)⟩
  | none :: r, .lst sz es :: t, h => ⟨sz, es, t, rfl, kndB_ok (by simpa [kndB] using h)⟩

def zS : List D := (zMsg.set 10 (.lst 50 [])).set 33 (.lst 1 [])
theorem zS_ok : MsgS zS := ⟨kndB_ok (by rfl), [], [], rfl, rfl, fun d hd => by simp at hd, fun d hd => by simp at hd, by simp, by simp⟩
theorem zS_le : VLe (.agg z42) (.d (.agg zS)) := by
  refine VLe.trans (y := .agg (zS.map .d)) ?_ (VLe.agg zS)
  refine VLe_agg (VLes.trans (VLes_set (VLe.nils 50) z42 10 rfl) ?_)
  exact VLes_set (VLe.nils 1) _ 33 rfl

section
variable {n k : Nat} {A : Links} {ls : List D} {cuts : List (Int × Int)} {σ : List Ob} {L : Nat} {R : Nat → Nat} {Q : Nat → Nat → Option Nat} {role : Nat → Role}
theorem size24R (h : NetAt σ 1 n A L R Q role) (hT : Tl n k A ls cuts) (f t : Int) : callA Try.prog 24 [.ptr 1 0 0, .d (.int .i64 f), .d (.int .i64 t)] σ (fun r σ' => r = .d (.int .i64 (lenR ls f t : Nat)) ∧ σ' = σ) := by
  refine callA_mono (size24 h f t) fun r σ' ⟨q1, q2⟩ => ⟨?_, q2⟩
  rw [q1, hT.rl.len]
theorem off26R (h : NetAt σ 1 n A L R Q role) (hT : Tl n k A ls cuts) (f t : Int) : callA Try.prog 26 [.ptr 1 0 0, .d (.int .i64 f), .d (.int .i64 t)] σ (fun r σ' => r = .d (.bool (offR cuts f t)) ∧ σ' = σ) := by
  refine callA_mono (off26 h f t) fun r σ' ⟨q1, q2⟩ => ⟨?_, q2⟩
  rw [q1, hT.rl.off]
theorem total28R (h : NetAt σ 1 n A L R Q role) (hT : Tl n k A ls cuts) : callA Try.prog 28 [.ptr 1 0 0] σ (fun r σ' => r = .d (.int .i64 ls.length) ∧ σ' = σ) := by
  refine callA_mono (total28 h) fun r σ' ⟨q1, q2⟩ => ⟨?_, q2⟩
  rw [q1, hT.rl.tot]
end

theorem role_fresh {σ : List Ob} {n : Nat} {A : Links} {L : Nat} {R : Nat → Nat} {Q : Nat → Nat → Option Nat} {role : Nat → Role} (h : NetAt σ 1 n A L R Q role) {p : Nat} (hp : σ.length ≤ p) : role p = .other := by
  refine Classical.byContradiction fun q => ?_
  have := h.rlt p q
  omega

theorem tells3 (nn : Int) (steps : List D) (hs : ∀ e ∈ steps, StepS e) (hB : steps.length ≤ 1048576) : callA Try.prog 3 [.d (.int .i64 nn), .d (.lst 38 steps)] [] fun r _ => r = .d (.bool true) := by
  have hsA : ∀ e ∈ steps, StepA e := fun e he => by
    obtain ⟨cs, d, f, t, a, m, fm, tm, ents, lk, e1, ok, _⟩ := hs e he
    exact ⟨cs, d, f, t, a, m, fm, tm, ents, lk, e1, ok⟩
  refine w3.go fun K hK => ?_
  simp only [e3, c3, p3, Try.f3, codeOf, comp, opsOf, stOf, cop, cstp, copAt, planFor, List.find?, List.find?_nil, Option.map_none, Option.getD_none, List.any_cons, List.any_nil, Stp.idx, Bool.or_false, Nat.reduceBEq, lapp_cons, lapp_nil, ↓RP, RS, Int.reduceBEq, Int.reduceBNe, Int.reduceLT, Int.reduceLE, Int.reduceAdd, Int.reduceSub, ↓reduceIte, Nat.reduceAdd, Nat.reduceMul, Nat.reduceSub, Nat.reduceLT, Nat.reduceLeDiff, Nat.reduceEqDiff, decide_true, decide_false, fieldAddrF, undE, tupE, W3]
  refine CallK_use' (small8 _) fun v σ' ⟨q1, q2⟩ => ?_
  subst q1; subst q2
  simp only [↓RP, RS, Int.reduceBEq, Int.reduceBNe, Int.reduceLT, Int.reduceLE, Int.reduceAdd, Int.reduceSub, ↓reduceIte, Nat.reduceAdd, Nat.reduceMul, Nat.reduceSub, Nat.reduceLT, Nat.reduceLeDiff, Nat.reduceEqDiff, decide_true, decide_false, fieldAddrF, undE, tupE, W3]
  refine CallK_use' (new9 nn _) fun v σ' ⟨L, R, Q, role, q1, h, k1⟩ => ?_
  subst q1
  simp only [List.length_nil, Nat.zero_add] at h ⊢
  have a2 := alive_of h.hx (by simp)
  simp only [↓RP, RS, Int.reduceBEq, Int.reduceBNe, Int.reduceLT, Int.reduceLE, Int.reduceAdd, Int.reduceSub, ↓reduceIte, Nat.reduceAdd, Nat.reduceMul, Nat.reduceSub, Nat.reduceLT, Nat.reduceLeDiff, Nat.reduceEqDiff, decide_true, decide_false, fieldAddrF, undE, tupE, W3]
  refine CallK_use' (few10 steps hsA hB σ') fun v s ⟨q1, b, q2, h60⟩ => ?_
  subst q1; subst q2
  cases b with
  | false =>
    simp only [↓RP, RS, Int.reduceBEq, Int.reduceBNe, Int.reduceLT, Int.reduceLE, Int.reduceAdd, Int.reduceSub, ↓reduceIte, Nat.reduceAdd, Nat.reduceMul, Nat.reduceSub, Nat.reduceLT, Nat.reduceLeDiff, Nat.reduceEqDiff, decide_true, decide_false, fieldAddrF, undE, tupE, W3, a2]
    exact hK.ret (by rfl) (by rfl)
  | true =>
  have h60 := h60 rfl
  simp only [↓RP, RS, Int.reduceBEq, Int.reduceBNe, Int.reduceLT, Int.reduceLE, Int.reduceAdd, Int.reduceSub, ↓reduceIte, Nat.reduceAdd, Nat.reduceMul, Nat.reduceSub, Nat.reduceLT, Nat.reduceLeDiff, Nat.reduceEqDiff, decide_true, decide_false, fieldAddrF, undE, tupE, W3, a2]
  refine CallK_use' (callA_at (new11 nn) s (by rfl)) fun v s1 ⟨r0, σ0, ⟨q0, q1⟩, q2, q3⟩ => ?_
  subst q0; subst q1; subst q2
  have hmn : manyOf nn ≤ 20 := h.n20
  generalize manyOf nn = n at h hmn q3
  obtain ⟨y, hy⟩ : ∃ y, y = s.length := ⟨_, rfl⟩
  have e0 : embV [] s.length (.ptr 0 0 0) = .ptr y 0 0 := by rw [hy]; simp [embV, renV, emb]
  have e1 : s1 = s ++ [.box ((refL n [] []).map .d)] := by rw [q3]; simp [embO, renO, renVs_d]
  have gy : s1[y]? = some (.box ((refL n [] []).map .d)) := by rw [e1, hy]; simp
  have ry : role y = .other := role_fresh h (by omega)
  have hN : NetAt s1 1 n (fun _ _ => (false, [])) L R Q role := by rw [e1]; exact h.app _
  rw [e0]
  clear q3 e1 e0 a2 k1 h
  simp only [↓RP, RS, Int.reduceBEq, Int.reduceBNe, Int.reduceLT, Int.reduceLE, Int.reduceAdd, Int.reduceSub, ↓reduceIte, Nat.reduceAdd, Nat.reduceMul, Nat.reduceSub, Nat.reduceLT, Nat.reduceLeDiff, Nat.reduceEqDiff, decide_true, decide_false, fieldAddrF, undE, tupE, W3]
  refine Loop_k [1, 4, 5, 6, 7, 8] (fun x : Nat × List Ob => fr 0 216 [(1, .d (.lst 38 steps)), (4, .d (.bool false)), (5, .d (.bool true)), (6, .ptr 1 0 0), (7, .ptr y 0 0), (8, .d (.int .i64 x.1))]) (fun x => x.2) (fun x => x.1 ≤ steps.length ∧ ∃ A Q role ls cuts, NetAt x.2 1 n A L R Q role ∧ x.2[y]? = some (.box ((refL n ls cuts).map .d)) ∧ role y = .other ∧ Tl n x.1 A ls cuts) (fun x => steps.length - x.1) (0, s1) (by kernel_rfl) rfl ⟨Nat.zero_le _, _, _, _, [], [], hN, gy, ry, ⟨Rl.zero n, hmn, fun m hm => by simp at hm, by simp, by simp⟩⟩ fun ⟨k, sk⟩ ⟨g1, A, Q1, role1, ls, cuts, hN, gy, ry, hT⟩ => ?_
  simp only at g1 hN gy hT ⊢
  have a3 := alive_of hN.hx (by simp)
  by_cases hlt : k < steps.length
  · have e3 : decide ((k : Int) < (steps.length : Int)) = true := by simpa using hlt
    have w1 : IntKind.i64.wrap ((k : Int) + 1) = ((k + 1 : Nat) : Int) := by rw [IntWalk.i64_in _ (by omega)]; rfl
    have hk9 : k ≤ 900 := by omega
    obtain ⟨cs, d, f, t, a, m, fm, tm, ents, lk, he, ok, hms⟩ := hs _ (List.getElem_mem hlt)
    have x1 : ∀ σ, indexAddrF Try.prog 22 σ (.d (.lst 38 steps)) (.d (.int .i64 (k : Int))) = some (.ipt cs) := fun σ => index_lst (P := Try.prog) (t := 22) (e := 44) (by simp only [W3]) (by simp only [W3]) (by rw [List.getElem?_eq_getElem hlt, he]) ok.len
    have x2 : ∀ σ, loadF Try.prog 44 σ (.ipt cs) = some (.d (.agg cs)) := fun σ => by
      simp only [loadF, takeD, W3, if_true, ok.len, Nat.le_refl, Nat.reduceLeDiff, Nat.reduceLT, and_self]
      rw [List.take_of_length_le (by rw [ok.len]; omega)]
    obtain ⟨o, ho⟩ : ∃ o, o = sk.length := ⟨_, rfl⟩
    have yo : y < o := by rw [ho]; exact lt_of_get gy
    obtain ⟨σa, hσa⟩ : ∃ σa, σa = sk ++ [Ob.box (cs.map .d)] := ⟨_, rfl⟩
    obtain ⟨σb, hσb⟩ : ∃ σb, σb = σa ++ [Ob.box z42] := ⟨_, rfl⟩
    obtain ⟨σc, hσc⟩ : ∃ σc, σc = σb ++ [Ob.box z42] := ⟨_, rfl⟩
    have la : σa.length = o + 1 := by rw [hσa, ho]; simp
    have lb : σb.length = o + 2 := by rw [hσb]; simp [la]
    have lc : σc.length = o + 3 := by rw [hσc]; simp [lb]
    have al0 : allocE Try.prog 44 sk = some (.ptr o 0 0, sk ++ [.box z44]) := by rw [ho]; simp only [allocE, W3]; rfl
    have gz : (sk ++ [Ob.box z44])[o]? = some (.box z44) := by rw [ho]; simp
    have st0 := store_aggd (P := Try.prog) (t := 44) (k := 0) gz ok.one (by simp [ok.len]; decide) (by simp [ok.len, W3]) (by simp [W3])
    rw [setAt_all (by simp [ok.len]; decide)] at st0
    have e5 : (sk ++ [Ob.box z44]).set o (.box (cs.map .d)) = σa := by rw [hσa, ho]; simp
    rw [e5] at st0
    have az := alive_of gz (by simp)
    have al1 : allocE Try.prog 42 σa = some (.ptr (o + 1) 0 0, σb) := by rw [hσb, ← la]; simp only [allocE, W3]; rfl
    have al2 : allocE Try.prog 42 σb = some (.ptr (o + 2) 0 0, σc) := by rw [hσc, ← lb]; simp only [allocE, W3]; rfl
    have hκ : Keeps (fun _ => False) sk σc := by
      rw [hσc, hσb, hσa, List.append_assoc, List.append_assoc]; exact Keeps.app _ _ _
    have cN : NetAt σc 1 n A L R Q1 role1 := hN.keep hκ fun _ q => q.elim
    have cy : σc[y]? = some (.box ((refL n ls cuts).map .d)) := hκ.get gy id
    have c0 : σc[o]? = some (.box (cs.map .d)) := by rw [hσc, hσb, hσa, ho]; simp
    have c1 : σc[o + 1]? = some (.box z42) := by rw [hσc, List.getElem?_append_left (by omega), hσb, ← la]; simp
    have c2 : σc[o + 2]? = some (.box z42) := by rw [hσc, ← lb]; simp
    have r0 : role1 o = .other := role_fresh hN (by omega)
    have r1 : role1 (o + 1) = .other := role_fresh hN (by omega)
    have r2 : role1 (o + 2) = .other := role_fresh hN (by omega)
    clear hσa hσb hσc hκ e5
    have l0 := fun (τ : List Ob) (g : τ[o]? = some (.box (cs.map .d))) => load_box (P := Try.prog) (t := 3) (k := 0) g (d_get ok.d0) (by simp only [W3]) (by simp only [W3])
    have l1 := fun (τ : List Ob) (g : τ[o]? = some (.box (cs.map .d))) => load_box (P := Try.prog) (t := 3) (k := 1) g (d_get ok.f1) (by simp only [W3]) (by simp only [W3])
    have l2 := fun (τ : List Ob) (g : τ[o]? = some (.box (cs.map .d))) => load_box (P := Try.prog) (t := 3) (k := 2) g (d_get ok.t2) (by simp only [W3]) (by simp only [W3])
    have l3 := fun (τ : List Ob) (g : τ[o]? = some (.box (cs.map .d))) => load_box (P := Try.prog) (t := 3) (k := 3) g (d_get ok.a3) (by simp only [W3]) (by simp only [W3])
    have l4 : ∀ (τ : List Ob), τ[o]? = some (.box (cs.map .d)) → loadF Try.prog 42 τ (.ptr o 0 4) = some (.agg (m.map .d)) := fun τ g => by
      have l4 := load_agg (P := Try.prog) (t := 42) (k := 4) g (by simp [ok.len, W3]) (by simp only [W3]) (by simp [W3])
      have e4 : ((cs.map V.d).drop 4).take (szOf Try.prog 42) = m.map .d := by
        rw [← List.map_drop, ok.m4, show szOf Try.prog 42 = 34 by simp only [W3]]
        exact List.take_of_length_le (by simp [ok.msg.len])
      rw [e4] at l4; exact l4
    have ao := fun (τ : List Ob) (g : τ[o]? = some (.box (cs.map .d))) => alive_of g (by simp)
    have hRf := hT.ref hk9
    have eb : ∀ b : Bool, (b == b) = true := by simp
    have en : ∀ n : Int, (n != n) = false := by simp
    simp only [fr, ↓RP, RS, Int.reduceBEq, Int.reduceBNe, Int.reduceLT, Int.reduceLE, Int.reduceAdd, Int.reduceSub, ↓reduceIte, Nat.reduceAdd, Nat.reduceMul, Nat.reduceSub, Nat.reduceLT, Nat.reduceLeDiff, Nat.reduceEqDiff, decide_true, decide_false, fieldAddrF, undE, tupE, W3, e3, x1, x2, al0, st0, al1, al2, az, ao _ c0, l0 _ c0]
    refine CallK_use' (pick12 d 8 (by omega) (by omega) σc) fun v0 s' ⟨q1, q2⟩ => ?_
    subst q1; subst q2
    have hp8 := pickN_lt d (m := 8) (by omega)
    have hpp : (pickN d 8 = 0 ∧ ((pickN d 8 : Nat) : Int) = 0) ∨ (pickN d 8 = 1 ∧ ((pickN d 8 : Nat) : Int) = 1) ∨ (pickN d 8 = 2 ∧ ((pickN d 8 : Nat) : Int) = 2) ∨ (pickN d 8 = 3 ∧ ((pickN d 8 : Nat) : Int) = 3) ∨ (pickN d 8 = 4 ∧ ((pickN d 8 : Nat) : Int) = 4) ∨ (pickN d 8 = 5 ∧ ((pickN d 8 : Nat) : Int) = 5) ∨ (pickN d 8 = 6 ∧ ((pickN d 8 : Nat) : Int) = 6) ∨ (pickN d 8 = 7 ∧ ((pickN d 8 : Nat) : Int) = 7) := by omega
    rcases hpp with ⟨hp, hp'⟩ | ⟨hp, hp'⟩ | ⟨hp, hp'⟩ | ⟨hp, hp'⟩ | ⟨hp, hp'⟩ | ⟨hp, hp'⟩ | ⟨hp, hp'⟩ | ⟨hp, hp'⟩
    all_goals simp only [hp', ↓RP, RS, Int.reduceBEq, Int.reduceBNe, Int.reduceLT, Int.reduceLE, Int.reduceAdd, Int.reduceSub, ↓reduceIte, Nat.reduceAdd, Nat.reduceMul, Nat.reduceSub, Nat.reduceLT, Nat.reduceLeDiff, Nat.reduceEqDiff, decide_true, decide_false, fieldAddrF, undE, tupE, W3, ao _ c0, l0 _ c0, l1 _ c0, l2 _ c0, l3 _ c0, l4 _ c0]
    · refine CallK_use' (send13 cN ok.msg) fun v0 s1 ⟨q1, Q', role', n1, n2⟩ => ?_
      obtain ⟨eS, ls', eL, hT'⟩ := hT.send hk9 ok.msg hms
      rw [eS] at q1
      subst q1
      obtain ⟨n1y, n1r⟩ := n2.get cy ry
      obtain ⟨n1o, n1ro⟩ := n2.get c0 r0
      obtain ⟨n1a, n1ra⟩ := n2.get c1 r1
      obtain ⟨n1b, n1rb⟩ := n2.get c2 r2
      simp only [↓RP, RS, Int.reduceBEq, Int.reduceBNe, Int.reduceLT, Int.reduceLE, Int.reduceAdd, Int.reduceSub, ↓reduceIte, Nat.reduceAdd, Nat.reduceMul, Nat.reduceSub, Nat.reduceLT, Nat.reduceLeDiff, Nat.reduceEqDiff, decide_true, decide_false, fieldAddrF, undE, tupE, W3, ao _ n1o, l4 _ n1o]
      refine CallK_use' (send14v hRf ok.msg.len ok.msg.one ok.msg.from_ ok.msg.to_ n1y) fun v0 τ ⟨q1, q2⟩ => ?_
      subst q1
      rw [eL] at q2
      have hNt : NetAt τ 1 n (if Am.okS n A fm tm then putS A fm.toNat tm.toNat (.agg m) else A) L R Q' role' := by rw [q2]; exact n1.keep (Keeps.set (S := fun p => p = y) _ _ rfl) (fun p e => by rw [e]; exact n1r)
      have gA : τ[o + 1]? = some (.box z42) := by rw [q2]; exact set_get n1a (by omega) _
      have gB : τ[o + 2]? = some (.box z42) := by rw [q2]; exact set_get n1b (by omega) _
      have hry : role' y = .other := n1r
      have hXl : z42.length = 34 := rfl
      obtain ⟨M, hXM, hMS⟩ : ∃ M, VLe (.agg z42) (.d (.agg M)) ∧ MsgS M := ⟨zS, zS_le, zS_ok⟩
      obtain ⟨cuts', hc⟩ : ∃ c, c = cuts := ⟨_, rfl⟩
      subst hc
      have gO : τ[o]? = some (.box (cs.map .d)) := by rw [q2]; exact set_get n1o (by omega) _
      have gy' : τ[y]? = some (.box ((refL n ls' cuts').map .d)) := by rw [q2]; exact set_at n1y _
      have tN := hNt
      have X1 := load_all (P := Try.prog) (t := 42) gA (by rw [hXl]; simp only [W3]) (by simp only [W3]) (by simp only [W3]; decide)
      have X2 := load_all (P := Try.prog) (t := 42) gB (by rw [hXl]; simp only [W3]) (by simp only [W3]) (by simp only [W3]; decide)
      have t1 := l1 _ gO
      have t2 := l2 _ gO
      have at1 := ao _ gO
      have aA := alive_of gA (by simp)
      have aB := alive_of gB (by simp)
      have hRt := hT'.ref (by omega)
      have hRa := hRt.at gy'
      simp only [↓RP, RS, Int.reduceBEq, Int.reduceBNe, Int.reduceLT, Int.reduceLE, Int.reduceAdd, Int.reduceSub, ↓reduceIte, Nat.reduceAdd, Nat.reduceMul, Nat.reduceSub, Nat.reduceLT, Nat.reduceLeDiff, Nat.reduceEqDiff, decide_true, decide_false, fieldAddrF, undE, tupE, W3, eb, X1, X2, at1, aA, aB]
      refine CallK_use' (callA_le (ys := [.d (.agg M), .d (.agg M)]) ⟨_, _, rfl, hXM, _, _, rfl, hXM, rfl⟩ (same23 M hMS τ)) fun v s3 ⟨q1, q2⟩ => ?_
      subst q1; subst q2
      simp only [↓RP, RS, Int.reduceBEq, Int.reduceBNe, Int.reduceLT, Int.reduceLE, Int.reduceAdd, Int.reduceSub, ↓reduceIte, Nat.reduceAdd, Nat.reduceMul, Nat.reduceSub, Nat.reduceLT, Nat.reduceLeDiff, Nat.reduceEqDiff, decide_true, decide_false, fieldAddrF, undE, tupE, W3, t1, t2, at1]
      refine CallK_use (size24R tN hT' f t) fun v s3 ⟨q1, q2⟩ => ⟨by subst q1; subst q2; simp only [chkC, wantC, ↓RP, RS, Int.reduceBEq, Int.reduceBNe, Int.reduceLT, Int.reduceLE, Int.reduceAdd, Int.reduceSub, ↓reduceIte, Nat.reduceAdd, Nat.reduceMul, Nat.reduceSub, Nat.reduceLT, Nat.reduceLeDiff, Nat.reduceEqDiff, decide_true, decide_false, fieldAddrF, undE, tupE, W3, t1, t2, at1], ?_⟩
      subst q1; subst q2
      simp only [↓RP, RS, Int.reduceBEq, Int.reduceBNe, Int.reduceLT, Int.reduceLE, Int.reduceAdd, Int.reduceSub, ↓reduceIte, Nat.reduceAdd, Nat.reduceMul, Nat.reduceSub, Nat.reduceLT, Nat.reduceLeDiff, Nat.reduceEqDiff, decide_true, decide_false, fieldAddrF, undE, tupE, W3]
      refine CallK_use' (len25 hRa f t) fun v s3 ⟨q1, q2⟩ => ?_
      subst q1; subst q2
      simp only [↓RP, RS, Int.reduceBEq, Int.reduceBNe, Int.reduceLT, Int.reduceLE, Int.reduceAdd, Int.reduceSub, ↓reduceIte, Nat.reduceAdd, Nat.reduceMul, Nat.reduceSub, Nat.reduceLT, Nat.reduceLeDiff, Nat.reduceEqDiff, decide_true, decide_false, fieldAddrF, undE, tupE, W3, en, t1, t2, at1]
      refine CallK_use (off26R tN hT' f t) fun v s3 ⟨q1, q2⟩ => ⟨by subst q1; subst q2; simp only [chkC, wantC, ↓RP, RS, Int.reduceBEq, Int.reduceBNe, Int.reduceLT, Int.reduceLE, Int.reduceAdd, Int.reduceSub, ↓reduceIte, Nat.reduceAdd, Nat.reduceMul, Nat.reduceSub, Nat.reduceLT, Nat.reduceLeDiff, Nat.reduceEqDiff, decide_true, decide_false, fieldAddrF, undE, tupE, W3, t1, t2, at1], ?_⟩
      subst q1; subst q2
      simp only [↓RP, RS, Int.reduceBEq, Int.reduceBNe, Int.reduceLT, Int.reduceLE, Int.reduceAdd, Int.reduceSub, ↓reduceIte, Nat.reduceAdd, Nat.reduceMul, Nat.reduceSub, Nat.reduceLT, Nat.reduceLeDiff, Nat.reduceEqDiff, decide_true, decide_false, fieldAddrF, undE, tupE, W3]
      refine CallK_use' (off27 hRa f t) fun v s3 ⟨q1, q2⟩ => ?_
      subst q1; subst q2
      simp only [↓RP, RS, Int.reduceBEq, Int.reduceBNe, Int.reduceLT, Int.reduceLE, Int.reduceAdd, Int.reduceSub, ↓reduceIte, Nat.reduceAdd, Nat.reduceMul, Nat.reduceSub, Nat.reduceLT, Nat.reduceLeDiff, Nat.reduceEqDiff, decide_true, decide_false, fieldAddrF, undE, tupE, W3, eb]
      refine CallK_use (total28R tN hT') fun v s3 ⟨q1, q2⟩ => ⟨by subst q1; subst q2; simp only [chkC, wantC, ↓RP, RS, Int.reduceBEq, Int.reduceBNe, Int.reduceLT, Int.reduceLE, Int.reduceAdd, Int.reduceSub, ↓reduceIte, Nat.reduceAdd, Nat.reduceMul, Nat.reduceSub, Nat.reduceLT, Nat.reduceLeDiff, Nat.reduceEqDiff, decide_true, decide_false, fieldAddrF, undE, tupE, W3], ?_⟩
      subst q1; subst q2
      simp only [↓RP, RS, Int.reduceBEq, Int.reduceBNe, Int.reduceLT, Int.reduceLE, Int.reduceAdd, Int.reduceSub, ↓reduceIte, Nat.reduceAdd, Nat.reduceMul, Nat.reduceSub, Nat.reduceLT, Nat.reduceLeDiff, Nat.reduceEqDiff, decide_true, decide_false, fieldAddrF, undE, tupE, W3]
      refine CallK_use' (total29 hRa) fun v s3 ⟨q1, q2⟩ => ?_
      subst q1; subst q2
      simp only [↓RP, RS, Int.reduceBEq, Int.reduceBNe, Int.reduceLT, Int.reduceLE, Int.reduceAdd, Int.reduceSub, ↓reduceIte, Nat.reduceAdd, Nat.reduceMul, Nat.reduceSub, Nat.reduceLT, Nat.reduceLeDiff, Nat.reduceEqDiff, decide_true, decide_false, fieldAddrF, undE, tupE, W3, en, w1]
      exact seqK_n ⟨(k + 1, _), ⟨by omega, _, _, _, _, _, tN, gy', hry, hT'⟩, by omega, by kernel_rfl, rfl⟩
    · refine CallK_use' (send13 cN ok.msg) fun v0 s1 ⟨q1, Q', role', n1, n2⟩ => ?_
      obtain ⟨eS, ls', eL, hT'⟩ := hT.send hk9 ok.msg hms
      rw [eS] at q1
      subst q1
      obtain ⟨n1y, n1r⟩ := n2.get cy ry
      obtain ⟨n1o, n1ro⟩ := n2.get c0 r0
      obtain ⟨n1a, n1ra⟩ := n2.get c1 r1
      obtain ⟨n1b, n1rb⟩ := n2.get c2 r2
      simp only [↓RP, RS, Int.reduceBEq, Int.reduceBNe, Int.reduceLT, Int.reduceLE, Int.reduceAdd, Int.reduceSub, ↓reduceIte, Nat.reduceAdd, Nat.reduceMul, Nat.reduceSub, Nat.reduceLT, Nat.reduceLeDiff, Nat.reduceEqDiff, decide_true, decide_false, fieldAddrF, undE, tupE, W3, ao _ n1o, l4 _ n1o]
      refine CallK_use' (send14v hRf ok.msg.len ok.msg.one ok.msg.from_ ok.msg.to_ n1y) fun v0 τ ⟨q1, q2⟩ => ?_
      subst q1
      rw [eL] at q2
      have hNt : NetAt τ 1 n (if Am.okS n A fm tm then putS A fm.toNat tm.toNat (.agg m) else A) L R Q' role' := by rw [q2]; exact n1.keep (Keeps.set (S := fun p => p = y) _ _ rfl) (fun p e => by rw [e]; exact n1r)
      have gA : τ[o + 1]? = some (.box z42) := by rw [q2]; exact set_get n1a (by omega) _
      have gB : τ[o + 2]? = some (.box z42) := by rw [q2]; exact set_get n1b (by omega) _
      have hry : role' y = .other := n1r
      have hXl : z42.length = 34 := rfl
      obtain ⟨M, hXM, hMS⟩ : ∃ M, VLe (.agg z42) (.d (.agg M)) ∧ MsgS M := ⟨zS, zS_le, zS_ok⟩
      obtain ⟨cuts', hc⟩ : ∃ c, c = cuts := ⟨_, rfl⟩
      subst hc
      have gO : τ[o]? = some (.box (cs.map .d)) := by rw [q2]; exact set_get n1o (by omega) _
      have gy' : τ[y]? = some (.box ((refL n ls' cuts').map .d)) := by rw [q2]; exact set_at n1y _
      have tN := hNt
      have X1 := load_all (P := Try.prog) (t := 42) gA (by rw [hXl]; simp only [W3]) (by simp only [W3]) (by simp only [W3]; decide)
      have X2 := load_all (P := Try.prog) (t := 42) gB (by rw [hXl]; simp only [W3]) (by simp only [W3]) (by simp only [W3]; decide)
      have t1 := l1 _ gO
      have t2 := l2 _ gO
      have at1 := ao _ gO
      have aA := alive_of gA (by simp)
      have aB := alive_of gB (by simp)
      have hRt := hT'.ref (by omega)
      have hRa := hRt.at gy'
      simp only [↓RP, RS, Int.reduceBEq, Int.reduceBNe, Int.reduceLT, Int.reduceLE, Int.reduceAdd, Int.reduceSub, ↓reduceIte, Nat.reduceAdd, Nat.reduceMul, Nat.reduceSub, Nat.reduceLT, Nat.reduceLeDiff, Nat.reduceEqDiff, decide_true, decide_false, fieldAddrF, undE, tupE, W3, eb, X1, X2, at1, aA, aB]
      refine CallK_use' (callA_le (ys := [.d (.agg M), .d (.agg M)]) ⟨_, _, rfl, hXM, _, _, rfl, hXM, rfl⟩ (same23 M hMS τ)) fun v s3 ⟨q1, q2⟩ => ?_
      subst q1; subst q2
      simp only [↓RP, RS, Int.reduceBEq, Int.reduceBNe, Int.reduceLT, Int.reduceLE, Int.reduceAdd, Int.reduceSub, ↓reduceIte, Nat.reduceAdd, Nat.reduceMul, Nat.reduceSub, Nat.reduceLT, Nat.reduceLeDiff, Nat.reduceEqDiff, decide_true, decide_false, fieldAddrF, undE, tupE, W3, t1, t2, at1]
      refine CallK_use (size24R tN hT' f t) fun v s3 ⟨q1, q2⟩ => ⟨by subst q1; subst q2; simp only [chkC, wantC, ↓RP, RS, Int.reduceBEq, Int.reduceBNe, Int.reduceLT, Int.reduceLE, Int.reduceAdd, Int.reduceSub, ↓reduceIte, Nat.reduceAdd, Nat.reduceMul, Nat.reduceSub, Nat.reduceLT, Nat.reduceLeDiff, Nat.reduceEqDiff, decide_true, decide_false, fieldAddrF, undE, tupE, W3, t1, t2, at1], ?_⟩
      subst q1; subst q2
      simp only [↓RP, RS, Int.reduceBEq, Int.reduceBNe, Int.reduceLT, Int.reduceLE, Int.reduceAdd, Int.reduceSub, ↓reduceIte, Nat.reduceAdd, Nat.reduceMul, Nat.reduceSub, Nat.reduceLT, Nat.reduceLeDiff, Nat.reduceEqDiff, decide_true, decide_false, fieldAddrF, undE, tupE, W3]
      refine CallK_use' (len25 hRa f t) fun v s3 ⟨q1, q2⟩ => ?_
      subst q1; subst q2
      simp only [↓RP, RS, Int.reduceBEq, Int.reduceBNe, Int.reduceLT, Int.reduceLE, Int.reduceAdd, Int.reduceSub, ↓reduceIte, Nat.reduceAdd, Nat.reduceMul, Nat.reduceSub, Nat.reduceLT, Nat.reduceLeDiff, Nat.reduceEqDiff, decide_true, decide_false, fieldAddrF, undE, tupE, W3, en, t1, t2, at1]
      refine CallK_use (off26R tN hT' f t) fun v s3 ⟨q1, q2⟩ => ⟨by subst q1; subst q2; simp only [chkC, wantC, ↓RP, RS, Int.reduceBEq, Int.reduceBNe, Int.reduceLT, Int.reduceLE, Int.reduceAdd, Int.reduceSub, ↓reduceIte, Nat.reduceAdd, Nat.reduceMul, Nat.reduceSub, Nat.reduceLT, Nat.reduceLeDiff, Nat.reduceEqDiff, decide_true, decide_false, fieldAddrF, undE, tupE, W3, t1, t2, at1], ?_⟩
      subst q1; subst q2
      simp only [↓RP, RS, Int.reduceBEq, Int.reduceBNe, Int.reduceLT, Int.reduceLE, Int.reduceAdd, Int.reduceSub, ↓reduceIte, Nat.reduceAdd, Nat.reduceMul, Nat.reduceSub, Nat.reduceLT, Nat.reduceLeDiff, Nat.reduceEqDiff, decide_true, decide_false, fieldAddrF, undE, tupE, W3]
      refine CallK_use' (off27 hRa f t) fun v s3 ⟨q1, q2⟩ => ?_
      subst q1; subst q2
      simp only [↓RP, RS, Int.reduceBEq, Int.reduceBNe, Int.reduceLT, Int.reduceLE, Int.reduceAdd, Int.reduceSub, ↓reduceIte, Nat.reduceAdd, Nat.reduceMul, Nat.reduceSub, Nat.reduceLT, Nat.reduceLeDiff, Nat.reduceEqDiff, decide_true, decide_false, fieldAddrF, undE, tupE, W3, eb]
      refine CallK_use (total28R tN hT') fun v s3 ⟨q1, q2⟩ => ⟨by subst q1; subst q2; simp only [chkC, wantC, ↓RP, RS, Int.reduceBEq, Int.reduceBNe, Int.reduceLT, Int.reduceLE, Int.reduceAdd, Int.reduceSub, ↓reduceIte, Nat.reduceAdd, Nat.reduceMul, Nat.reduceSub, Nat.reduceLT, Nat.reduceLeDiff, Nat.reduceEqDiff, decide_true, decide_false, fieldAddrF, undE, tupE, W3], ?_⟩
      subst q1; subst q2
      simp only [↓RP, RS, Int.reduceBEq, Int.reduceBNe, Int.reduceLT, Int.reduceLE, Int.reduceAdd, Int.reduceSub, ↓reduceIte, Nat.reduceAdd, Nat.reduceMul, Nat.reduceSub, Nat.reduceLT, Nat.reduceLeDiff, Nat.reduceEqDiff, decide_true, decide_false, fieldAddrF, undE, tupE, W3]
      refine CallK_use' (total29 hRa) fun v s3 ⟨q1, q2⟩ => ?_
      subst q1; subst q2
      simp only [↓RP, RS, Int.reduceBEq, Int.reduceBNe, Int.reduceLT, Int.reduceLE, Int.reduceAdd, Int.reduceSub, ↓reduceIte, Nat.reduceAdd, Nat.reduceMul, Nat.reduceSub, Nat.reduceLT, Nat.reduceLeDiff, Nat.reduceEqDiff, decide_true, decide_false, fieldAddrF, undE, tupE, W3, en, w1]
      exact seqK_n ⟨(k + 1, _), ⟨by omega, _, _, _, _, _, tN, gy', hry, hT'⟩, by omega, by kernel_rfl, rfl⟩
    · refine CallK_use' (send13 cN ok.msg) fun v0 s1 ⟨q1, Q', role', n1, n2⟩ => ?_
      obtain ⟨eS, ls', eL, hT'⟩ := hT.send hk9 ok.msg hms
      rw [eS] at q1
      subst q1
      obtain ⟨n1y, n1r⟩ := n2.get cy ry
      obtain ⟨n1o, n1ro⟩ := n2.get c0 r0
      obtain ⟨n1a, n1ra⟩ := n2.get c1 r1
      obtain ⟨n1b, n1rb⟩ := n2.get c2 r2
      simp only [↓RP, RS, Int.reduceBEq, Int.reduceBNe, Int.reduceLT, Int.reduceLE, Int.reduceAdd, Int.reduceSub, ↓reduceIte, Nat.reduceAdd, Nat.reduceMul, Nat.reduceSub, Nat.reduceLT, Nat.reduceLeDiff, Nat.reduceEqDiff, decide_true, decide_false, fieldAddrF, undE, tupE, W3, ao _ n1o, l4 _ n1o]
      refine CallK_use' (send14v hRf ok.msg.len ok.msg.one ok.msg.from_ ok.msg.to_ n1y) fun v0 τ ⟨q1, q2⟩ => ?_
      subst q1
      rw [eL] at q2
      have hNt : NetAt τ 1 n (if Am.okS n A fm tm then putS A fm.toNat tm.toNat (.agg m) else A) L R Q' role' := by rw [q2]; exact n1.keep (Keeps.set (S := fun p => p = y) _ _ rfl) (fun p e => by rw [e]; exact n1r)
      have gA : τ[o + 1]? = some (.box z42) := by rw [q2]; exact set_get n1a (by omega) _
      have gB : τ[o + 2]? = some (.box z42) := by rw [q2]; exact set_get n1b (by omega) _
      have hry : role' y = .other := n1r
      have hXl : z42.length = 34 := rfl
      obtain ⟨M, hXM, hMS⟩ : ∃ M, VLe (.agg z42) (.d (.agg M)) ∧ MsgS M := ⟨zS, zS_le, zS_ok⟩
      obtain ⟨cuts', hc⟩ : ∃ c, c = cuts := ⟨_, rfl⟩
      subst hc
      have gO : τ[o]? = some (.box (cs.map .d)) := by rw [q2]; exact set_get n1o (by omega) _
      have gy' : τ[y]? = some (.box ((refL n ls' cuts').map .d)) := by rw [q2]; exact set_at n1y _
      have tN := hNt
      have X1 := load_all (P := Try.prog) (t := 42) gA (by rw [hXl]; simp only [W3]) (by simp only [W3]) (by simp only [W3]; decide)
      have X2 := load_all (P := Try.prog) (t := 42) gB (by rw [hXl]; simp only [W3]) (by simp only [W3]) (by simp only [W3]; decide)
      have t1 := l1 _ gO
      have t2 := l2 _ gO
      have at1 := ao _ gO
      have aA := alive_of gA (by simp)
      have aB := alive_of gB (by simp)
      have hRt := hT'.ref (by omega)
      have hRa := hRt.at gy'
      simp only [↓RP, RS, Int.reduceBEq, Int.reduceBNe, Int.reduceLT, Int.reduceLE, Int.reduceAdd, Int.reduceSub, ↓reduceIte, Nat.reduceAdd, Nat.reduceMul, Nat.reduceSub, Nat.reduceLT, Nat.reduceLeDiff, Nat.reduceEqDiff, decide_true, decide_false, fieldAddrF, undE, tupE, W3, eb, X1, X2, at1, aA, aB]
      refine CallK_use' (callA_le (ys := [.d (.agg M), .d (.agg M)]) ⟨_, _, rfl, hXM, _, _, rfl, hXM, rfl⟩ (same23 M hMS τ)) fun v s3 ⟨q1, q2⟩ => ?_
      subst q1; subst q2
      simp only [↓RP, RS, Int.reduceBEq, Int.reduceBNe, Int.reduceLT, Int.reduceLE, Int.reduceAdd, Int.reduceSub, ↓reduceIte, Nat.reduceAdd, Nat.reduceMul, Nat.reduceSub, Nat.reduceLT, Nat.reduceLeDiff, Nat.reduceEqDiff, decide_true, decide_false, fieldAddrF, undE, tupE, W3, t1, t2, at1]
      refine CallK_use (size24R tN hT' f t) fun v s3 ⟨q1, q2⟩ => ⟨by subst q1; subst q2; simp only [chkC, wantC, ↓RP, RS, Int.reduceBEq, Int.reduceBNe, Int.reduceLT, Int.reduceLE, Int.reduceAdd, Int.reduceSub, ↓reduceIte, Nat.reduceAdd, Nat.reduceMul, Nat.reduceSub, Nat.reduceLT, Nat.reduceLeDiff, Nat.reduceEqDiff, decide_true, decide_false, fieldAddrF, undE, tupE, W3, t1, t2, at1], ?_⟩
      subst q1; subst q2
      simp only [↓RP, RS, Int.reduceBEq, Int.reduceBNe, Int.reduceLT, Int.reduceLE, Int.reduceAdd, Int.reduceSub, ↓reduceIte, Nat.reduceAdd, Nat.reduceMul, Nat.reduceSub, Nat.reduceLT, Nat.reduceLeDiff, Nat.reduceEqDiff, decide_true, decide_false, fieldAddrF, undE, tupE, W3]
      refine CallK_use' (len25 hRa f t) fun v s3 ⟨q1, q2⟩ => ?_
      subst q1; subst q2
      simp only [↓RP, RS, Int.reduceBEq, Int.reduceBNe, Int.reduceLT, Int.reduceLE, Int.reduceAdd, Int.reduceSub, ↓reduceIte, Nat.reduceAdd, Nat.reduceMul, Nat.reduceSub, Nat.reduceLT, Nat.reduceLeDiff, Nat.reduceEqDiff, decide_true, decide_false, fieldAddrF, undE, tupE, W3, en, t1, t2, at1]
      refine CallK_use (off26R tN hT' f t) fun v s3 ⟨q1, q2⟩ => ⟨by subst q1; subst q2; simp only [chkC, wantC, ↓RP, RS, Int.reduceBEq, Int.reduceBNe, Int.reduceLT, Int.reduceLE, Int.reduceAdd, Int.reduceSub, ↓reduceIte, Nat.reduceAdd, Nat.reduceMul, Nat.reduceSub, Nat.reduceLT, Nat.reduceLeDiff, Nat.reduceEqDiff, decide_true, decide_false, fieldAddrF, undE, tupE, W3, t1, t2, at1], ?_⟩
      subst q1; subst q2
      simp only [↓RP, RS, Int.reduceBEq, Int.reduceBNe, Int.reduceLT, Int.reduceLE, Int.reduceAdd, Int.reduceSub, ↓reduceIte, Nat.reduceAdd, Nat.reduceMul, Nat.reduceSub, Nat.reduceLT, Nat.reduceLeDiff, Nat.reduceEqDiff, decide_true, decide_false, fieldAddrF, undE, tupE, W3]
      refine CallK_use' (off27 hRa f t) fun v s3 ⟨q1, q2⟩ => ?_
      subst q1; subst q2
      simp only [↓RP, RS, Int.reduceBEq, Int.reduceBNe, Int.reduceLT, Int.reduceLE, Int.reduceAdd, Int.reduceSub, ↓reduceIte, Nat.reduceAdd, Nat.reduceMul, Nat.reduceSub, Nat.reduceLT, Nat.reduceLeDiff, Nat.reduceEqDiff, decide_true, decide_false, fieldAddrF, undE, tupE, W3, eb]
      refine CallK_use (total28R tN hT') fun v s3 ⟨q1, q2⟩ => ⟨by subst q1; subst q2; simp only [chkC, wantC, ↓RP, RS, Int.reduceBEq, Int.reduceBNe, Int.reduceLT, Int.reduceLE, Int.reduceAdd, Int.reduceSub, ↓reduceIte, Nat.reduceAdd, Nat.reduceMul, Nat.reduceSub, Nat.reduceLT, Nat.reduceLeDiff, Nat.reduceEqDiff, decide_true, decide_false, fieldAddrF, undE, tupE, W3], ?_⟩
      subst q1; subst q2
      simp only [↓RP, RS, Int.reduceBEq, Int.reduceBNe, Int.reduceLT, Int.reduceLE, Int.reduceAdd, Int.reduceSub, ↓reduceIte, Nat.reduceAdd, Nat.reduceMul, Nat.reduceSub, Nat.reduceLT, Nat.reduceLeDiff, Nat.reduceEqDiff, decide_true, decide_false, fieldAddrF, undE, tupE, W3]
      refine CallK_use' (total29 hRa) fun v s3 ⟨q1, q2⟩ => ?_
      subst q1; subst q2
      simp only [↓RP, RS, Int.reduceBEq, Int.reduceBNe, Int.reduceLT, Int.reduceLE, Int.reduceAdd, Int.reduceSub, ↓reduceIte, Nat.reduceAdd, Nat.reduceMul, Nat.reduceSub, Nat.reduceLT, Nat.reduceLeDiff, Nat.reduceEqDiff, decide_true, decide_false, fieldAddrF, undE, tupE, W3, en, w1]
      exact seqK_n ⟨(k + 1, _), ⟨by omega, _, _, _, _, _, tN, gy', hry, hT'⟩, by omega, by kernel_rfl, rfl⟩
    · refine CallK_use' (take15 cN f t a) fun v0 s1 ⟨q1, Q', role', n1, n2⟩ => ?_
      obtain ⟨n1y, n1r⟩ := n2.get cy ry
      obtain ⟨n1o, n1ro⟩ := n2.get c0 r0
      obtain ⟨n1a, n1ra⟩ := n2.get c1 r1
      obtain ⟨n1b, n1rb⟩ := n2.get c2 r2
      cases hat : atR f t ls a with
      | none =>
      have hno := hT.rl.at_none hat
      simp only [hno, if_false, decide_false, msgT] at q1 n1
      subst q1
      have st1 : storeF Try.prog 42 s1 (.ptr (o + 1) 0 0) (.d noMsg) = some (s1.set (o + 1) (.box z42)) := by
        have := store_aggd (P := Try.prog) (t := 42) (k := 0) (xs := zMsg) n1a (by rfl) (by decide) (by simp [W3]; rfl) (by simp [W3])
        rw [setAt_all (by rfl)] at this; exact this
      have a1 := alive_of n1a (by simp)
      obtain ⟨s2, hs2⟩ : ∃ s2, s2 = s1.set (o + 1) (.box z42) := ⟨_, rfl⟩
      rw [← hs2] at st1
      have m0 : s2[o]? = some (.box (cs.map .d)) := by rw [hs2]; exact set_get n1o (by omega) _
      have my : s2[y]? = some (.box ((refL n ls cuts).map .d)) := by rw [hs2]; exact set_get n1y (by omega) _
      have m1 : s2[o + 1]? = some (.box z42) := by rw [hs2]; exact set_at n1a _
      have m2 : s2[o + 2]? = some (.box z42) := by rw [hs2]; exact set_get n1b (by omega) _
      have n3 : NetAt s2 1 n A L R Q' role' := by rw [hs2]; exact n1.keep (Keeps.set (S := fun p => p = o + 1) _ _ rfl) (fun p e => by rw [e]; exact n1ra)
      simp only [↓RP, RS, Int.reduceBEq, Int.reduceBNe, Int.reduceLT, Int.reduceLE, Int.reduceAdd, Int.reduceSub, ↓reduceIte, Nat.reduceAdd, Nat.reduceMul, Nat.reduceSub, Nat.reduceLT, Nat.reduceLeDiff, Nat.reduceEqDiff, decide_true, decide_false, fieldAddrF, undE, tupE, W3, st1, a1, ao _ m0, l1 _ m0, l2 _ m0, l3 _ m0]
      refine CallK_use' (take16v hRf f t a my) fun v0 s3 q => ?_
      simp only [hat] at q
      obtain ⟨q1, q2⟩ := q
      subst q1
      have k0 : s3[o]? = some (.box (cs.map .d)) := by rw [q2]; exact set_get m0 (by omega) _
      have ky : s3[y]? = some (.box ((refL n ls cuts).map .d)) := by rw [q2]; exact set_at my _
      have k1 : s3[o + 1]? = some (.box z42) := by rw [q2]; exact set_get m1 (by omega) _
      have k2 : s3[o + 2]? = some (.box z42) := by rw [q2]; exact set_get m2 (by omega) _
      have n4 : NetAt s3 1 n A L R Q' role' := by rw [q2]; exact n3.keep (Keeps.set (S := fun p => p = y) _ _ rfl) (fun p e => by rw [e]; exact n1r)
      have st2 : storeF Try.prog 42 s3 (.ptr (o + 2) 0 0) (.d noMsg) = some (s3.set (o + 2) (.box z42)) := by
        have := store_aggd (P := Try.prog) (t := 42) (k := 0) (xs := zMsg) k2 (by rfl) (by decide) (by simp [W3]; rfl) (by simp [W3])
        rw [setAt_all (by rfl)] at this; exact this
      have a2 := alive_of k2 (by simp)
      obtain ⟨τ, hτ⟩ : ∃ τ, τ = s3.set (o + 2) (.box z42) := ⟨_, rfl⟩
      rw [← hτ] at st2
      simp only [↓RP, RS, Int.reduceBEq, Int.reduceBNe, Int.reduceLT, Int.reduceLE, Int.reduceAdd, Int.reduceSub, ↓reduceIte, Nat.reduceAdd, Nat.reduceMul, Nat.reduceSub, Nat.reduceLT, Nat.reduceLeDiff, Nat.reduceEqDiff, decide_true, decide_false, fieldAddrF, undE, tupE, W3, st2, a2]
      have hNt : NetAt τ 1 n A L R Q' role' := by rw [hτ]; exact n4.keep (Keeps.set (S := fun p => p = o + 2) _ _ rfl) (fun p e => by rw [e]; exact n1rb)
      have gA : τ[o + 1]? = some (.box z42) := by rw [hτ]; exact set_get k1 (by omega) _
      have gB : τ[o + 2]? = some (.box z42) := by rw [hτ]; exact set_at k2 _
      have hry : role' y = .other := n1r
      have hXl : z42.length = 34 := rfl
      obtain ⟨M, hXM, hMS⟩ : ∃ M, VLe (.agg z42) (.d (.agg M)) ∧ MsgS M := ⟨zS, zS_le, zS_ok⟩
      obtain ⟨cuts', hc⟩ : ∃ c, c = cuts := ⟨_, rfl⟩
      subst hc
      obtain ⟨ls', hc⟩ : ∃ c, c = ls := ⟨_, rfl⟩
      subst hc
      have hT' := hT.more
      have gO : τ[o]? = some (.box (cs.map .d)) := by rw [hτ]; exact set_get k0 (by omega) _
      have gy' : τ[y]? = some (.box ((refL n ls' cuts').map .d)) := by rw [hτ]; exact set_get ky (by omega) _
      have tN := hNt
      have X1 := load_all (P := Try.prog) (t := 42) gA (by rw [hXl]; simp only [W3]) (by simp only [W3]) (by simp only [W3]; decide)
      have X2 := load_all (P := Try.prog) (t := 42) gB (by rw [hXl]; simp only [W3]) (by simp only [W3]) (by simp only [W3]; decide)
      have t1 := l1 _ gO
      have t2 := l2 _ gO
      have at1 := ao _ gO
      have aA := alive_of gA (by simp)
      have aB := alive_of gB (by simp)
      have hRt := hT'.ref (by omega)
      have hRa := hRt.at gy'
      simp only [↓RP, RS, Int.reduceBEq, Int.reduceBNe, Int.reduceLT, Int.reduceLE, Int.reduceAdd, Int.reduceSub, ↓reduceIte, Nat.reduceAdd, Nat.reduceMul, Nat.reduceSub, Nat.reduceLT, Nat.reduceLeDiff, Nat.reduceEqDiff, decide_true, decide_false, fieldAddrF, undE, tupE, W3, eb, X1, X2, at1, aA, aB]
      refine CallK_use' (callA_le (ys := [.d (.agg M), .d (.agg M)]) ⟨_, _, rfl, hXM, _, _, rfl, hXM, rfl⟩ (same23 M hMS τ)) fun v s3 ⟨q1, q2⟩ => ?_
      subst q1; subst q2
      simp only [↓RP, RS, Int.reduceBEq, Int.reduceBNe, Int.reduceLT, Int.reduceLE, Int.reduceAdd, Int.reduceSub, ↓reduceIte, Nat.reduceAdd, Nat.reduceMul, Nat.reduceSub, Nat.reduceLT, Nat.reduceLeDiff, Nat.reduceEqDiff, decide_true, decide_false, fieldAddrF, undE, tupE, W3, t1, t2, at1]
      refine CallK_use (size24R tN hT' f t) fun v s3 ⟨q1, q2⟩ => ⟨by subst q1; subst q2; simp only [chkC, wantC, ↓RP, RS, Int.reduceBEq, Int.reduceBNe, Int.reduceLT, Int.reduceLE, Int.reduceAdd, Int.reduceSub, ↓reduceIte, Nat.reduceAdd, Nat.reduceMul, Nat.reduceSub, Nat.reduceLT, Nat.reduceLeDiff, Nat.reduceEqDiff, decide_true, decide_false, fieldAddrF, undE, tupE, W3, t1, t2, at1], ?_⟩
      subst q1; subst q2
      simp only [↓RP, RS, Int.reduceBEq, Int.reduceBNe, Int.reduceLT, Int.reduceLE, Int.reduceAdd, Int.reduceSub, ↓reduceIte, Nat.reduceAdd, Nat.reduceMul, Nat.reduceSub, Nat.reduceLT, Nat.reduceLeDiff, Nat.reduceEqDiff, decide_true, decide_false, fieldAddrF, undE, tupE, W3]
      refine CallK_use' (len25 hRa f t) fun v s3 ⟨q1, q2⟩ => ?_
      subst q1; subst q2
      simp only [↓RP, RS, Int.reduceBEq, Int.reduceBNe, Int.reduceLT, Int.reduceLE, Int.reduceAdd, Int.reduceSub, ↓reduceIte, Nat.reduceAdd, Nat.reduceMul, Nat.reduceSub, Nat.reduceLT, Nat.reduceLeDiff, Nat.reduceEqDiff, decide_true, decide_false, fieldAddrF, undE, tupE, W3, en, t1, t2, at1]
      refine CallK_use (off26R tN hT' f t) fun v s3 ⟨q1, q2⟩ => ⟨by subst q1; subst q2; simp only [chkC, wantC, ↓RP, RS, Int.reduceBEq, Int.reduceBNe, Int.reduceLT, Int.reduceLE, Int.reduceAdd, Int.reduceSub, ↓reduceIte, Nat.reduceAdd, Nat.reduceMul, Nat.reduceSub, Nat.reduceLT, Nat.reduceLeDiff, Nat.reduceEqDiff, decide_true, decide_false, fieldAddrF, undE, tupE, W3, t1, t2, at1], ?_⟩
      subst q1; subst q2
      simp only [↓RP, RS, Int.reduceBEq, Int.reduceBNe, Int.reduceLT, Int.reduceLE, Int.reduceAdd, Int.reduceSub, ↓reduceIte, Nat.reduceAdd, Nat.reduceMul, Nat.reduceSub, Nat.reduceLT, Nat.reduceLeDiff, Nat.reduceEqDiff, decide_true, decide_false, fieldAddrF, undE, tupE, W3]
      refine CallK_use' (off27 hRa f t) fun v s3 ⟨q1, q2⟩ => ?_
      subst q1; subst q2
      simp only [↓RP, RS, Int.reduceBEq, Int.reduceBNe, Int.reduceLT, Int.reduceLE, Int.reduceAdd, Int.reduceSub, ↓reduceIte, Nat.reduceAdd, Nat.reduceMul, Nat.reduceSub, Nat.reduceLT, Nat.reduceLeDiff, Nat.reduceEqDiff, decide_true, decide_false, fieldAddrF, undE, tupE, W3, eb]
      refine CallK_use (total28R tN hT') fun v s3 ⟨q1, q2⟩ => ⟨by subst q1; subst q2; simp only [chkC, wantC, ↓RP, RS, Int.reduceBEq, Int.reduceBNe, Int.reduceLT, Int.reduceLE, Int.reduceAdd, Int.reduceSub, ↓reduceIte, Nat.reduceAdd, Nat.reduceMul, Nat.reduceSub, Nat.reduceLT, Nat.reduceLeDiff, Nat.reduceEqDiff, decide_true, decide_false, fieldAddrF, undE, tupE, W3], ?_⟩
      subst q1; subst q2
      simp only [↓RP, RS, Int.reduceBEq, Int.reduceBNe, Int.reduceLT, Int.reduceLE, Int.reduceAdd, Int.reduceSub, ↓reduceIte, Nat.reduceAdd, Nat.reduceMul, Nat.reduceSub, Nat.reduceLT, Nat.reduceLeDiff, Nat.reduceEqDiff, decide_true, decide_false, fieldAddrF, undE, tupE, W3]
      refine CallK_use' (total29 hRa) fun v s3 ⟨q1, q2⟩ => ?_
      subst q1; subst q2
      simp only [↓RP, RS, Int.reduceBEq, Int.reduceBNe, Int.reduceLT, Int.reduceLE, Int.reduceAdd, Int.reduceSub, ↓reduceIte, Nat.reduceAdd, Nat.reduceMul, Nat.reduceSub, Nat.reduceLT, Nat.reduceLeDiff, Nat.reduceEqDiff, decide_true, decide_false, fieldAddrF, undE, tupE, W3, en, w1]
      exact seqK_n ⟨(k + 1, _), ⟨by omega, _, _, _, _, _, tN, gy', hry, hT'⟩, by omega, by kernel_rfl, rfl⟩
      | some j =>
      obtain ⟨hyes, hmsg, _⟩ := hT.rl.at_some hat
      obtain ⟨⟨ms', f', t', he', h34, hone, _, _⟩, ms, he2, hMS⟩ := hT.got hat
      rw [he'] at he2
      obtain rfl : ms' = ms := by simpa using he2
      simp only [hyes, if_true, decide_true, hmsg, he'] at q1 n1
      subst q1
      have st1 : storeF Try.prog 42 s1 (.ptr (o + 1) 0 0) (.d (.agg ms')) = some (s1.set (o + 1) (.box (ms'.map .d))) := by
        have := store_aggd (P := Try.prog) (t := 42) (k := 0) (xs := ms') n1a hone (by rw [h34]; decide) (by rw [h34]; simp only [W3]) (by simp only [W3]; decide)
        rw [setAt_all (by rw [List.length_map, h34]; rfl)] at this; exact this
      have a1 := alive_of n1a (by simp)
      obtain ⟨s2, hs2⟩ : ∃ s2, s2 = s1.set (o + 1) (.box (ms'.map .d)) := ⟨_, rfl⟩
      rw [← hs2] at st1
      have m0 : s2[o]? = some (.box (cs.map .d)) := by rw [hs2]; exact set_get n1o (by omega) _
      have my : s2[y]? = some (.box ((refL n ls cuts).map .d)) := by rw [hs2]; exact set_get n1y (by omega) _
      have m1 : s2[o + 1]? = some (.box (ms'.map .d)) := by rw [hs2]; exact set_at n1a _
      have m2 : s2[o + 2]? = some (.box z42) := by rw [hs2]; exact set_get n1b (by omega) _
      have n3 : NetAt s2 1 n (popS A f.toNat t.toNat a.toNat) L R Q' role' := by rw [hs2]; exact n1.keep (Keeps.set (S := fun p => p = o + 1) _ _ rfl) (fun p e => by rw [e]; exact n1ra)
      simp only [↓RP, RS, Int.reduceBEq, Int.reduceBNe, Int.reduceLT, Int.reduceLE, Int.reduceAdd, Int.reduceSub, ↓reduceIte, Nat.reduceAdd, Nat.reduceMul, Nat.reduceSub, Nat.reduceLT, Nat.reduceLeDiff, Nat.reduceEqDiff, decide_true, decide_false, fieldAddrF, undE, tupE, W3, st1, a1, ao _ m0, l1 _ m0, l2 _ m0, l3 _ m0]
      refine CallK_use' (take16v hRf f t a my) fun v0 s3 q => ?_
      simp only [hat, he'] at q
      obtain ⟨q1, q2⟩ := q
      subst q1
      have k0 : s3[o]? = some (.box (cs.map .d)) := by rw [q2]; exact set_get m0 (by omega) _
      have ky : s3[y]? = some (.box ((refL n (ls.eraseIdx j) cuts).map .d)) := by rw [q2]; exact set_at my _
      have k1 : s3[o + 1]? = some (.box (ms'.map .d)) := by rw [q2]; exact set_get m1 (by omega) _
      have k2 : s3[o + 2]? = some (.box z42) := by rw [q2]; exact set_get m2 (by omega) _
      have n4 : NetAt s3 1 n (popS A f.toNat t.toNat a.toNat) L R Q' role' := by rw [q2]; exact n3.keep (Keeps.set (S := fun p => p = y) _ _ rfl) (fun p e => by rw [e]; exact n1r)
      have st2 : storeF Try.prog 42 s3 (.ptr (o + 2) 0 0) (.d (.agg ms')) = some (s3.set (o + 2) (.box (ms'.map .d))) := by
        have := store_aggd (P := Try.prog) (t := 42) (k := 0) (xs := ms') k2 hone (by rw [h34]; decide) (by rw [h34]; simp only [W3]) (by simp only [W3]; decide)
        rw [setAt_all (by rw [List.length_map, h34]; rfl)] at this; exact this
      have a2 := alive_of k2 (by simp)
      obtain ⟨τ, hτ⟩ : ∃ τ, τ = s3.set (o + 2) (.box (ms'.map .d)) := ⟨_, rfl⟩
      rw [← hτ] at st2
      simp only [↓RP, RS, Int.reduceBEq, Int.reduceBNe, Int.reduceLT, Int.reduceLE, Int.reduceAdd, Int.reduceSub, ↓reduceIte, Nat.reduceAdd, Nat.reduceMul, Nat.reduceSub, Nat.reduceLT, Nat.reduceLeDiff, Nat.reduceEqDiff, decide_true, decide_false, fieldAddrF, undE, tupE, W3, st2, a2]
      have hNt : NetAt τ 1 n (popS A f.toNat t.toNat a.toNat) L R Q' role' := by rw [hτ]; exact n4.keep (Keeps.set (S := fun p => p = o + 2) _ _ rfl) (fun p e => by rw [e]; exact n1rb)
      have gA : τ[o + 1]? = some (.box (ms'.map .d)) := by rw [hτ]; exact set_get k1 (by omega) _
      have gB : τ[o + 2]? = some (.box (ms'.map .d)) := by rw [hτ]; exact set_at k2 _
      have hry : role' y = .other := n1r
      have hXl : (ms'.map V.d).length = 34 := by rw [List.length_map, h34]
      obtain ⟨M, hXM, hMS⟩ : ∃ M, VLe (.agg (ms'.map .d)) (.d (.agg M)) ∧ MsgS M := ⟨ms', VLe.agg ms', hMS⟩
      obtain ⟨cuts', hc⟩ : ∃ c, c = cuts := ⟨_, rfl⟩
      subst hc
      obtain ⟨ls', hc⟩ : ∃ c, c = ls.eraseIdx j := ⟨_, rfl⟩
      have hT' := hT.pop hat
      rw [← hc] at ky hT'
      have gO : τ[o]? = some (.box (cs.map .d)) := by rw [hτ]; exact set_get k0 (by omega) _
      have gy' : τ[y]? = some (.box ((refL n ls' cuts').map .d)) := by rw [hτ]; exact set_get ky (by omega) _
      have tN := hNt
      have X1 := load_all (P := Try.prog) (t := 42) gA (by rw [hXl]; simp only [W3]) (by simp only [W3]) (by simp only [W3]; decide)
      have X2 := load_all (P := Try.prog) (t := 42) gB (by rw [hXl]; simp only [W3]) (by simp only [W3]) (by simp only [W3]; decide)
      have t1 := l1 _ gO
      have t2 := l2 _ gO
      have at1 := ao _ gO
      have aA := alive_of gA (by simp)
      have aB := alive_of gB (by simp)
      have hRt := hT'.ref (by omega)
      have hRa := hRt.at gy'
      simp only [↓RP, RS, Int.reduceBEq, Int.reduceBNe, Int.reduceLT, Int.reduceLE, Int.reduceAdd, Int.reduceSub, ↓reduceIte, Nat.reduceAdd, Nat.reduceMul, Nat.reduceSub, Nat.reduceLT, Nat.reduceLeDiff, Nat.reduceEqDiff, decide_true, decide_false, fieldAddrF, undE, tupE, W3, eb, X1, X2, at1, aA, aB]
      refine CallK_use' (callA_le (ys := [.d (.agg M), .d (.agg M)]) ⟨_, _, rfl, hXM, _, _, rfl, hXM, rfl⟩ (same23 M hMS τ)) fun v s3 ⟨q1, q2⟩ => ?_
      subst q1; subst q2
      simp only [↓RP, RS, Int.reduceBEq, Int.reduceBNe, Int.reduceLT, Int.reduceLE, Int.reduceAdd, Int.reduceSub, ↓reduceIte, Nat.reduceAdd, Nat.reduceMul, Nat.reduceSub, Nat.reduceLT, Nat.reduceLeDiff, Nat.reduceEqDiff, decide_true, decide_false, fieldAddrF, undE, tupE, W3, t1, t2, at1]
      refine CallK_use (size24R tN hT' f t) fun v s3 ⟨q1, q2⟩ => ⟨by subst q1; subst q2; simp only [chkC, wantC, ↓RP, RS, Int.reduceBEq, Int.reduceBNe, Int.reduceLT, Int.reduceLE, Int.reduceAdd, Int.reduceSub, ↓reduceIte, Nat.reduceAdd, Nat.reduceMul, Nat.reduceSub, Nat.reduceLT, Nat.reduceLeDiff, Nat.reduceEqDiff, decide_true, decide_false, fieldAddrF, undE, tupE, W3, t1, t2, at1], ?_⟩
      subst q1; subst q2
      simp only [↓RP, RS, Int.reduceBEq, Int.reduceBNe, Int.reduceLT, Int.reduceLE, Int.reduceAdd, Int.reduceSub, ↓reduceIte, Nat.reduceAdd, Nat.reduceMul, Nat.reduceSub, Nat.reduceLT, Nat.reduceLeDiff, Nat.reduceEqDiff, decide_true, decide_false, fieldAddrF, undE, tupE, W3]
      refine CallK_use' (len25 hRa f t) fun v s3 ⟨q1, q2⟩ => ?_
      subst q1; subst q2
      simp only [↓RP, RS, Int.reduceBEq, Int.reduceBNe, Int.reduceLT, Int.reduceLE, Int.reduceAdd, Int.reduceSub, ↓reduceIte, Nat.reduceAdd, Nat.reduceMul, Nat.reduceSub, Nat.reduceLT, Nat.reduceLeDiff, Nat.reduceEqDiff, decide_true, decide_false, fieldAddrF, undE, tupE, W3, en, t1, t2, at1]
      refine CallK_use (off26R tN hT' f t) fun v s3 ⟨q1, q2⟩ => ⟨by subst q1; subst q2; simp only [chkC, wantC, ↓RP, RS, Int.reduceBEq, Int.reduceBNe, Int.reduceLT, Int.reduceLE, Int.reduceAdd, Int.reduceSub, ↓reduceIte, Nat.reduceAdd, Nat.reduceMul, Nat.reduceSub, Nat.reduceLT, Nat.reduceLeDiff, Nat.reduceEqDiff, decide_true, decide_false, fieldAddrF, undE, tupE, W3, t1, t2, at1], ?_⟩
      subst q1; subst q2
      simp only [↓RP, RS, Int.reduceBEq, Int.reduceBNe, Int.reduceLT, Int.reduceLE, Int.reduceAdd, Int.reduceSub, ↓reduceIte, Nat.reduceAdd, Nat.reduceMul, Nat.reduceSub, Nat.reduceLT, Nat.reduceLeDiff, Nat.reduceEqDiff, decide_true, decide_false, fieldAddrF, undE, tupE, W3]
      refine CallK_use' (off27 hRa f t) fun v s3 ⟨q1, q2⟩ => ?_
      subst q1; subst q2
      simp only [↓RP, RS, Int.reduceBEq, Int.reduceBNe, Int.reduceLT, Int.reduceLE, Int.reduceAdd, Int.reduceSub, ↓reduceIte, Nat.reduceAdd, Nat.reduceMul, Nat.reduceSub, Nat.reduceLT, Nat.reduceLeDiff, Nat.reduceEqDiff, decide_true, decide_false, fieldAddrF, undE, tupE, W3, eb]
      refine CallK_use (total28R tN hT') fun v s3 ⟨q1, q2⟩ => ⟨by subst q1; subst q2; simp only [chkC, wantC, ↓RP, RS, Int.reduceBEq, Int.reduceBNe, Int.reduceLT, Int.reduceLE, Int.reduceAdd, Int.reduceSub, ↓reduceIte, Nat.reduceAdd, Nat.reduceMul, Nat.reduceSub, Nat.reduceLT, Nat.reduceLeDiff, Nat.reduceEqDiff, decide_true, decide_false, fieldAddrF, undE, tupE, W3], ?_⟩
      subst q1; subst q2
      simp only [↓RP, RS, Int.reduceBEq, Int.reduceBNe, Int.reduceLT, Int.reduceLE, Int.reduceAdd, Int.reduceSub, ↓reduceIte, Nat.reduceAdd, Nat.reduceMul, Nat.reduceSub, Nat.reduceLT, Nat.reduceLeDiff, Nat.reduceEqDiff, decide_true, decide_false, fieldAddrF, undE, tupE, W3]
      refine CallK_use' (total29 hRa) fun v s3 ⟨q1, q2⟩ => ?_
      subst q1; subst q2
      simp only [↓RP, RS, Int.reduceBEq, Int.reduceBNe, Int.reduceLT, Int.reduceLE, Int.reduceAdd, Int.reduceSub, ↓reduceIte, Nat.reduceAdd, Nat.reduceMul, Nat.reduceSub, Nat.reduceLT, Nat.reduceLeDiff, Nat.reduceEqDiff, decide_true, decide_false, fieldAddrF, undE, tupE, W3, en, w1]
      exact seqK_n ⟨(k + 1, _), ⟨by omega, _, _, _, _, _, tN, gy', hry, hT'⟩, by omega, by kernel_rfl, rfl⟩
    · refine CallK_use' (lose17 cN f t a) fun v0 s1 ⟨q1, Q', role', n1, n2⟩ => ?_
      obtain ⟨n1y, n1r⟩ := n2.get cy ry
      obtain ⟨n1o, n1ro⟩ := n2.get c0 r0
      obtain ⟨n1a, n1ra⟩ := n2.get c1 r1
      obtain ⟨n1b, n1rb⟩ := n2.get c2 r2
      obtain ⟨ls', b, hb1, hb2, hT'⟩ : ∃ ls' b, v0 = .d (.bool b) ∧ (match atR f t ls a with | some k => b = true ∧ refL n ls' cuts = refL n (ls.eraseIdx k) cuts | none => b = false ∧ refL n ls' cuts = refL n ls cuts) ∧ ∃ A', NetAt s1 1 n A' L R Q' role' ∧ Tl n (k + 1) A' ls' cuts := by
        cases hat : atR f t ls a with
        | none =>
          have hno := hT.rl.at_none hat
          simp only [hno, if_false, decide_false] at q1 n1
          exact ⟨ls, false, q1, ⟨rfl, rfl⟩, A, n1, hT.more⟩
        | some j =>
          have hyes := (hT.rl.at_some hat).1
          have hT2 := hT.pop hat
          simp only [hyes, if_true, decide_true] at q1 n1
          exact ⟨_, true, q1, ⟨rfl, rfl⟩, _, n1, hT2⟩
      obtain ⟨A', n1, hT'⟩ := hT'
      subst hb1
      simp only [↓RP, RS, Int.reduceBEq, Int.reduceBNe, Int.reduceLT, Int.reduceLE, Int.reduceAdd, Int.reduceSub, ↓reduceIte, Nat.reduceAdd, Nat.reduceMul, Nat.reduceSub, Nat.reduceLT, Nat.reduceLeDiff, Nat.reduceEqDiff, decide_true, decide_false, fieldAddrF, undE, tupE, W3, ao _ n1o, l1 _ n1o, l2 _ n1o, l3 _ n1o]
      refine CallK_use' (lose18v hRf f t a n1y) fun v0 τ q => ?_
      have q : v0 = .d (.bool b) ∧ τ = s1.set y (.box ((refL n ls' cuts).map .d)) := by
        cases hat : atR f t ls a <;> simp only [hat] at q hb2 <;> obtain ⟨e1, e2⟩ := hb2 <;> rw [e1, e2] <;> exact q
      obtain ⟨q1, q2⟩ := q
      subst q1
      have hNt : NetAt τ 1 n A' L R Q' role' := by rw [q2]; exact n1.keep (Keeps.set (S := fun p => p = y) _ _ rfl) (fun p e => by rw [e]; exact n1r)
      have gA : τ[o + 1]? = some (.box z42) := by rw [q2]; exact set_get n1a (by omega) _
      have gB : τ[o + 2]? = some (.box z42) := by rw [q2]; exact set_get n1b (by omega) _
      have hry : role' y = .other := n1r
      have hXl : z42.length = 34 := rfl
      obtain ⟨M, hXM, hMS⟩ : ∃ M, VLe (.agg z42) (.d (.agg M)) ∧ MsgS M := ⟨zS, zS_le, zS_ok⟩
      obtain ⟨cuts', hc⟩ : ∃ c, c = cuts := ⟨_, rfl⟩
      subst hc
      have gO : τ[o]? = some (.box (cs.map .d)) := by rw [q2]; exact set_get n1o (by omega) _
      have gy' : τ[y]? = some (.box ((refL n ls' cuts').map .d)) := by rw [q2]; exact set_at n1y _
      have tN := hNt
      have X1 := load_all (P := Try.prog) (t := 42) gA (by rw [hXl]; simp only [W3]) (by simp only [W3]) (by simp only [W3]; decide)
      have X2 := load_all (P := Try.prog) (t := 42) gB (by rw [hXl]; simp only [W3]) (by simp only [W3]) (by simp only [W3]; decide)
      have t1 := l1 _ gO
      have t2 := l2 _ gO
      have at1 := ao _ gO
      have aA := alive_of gA (by simp)
      have aB := alive_of gB (by simp)
      have hRt := hT'.ref (by omega)
      have hRa := hRt.at gy'
      simp only [↓RP, RS, Int.reduceBEq, Int.reduceBNe, Int.reduceLT, Int.reduceLE, Int.reduceAdd, Int.reduceSub, ↓reduceIte, Nat.reduceAdd, Nat.reduceMul, Nat.reduceSub, Nat.reduceLT, Nat.reduceLeDiff, Nat.reduceEqDiff, decide_true, decide_false, fieldAddrF, undE, tupE, W3, eb, X1, X2, at1, aA, aB]
      refine CallK_use' (callA_le (ys := [.d (.agg M), .d (.agg M)]) ⟨_, _, rfl, hXM, _, _, rfl, hXM, rfl⟩ (same23 M hMS τ)) fun v s3 ⟨q1, q2⟩ => ?_
      subst q1; subst q2
      simp only [↓RP, RS, Int.reduceBEq, Int.reduceBNe, Int.reduceLT, Int.reduceLE, Int.reduceAdd, Int.reduceSub, ↓reduceIte, Nat.reduceAdd, Nat.reduceMul, Nat.reduceSub, Nat.reduceLT, Nat.reduceLeDiff, Nat.reduceEqDiff, decide_true, decide_false, fieldAddrF, undE, tupE, W3, t1, t2, at1]
      refine CallK_use (size24R tN hT' f t) fun v s3 ⟨q1, q2⟩ => ⟨by subst q1; subst q2; simp only [chkC, wantC, ↓RP, RS, Int.reduceBEq, Int.reduceBNe, Int.reduceLT, Int.reduceLE, Int.reduceAdd, Int.reduceSub, ↓reduceIte, Nat.reduceAdd, Nat.reduceMul, Nat.reduceSub, Nat.reduceLT, Nat.reduceLeDiff, Nat.reduceEqDiff, decide_true, decide_false, fieldAddrF, undE, tupE, W3, t1, t2, at1], ?_⟩
      subst q1; subst q2
      simp only [↓RP, RS, Int.reduceBEq, Int.reduceBNe, Int.reduceLT, Int.reduceLE, Int.reduceAdd, Int.reduceSub, ↓reduceIte, Nat.reduceAdd, Nat.reduceMul, Nat.reduceSub, Nat.reduceLT, Nat.reduceLeDiff, Nat.reduceEqDiff, decide_true, decide_false, fieldAddrF, undE, tupE, W3]
      refine CallK_use' (len25 hRa f t) fun v s3 ⟨q1, q2⟩ => ?_
      subst q1; subst q2
      simp only [↓RP, RS, Int.reduceBEq, Int.reduceBNe, Int.reduceLT, Int.reduceLE, Int.reduceAdd, Int.reduceSub, ↓reduceIte, Nat.reduceAdd, Nat.reduceMul, Nat.reduceSub, Nat.reduceLT, Nat.reduceLeDiff, Nat.reduceEqDiff, decide_true, decide_false, fieldAddrF, undE, tupE, W3, en, t1, t2, at1]
      refine CallK_use (off26R tN hT' f t) fun v s3 ⟨q1, q2⟩ => ⟨by subst q1; subst q2; simp only [chkC, wantC, ↓RP, RS, Int.reduceBEq, Int.reduceBNe, Int.reduceLT, Int.reduceLE, Int.reduceAdd, Int.reduceSub, ↓reduceIte, Nat.reduceAdd, Nat.reduceMul, Nat.reduceSub, Nat.reduceLT, Nat.reduceLeDiff, Nat.reduceEqDiff, decide_true, decide_false, fieldAddrF, undE, tupE, W3, t1, t2, at1], ?_⟩
      subst q1; subst q2
      simp only [↓RP, RS, Int.reduceBEq, Int.reduceBNe, Int.reduceLT, Int.reduceLE, Int.reduceAdd, Int.reduceSub, ↓reduceIte, Nat.reduceAdd, Nat.reduceMul, Nat.reduceSub, Nat.reduceLT, Nat.reduceLeDiff, Nat.reduceEqDiff, decide_true, decide_false, fieldAddrF, undE, tupE, W3]
      refine CallK_use' (off27 hRa f t) fun v s3 ⟨q1, q2⟩ => ?_
      subst q1; subst q2
      simp only [↓RP, RS, Int.reduceBEq, Int.reduceBNe, Int.reduceLT, Int.reduceLE, Int.reduceAdd, Int.reduceSub, ↓reduceIte, Nat.reduceAdd, Nat.reduceMul, Nat.reduceSub, Nat.reduceLT, Nat.reduceLeDiff, Nat.reduceEqDiff, decide_true, decide_false, fieldAddrF, undE, tupE, W3, eb]
      refine CallK_use (total28R tN hT') fun v s3 ⟨q1, q2⟩ => ⟨by subst q1; subst q2; simp only [chkC, wantC, ↓RP, RS, Int.reduceBEq, Int.reduceBNe, Int.reduceLT, Int.reduceLE, Int.reduceAdd, Int.reduceSub, ↓reduceIte, Nat.reduceAdd, Nat.reduceMul, Nat.reduceSub, Nat.reduceLT, Nat.reduceLeDiff, Nat.reduceEqDiff, decide_true, decide_false, fieldAddrF, undE, tupE, W3], ?_⟩
      subst q1; subst q2
      simp only [↓RP, RS, Int.reduceBEq, Int.reduceBNe, Int.reduceLT, Int.reduceLE, Int.reduceAdd, Int.reduceSub, ↓reduceIte, Nat.reduceAdd, Nat.reduceMul, Nat.reduceSub, Nat.reduceLT, Nat.reduceLeDiff, Nat.reduceEqDiff, decide_true, decide_false, fieldAddrF, undE, tupE, W3]
      refine CallK_use' (total29 hRa) fun v s3 ⟨q1, q2⟩ => ?_
      subst q1; subst q2
      simp only [↓RP, RS, Int.reduceBEq, Int.reduceBNe, Int.reduceLT, Int.reduceLE, Int.reduceAdd, Int.reduceSub, ↓reduceIte, Nat.reduceAdd, Nat.reduceMul, Nat.reduceSub, Nat.reduceLT, Nat.reduceLeDiff, Nat.reduceEqDiff, decide_true, decide_false, fieldAddrF, undE, tupE, W3, en, w1]
      exact seqK_n ⟨(k + 1, _), ⟨by omega, _, _, _, _, _, tN, gy', hry, hT'⟩, by omega, by kernel_rfl, rfl⟩
    · refine CallK_use' (twice19 cN f t a) fun v0 s1 ⟨q1, Q', role', n1, n2⟩ => ?_
      obtain ⟨n1y, n1r⟩ := n2.get cy ry
      obtain ⟨n1o, n1ro⟩ := n2.get c0 r0
      obtain ⟨n1a, n1ra⟩ := n2.get c1 r1
      obtain ⟨n1b, n1rb⟩ := n2.get c2 r2
      obtain ⟨ls', b, hb1, hb2, hT'⟩ : ∃ ls' b, v0 = .d (.bool b) ∧ (match atR f t ls a with | some k => b = true ∧ refL n ls' cuts = refL n (ls ++ [ls.getD k noMsg]) cuts | none => b = false ∧ refL n ls' cuts = refL n ls cuts) ∧ ∃ A', NetAt s1 1 n A' L R Q' role' ∧ Tl n (k + 1) A' ls' cuts := by
        cases hat : atR f t ls a with
        | none =>
          have hno := hT.twice_no hat
          simp only [hno, if_false, decide_false] at q1 n1
          exact ⟨ls, false, q1, ⟨rfl, rfl⟩, A, n1, hT.more⟩
        | some j =>
          obtain ⟨hyes, hT2⟩ := hT.twice hk9 hat
          simp only [hyes, if_true, decide_true] at q1 n1
          exact ⟨_, true, q1, ⟨rfl, rfl⟩, _, n1, hT2⟩
      obtain ⟨A', n1, hT'⟩ := hT'
      subst hb1
      simp only [↓RP, RS, Int.reduceBEq, Int.reduceBNe, Int.reduceLT, Int.reduceLE, Int.reduceAdd, Int.reduceSub, ↓reduceIte, Nat.reduceAdd, Nat.reduceMul, Nat.reduceSub, Nat.reduceLT, Nat.reduceLeDiff, Nat.reduceEqDiff, decide_true, decide_false, fieldAddrF, undE, tupE, W3, ao _ n1o, l1 _ n1o, l2 _ n1o, l3 _ n1o]
      refine CallK_use' (twice20v hRf f t a n1y) fun v0 τ q => ?_
      have q : v0 = .d (.bool b) ∧ τ = s1.set y (.box ((refL n ls' cuts).map .d)) := by
        cases hat : atR f t ls a <;> simp only [hat] at q hb2 <;> obtain ⟨e1, e2⟩ := hb2 <;> rw [e1, e2] <;> exact q
      obtain ⟨q1, q2⟩ := q
      subst q1
      have hNt : NetAt τ 1 n A' L R Q' role' := by rw [q2]; exact n1.keep (Keeps.set (S := fun p => p = y) _ _ rfl) (fun p e => by rw [e]; exact n1r)
      have gA : τ[o + 1]? = some (.box z42) := by rw [q2]; exact set_get n1a (by omega) _
      have gB : τ[o + 2]? = some (.box z42) := by rw [q2]; exact set_get n1b (by omega) _
      have hry : role' y = .other := n1r
      have hXl : z42.length = 34 := rfl
      obtain ⟨M, hXM, hMS⟩ : ∃ M, VLe (.agg z42) (.d (.agg M)) ∧ MsgS M := ⟨zS, zS_le, zS_ok⟩
      obtain ⟨cuts', hc⟩ : ∃ c, c = cuts := ⟨_, rfl⟩
      subst hc
      have gO : τ[o]? = some (.box (cs.map .d)) := by rw [q2]; exact set_get n1o (by omega) _
      have gy' : τ[y]? = some (.box ((refL n ls' cuts').map .d)) := by rw [q2]; exact set_at n1y _
      have tN := hNt
      have X1 := load_all (P := Try.prog) (t := 42) gA (by rw [hXl]; simp only [W3]) (by simp only [W3]) (by simp only [W3]; decide)
      have X2 := load_all (P := Try.prog) (t := 42) gB (by rw [hXl]; simp only [W3]) (by simp only [W3]) (by simp only [W3]; decide)
      have t1 := l1 _ gO
      have t2 := l2 _ gO
      have at1 := ao _ gO
      have aA := alive_of gA (by simp)
      have aB := alive_of gB (by simp)
      have hRt := hT'.ref (by omega)
      have hRa := hRt.at gy'
      simp only [↓RP, RS, Int.reduceBEq, Int.reduceBNe, Int.reduceLT, Int.reduceLE, Int.reduceAdd, Int.reduceSub, ↓reduceIte, Nat.reduceAdd, Nat.reduceMul, Nat.reduceSub, Nat.reduceLT, Nat.reduceLeDiff, Nat.reduceEqDiff, decide_true, decide_false, fieldAddrF, undE, tupE, W3, eb, X1, X2, at1, aA, aB]
      refine CallK_use' (callA_le (ys := [.d (.agg M), .d (.agg M)]) ⟨_, _, rfl, hXM, _, _, rfl, hXM, rfl⟩ (same23 M hMS τ)) fun v s3 ⟨q1, q2⟩ => ?_
      subst q1; subst q2
      simp only [↓RP, RS, Int.reduceBEq, Int.reduceBNe, Int.reduceLT, Int.reduceLE, Int.reduceAdd, Int.reduceSub, ↓reduceIte, Nat.reduceAdd, Nat.reduceMul, Nat.reduceSub, Nat.reduceLT, Nat.reduceLeDiff, Nat.reduceEqDiff, decide_true, decide_false, fieldAddrF, undE, tupE, W3, t1, t2, at1]
      refine CallK_use (size24R tN hT' f t) fun v s3 ⟨q1, q2⟩ => ⟨by subst q1; subst q2; simp only [chkC, wantC, ↓RP, RS, Int.reduceBEq, Int.reduceBNe, Int.reduceLT, Int.reduceLE, Int.reduceAdd, Int.reduceSub, ↓reduceIte, Nat.reduceAdd, Nat.reduceMul, Nat.reduceSub, Nat.reduceLT, Nat.reduceLeDiff, Nat.reduceEqDiff, decide_true, decide_false, fieldAddrF, undE, tupE, W3, t1, t2, at1], ?_⟩
      subst q1; subst q2
      simp only [↓RP, RS, Int.reduceBEq, Int.reduceBNe, Int.reduceLT, Int.reduceLE, Int.reduceAdd, Int.reduceSub, ↓reduceIte, Nat.reduceAdd, Nat.reduceMul, Nat.reduceSub, Nat.reduceLT, Nat.reduceLeDiff, Nat.reduceEqDiff, decide_true, decide_false, fieldAddrF, undE, tupE, W3]
      refine CallK_use' (len25 hRa f t) fun v s3 ⟨q1, q2⟩ => ?_
      subst q1; subst q2
      simp only [↓RP, RS, Int.reduceBEq, Int.reduceBNe, Int.reduceLT, Int.reduceLE, Int.reduceAdd, Int.reduceSub, ↓reduceIte, Nat.reduceAdd, Nat.reduceMul, Nat.reduceSub, Nat.reduceLT, Nat.reduceLeDiff, Nat.reduceEqDiff, decide_true, decide_false, fieldAddrF, undE, tupE, W3, en, t1, t2, at1]
      refine CallK_use (off26R tN hT' f t) fun v s3 ⟨q1, q2⟩ => ⟨by subst q1; subst q2; simp only [chkC, wantC, ↓RP, RS, Int.reduceBEq, Int.reduceBNe, Int.reduceLT, Int.reduceLE, Int.reduceAdd, Int.reduceSub, ↓reduceIte, Nat.reduceAdd, Nat.reduceMul, Nat.reduceSub, Nat.reduceLT, Nat.reduceLeDiff, Nat.reduceEqDiff, decide_true, decide_false, fieldAddrF, undE, tupE, W3, t1, t2, at1], ?_⟩
      subst q1; subst q2
      simp only [↓RP, RS, Int.reduceBEq, Int.reduceBNe, Int.reduceLT, Int.reduceLE, Int.reduceAdd, Int.reduceSub, ↓reduceIte, Nat.reduceAdd, Nat.reduceMul, Nat.reduceSub, Nat.reduceLT, Nat.reduceLeDiff, Nat.reduceEqDiff, decide_true, decide_false, fieldAddrF, undE, tupE, W3]
      refine CallK_use' (off27 hRa f t) fun v s3 ⟨q1, q2⟩ => ?_
      subst q1; subst q2
      simp only [↓RP, RS, Int.reduceBEq, Int.reduceBNe, Int.reduceLT, Int.reduceLE, Int.reduceAdd, Int.reduceSub, ↓reduceIte, Nat.reduceAdd, Nat.reduceMul, Nat.reduceSub, Nat.reduceLT, Nat.reduceLeDiff, Nat.reduceEqDiff, decide_true, decide_false, fieldAddrF, undE, tupE, W3, eb]
      refine CallK_use (total28R tN hT') fun v s3 ⟨q1, q2⟩ => ⟨by subst q1; subst q2; simp only [chkC, wantC, ↓RP, RS, Int.reduceBEq, Int.reduceBNe, Int.reduceLT, Int.reduceLE, Int.reduceAdd, Int.reduceSub, ↓reduceIte, Nat.reduceAdd, Nat.reduceMul, Nat.reduceSub, Nat.reduceLT, Nat.reduceLeDiff, Nat.reduceEqDiff, decide_true, decide_false, fieldAddrF, undE, tupE, W3], ?_⟩
      subst q1; subst q2
      simp only [↓RP, RS, Int.reduceBEq, Int.reduceBNe, Int.reduceLT, Int.reduceLE, Int.reduceAdd, Int.reduceSub, ↓reduceIte, Nat.reduceAdd, Nat.reduceMul, Nat.reduceSub, Nat.reduceLT, Nat.reduceLeDiff, Nat.reduceEqDiff, decide_true, decide_false, fieldAddrF, undE, tupE, W3]
      refine CallK_use' (total29 hRa) fun v s3 ⟨q1, q2⟩ => ?_
      subst q1; subst q2
      simp only [↓RP, RS, Int.reduceBEq, Int.reduceBNe, Int.reduceLT, Int.reduceLE, Int.reduceAdd, Int.reduceSub, ↓reduceIte, Nat.reduceAdd, Nat.reduceMul, Nat.reduceSub, Nat.reduceLT, Nat.reduceLeDiff, Nat.reduceEqDiff, decide_true, decide_false, fieldAddrF, undE, tupE, W3, en, w1]
      exact seqK_n ⟨(k + 1, _), ⟨by omega, _, _, _, _, _, tN, gy', hry, hT'⟩, by omega, by kernel_rfl, rfl⟩
    · refine CallK_use (pick12 d 8 (by omega) (by omega) _) fun v0 s ⟨q1, q2⟩ => ⟨by subst q1; subst q2; simp only [chkC, wantC, ↓RP, RS, Int.reduceBEq, Int.reduceBNe, Int.reduceLT, Int.reduceLE, Int.reduceAdd, Int.reduceSub, ↓reduceIte, Nat.reduceAdd, Nat.reduceMul, Nat.reduceSub, Nat.reduceLT, Nat.reduceLeDiff, Nat.reduceEqDiff, decide_true, decide_false, fieldAddrF, undE, tupE, W3, ao _ c0, l0 _ c0, l1 _ c0, l2 _ c0], ?_⟩
      subst q1; subst q2
      simp only [hp', ↓RP, RS, Int.reduceBEq, Int.reduceBNe, Int.reduceLT, Int.reduceLE, Int.reduceAdd, Int.reduceSub, ↓reduceIte, Nat.reduceAdd, Nat.reduceMul, Nat.reduceSub, Nat.reduceLT, Nat.reduceLeDiff, Nat.reduceEqDiff, decide_true, decide_false, fieldAddrF, undE, tupE, W3]
      refine CallK_use' (cut21 cN f t true) fun v0 s1 ⟨q1, Q', role', n1, n2⟩ => ?_
      subst q1
      obtain ⟨n1y, n1r⟩ := n2.get cy ry
      obtain ⟨n1o, n1ro⟩ := n2.get c0 r0
      obtain ⟨n1a, n1ra⟩ := n2.get c1 r1
      obtain ⟨n1b, n1rb⟩ := n2.get c2 r2
      simp only [↓RP, RS, Int.reduceBEq, Int.reduceBNe, Int.reduceLT, Int.reduceLE, Int.reduceAdd, Int.reduceSub, ↓reduceIte, Nat.reduceAdd, Nat.reduceMul, Nat.reduceSub, Nat.reduceLT, Nat.reduceLeDiff, Nat.reduceEqDiff, decide_true, decide_false, fieldAddrF, undE, tupE, W3, ao _ n1o, l0 _ n1o, l1 _ n1o, l2 _ n1o]
      refine CallK_use (pick12 d 8 (by omega) (by omega) _) fun v0 s ⟨q1, q2⟩ => ⟨by subst q1; subst q2; simp only [chkC, wantC, ↓RP, RS, Int.reduceBEq, Int.reduceBNe, Int.reduceLT, Int.reduceLE, Int.reduceAdd, Int.reduceSub, ↓reduceIte, Nat.reduceAdd, Nat.reduceMul, Nat.reduceSub, Nat.reduceLT, Nat.reduceLeDiff, Nat.reduceEqDiff, decide_true, decide_false, fieldAddrF, undE, tupE, W3, ao _ n1o, l0 _ n1o, l1 _ n1o, l2 _ n1o], ?_⟩
      subst q1; subst q2
      simp only [hp', ↓RP, RS, Int.reduceBEq, Int.reduceBNe, Int.reduceLT, Int.reduceLE, Int.reduceAdd, Int.reduceSub, ↓reduceIte, Nat.reduceAdd, Nat.reduceMul, Nat.reduceSub, Nat.reduceLT, Nat.reduceLeDiff, Nat.reduceEqDiff, decide_true, decide_false, fieldAddrF, undE, tupE, W3]
      refine CallK_use' (cut22v hRf f t true n1y) fun v0 τ ⟨q1, q2⟩ => ?_
      subst q1
      obtain ⟨cuts', A', hcu, hA', hT'⟩ : ∃ cuts' A', (if isL n f t then cutR f t true cuts else cuts) = cuts' ∧ (if isL n f t then upd2 A f.toNat t.toNat (true, (A f.toNat t.toNat).2) else A) = A' ∧ Tl n (k + 1) A' ls cuts' := by
        by_cases c : isL n f t
        · exact ⟨_, _, rfl, rfl, by simp only [c, if_true]; exact hT.cut c true⟩
        · exact ⟨_, _, rfl, rfl, by simp only [c, if_false]; exact hT.more⟩
      rw [hcu] at q2
      rw [hA'] at n1
      have hNt : NetAt τ 1 n A' L R Q' role' := by rw [q2]; exact n1.keep (Keeps.set (S := fun p => p = y) _ _ rfl) (fun p e => by rw [e]; exact n1r)
      have gA : τ[o + 1]? = some (.box z42) := by rw [q2]; exact set_get n1a (by omega) _
      have gB : τ[o + 2]? = some (.box z42) := by rw [q2]; exact set_get n1b (by omega) _
      have hry : role' y = .other := n1r
      have hXl : z42.length = 34 := rfl
      obtain ⟨M, hXM, hMS⟩ : ∃ M, VLe (.agg z42) (.d (.agg M)) ∧ MsgS M := ⟨zS, zS_le, zS_ok⟩
      obtain ⟨ls', hc⟩ : ∃ c, c = ls := ⟨_, rfl⟩
      subst hc
      have gO : τ[o]? = some (.box (cs.map .d)) := by rw [q2]; exact set_get n1o (by omega) _
      have gy' : τ[y]? = some (.box ((refL n ls' cuts').map .d)) := by rw [q2]; exact set_at n1y _
      have tN := hNt
      have X1 := load_all (P := Try.prog) (t := 42) gA (by rw [hXl]; simp only [W3]) (by simp only [W3]) (by simp only [W3]; decide)
      have X2 := load_all (P := Try.prog) (t := 42) gB (by rw [hXl]; simp only [W3]) (by simp only [W3]) (by simp only [W3]; decide)
      have t1 := l1 _ gO
      have t2 := l2 _ gO
      have at1 := ao _ gO
      have aA := alive_of gA (by simp)
      have aB := alive_of gB (by simp)
      have hRt := hT'.ref (by omega)
      have hRa := hRt.at gy'
      simp only [↓RP, RS, Int.reduceBEq, Int.reduceBNe, Int.reduceLT, Int.reduceLE, Int.reduceAdd, Int.reduceSub, ↓reduceIte, Nat.reduceAdd, Nat.reduceMul, Nat.reduceSub, Nat.reduceLT, Nat.reduceLeDiff, Nat.reduceEqDiff, decide_true, decide_false, fieldAddrF, undE, tupE, W3, eb, X1, X2, at1, aA, aB]
      refine CallK_use' (callA_le (ys := [.d (.agg M), .d (.agg M)]) ⟨_, _, rfl, hXM, _, _, rfl, hXM, rfl⟩ (same23 M hMS τ)) fun v s3 ⟨q1, q2⟩ => ?_
      subst q1; subst q2
      simp only [↓RP, RS, Int.reduceBEq, Int.reduceBNe, Int.reduceLT, Int.reduceLE, Int.reduceAdd, Int.reduceSub, ↓reduceIte, Nat.reduceAdd, Nat.reduceMul, Nat.reduceSub, Nat.reduceLT, Nat.reduceLeDiff, Nat.reduceEqDiff, decide_true, decide_false, fieldAddrF, undE, tupE, W3, t1, t2, at1]
      refine CallK_use (size24R tN hT' f t) fun v s3 ⟨q1, q2⟩ => ⟨by subst q1; subst q2; simp only [chkC, wantC, ↓RP, RS, Int.reduceBEq, Int.reduceBNe, Int.reduceLT, Int.reduceLE, Int.reduceAdd, Int.reduceSub, ↓reduceIte, Nat.reduceAdd, Nat.reduceMul, Nat.reduceSub, Nat.reduceLT, Nat.reduceLeDiff, Nat.reduceEqDiff, decide_true, decide_false, fieldAddrF, undE, tupE, W3, t1, t2, at1], ?_⟩
      subst q1; subst q2
      simp only [↓RP, RS, Int.reduceBEq, Int.reduceBNe, Int.reduceLT, Int.reduceLE, Int.reduceAdd, Int.reduceSub, ↓reduceIte, Nat.reduceAdd, Nat.reduceMul, Nat.reduceSub, Nat.reduceLT, Nat.reduceLeDiff, Nat.reduceEqDiff, decide_true, decide_false, fieldAddrF, undE, tupE, W3]
      refine CallK_use' (len25 hRa f t) fun v s3 ⟨q1, q2⟩ => ?_
      subst q1; subst q2
      simp only [↓RP, RS, Int.reduceBEq, Int.reduceBNe, Int.reduceLT, Int.reduceLE, Int.reduceAdd, Int.reduceSub, ↓reduceIte, Nat.reduceAdd, Nat.reduceMul, Nat.reduceSub, Nat.reduceLT, Nat.reduceLeDiff, Nat.reduceEqDiff, decide_true, decide_false, fieldAddrF, undE, tupE, W3, en, t1, t2, at1]
      refine CallK_use (off26R tN hT' f t) fun v s3 ⟨q1, q2⟩ => ⟨by subst q1; subst q2; simp only [chkC, wantC, ↓RP, RS, Int.reduceBEq, Int.reduceBNe, Int.reduceLT, Int.reduceLE, Int.reduceAdd, Int.reduceSub, ↓reduceIte, Nat.reduceAdd, Nat.reduceMul, Nat.reduceSub, Nat.reduceLT, Nat.reduceLeDiff, Nat.reduceEqDiff, decide_true, decide_false, fieldAddrF, undE, tupE, W3, t1, t2, at1], ?_⟩
      subst q1; subst q2
      simp only [↓RP, RS, Int.reduceBEq, Int.reduceBNe, Int.reduceLT, Int.reduceLE, Int.reduceAdd, Int.reduceSub, ↓reduceIte, Nat.reduceAdd, Nat.reduceMul, Nat.reduceSub, Nat.reduceLT, Nat.reduceLeDiff, Nat.reduceEqDiff, decide_true, decide_false, fieldAddrF, undE, tupE, W3]
      refine CallK_use' (off27 hRa f t) fun v s3 ⟨q1, q2⟩ => ?_
      subst q1; subst q2
      simp only [↓RP, RS, Int.reduceBEq, Int.reduceBNe, Int.reduceLT, Int.reduceLE, Int.reduceAdd, Int.reduceSub, ↓reduceIte, Nat.reduceAdd, Nat.reduceMul, Nat.reduceSub, Nat.reduceLT, Nat.reduceLeDiff, Nat.reduceEqDiff, decide_true, decide_false, fieldAddrF, undE, tupE, W3, eb]
      refine CallK_use (total28R tN hT') fun v s3 ⟨q1, q2⟩ => ⟨by subst q1; subst q2; simp only [chkC, wantC, ↓RP, RS, Int.reduceBEq, Int.reduceBNe, Int.reduceLT, Int.reduceLE, Int.reduceAdd, Int.reduceSub, ↓reduceIte, Nat.reduceAdd, Nat.reduceMul, Nat.reduceSub, Nat.reduceLT, Nat.reduceLeDiff, Nat.reduceEqDiff, decide_true, decide_false, fieldAddrF, undE, tupE, W3], ?_⟩
      subst q1; subst q2
      simp only [↓RP, RS, Int.reduceBEq, Int.reduceBNe, Int.reduceLT, Int.reduceLE, Int.reduceAdd, Int.reduceSub, ↓reduceIte, Nat.reduceAdd, Nat.reduceMul, Nat.reduceSub, Nat.reduceLT, Nat.reduceLeDiff, Nat.reduceEqDiff, decide_true, decide_false, fieldAddrF, undE, tupE, W3]
      refine CallK_use' (total29 hRa) fun v s3 ⟨q1, q2⟩ => ?_
      subst q1; subst q2
      simp only [↓RP, RS, Int.reduceBEq, Int.reduceBNe, Int.reduceLT, Int.reduceLE, Int.reduceAdd, Int.reduceSub, ↓reduceIte, Nat.reduceAdd, Nat.reduceMul, Nat.reduceSub, Nat.reduceLT, Nat.reduceLeDiff, Nat.reduceEqDiff, decide_true, decide_false, fieldAddrF, undE, tupE, W3, en, w1]
      exact seqK_n ⟨(k + 1, _), ⟨by omega, _, _, _, _, _, tN, gy', hry, hT'⟩, by omega, by kernel_rfl, rfl⟩
    · refine CallK_use (pick12 d 8 (by omega) (by omega) _) fun v0 s ⟨q1, q2⟩ => ⟨by subst q1; subst q2; simp only [chkC, wantC, ↓RP, RS, Int.reduceBEq, Int.reduceBNe, Int.reduceLT, Int.reduceLE, Int.reduceAdd, Int.reduceSub, ↓reduceIte, Nat.reduceAdd, Nat.reduceMul, Nat.reduceSub, Nat.reduceLT, Nat.reduceLeDiff, Nat.reduceEqDiff, decide_true, decide_false, fieldAddrF, undE, tupE, W3, ao _ c0, l0 _ c0, l1 _ c0, l2 _ c0], ?_⟩
      subst q1; subst q2
      simp only [hp', ↓RP, RS, Int.reduceBEq, Int.reduceBNe, Int.reduceLT, Int.reduceLE, Int.reduceAdd, Int.reduceSub, ↓reduceIte, Nat.reduceAdd, Nat.reduceMul, Nat.reduceSub, Nat.reduceLT, Nat.reduceLeDiff, Nat.reduceEqDiff, decide_true, decide_false, fieldAddrF, undE, tupE, W3]
      refine CallK_use' (cut21 cN f t false) fun v0 s1 ⟨q1, Q', role', n1, n2⟩ => ?_
      subst q1
      obtain ⟨n1y, n1r⟩ := n2.get cy ry
      obtain ⟨n1o, n1ro⟩ := n2.get c0 r0
      obtain ⟨n1a, n1ra⟩ := n2.get c1 r1
      obtain ⟨n1b, n1rb⟩ := n2.get c2 r2
      simp only [↓RP, RS, Int.reduceBEq, Int.reduceBNe, Int.reduceLT, Int.reduceLE, Int.reduceAdd, Int.reduceSub, ↓reduceIte, Nat.reduceAdd, Nat.reduceMul, Nat.reduceSub, Nat.reduceLT, Nat.reduceLeDiff, Nat.reduceEqDiff, decide_true, decide_false, fieldAddrF, undE, tupE, W3, ao _ n1o, l0 _ n1o, l1 _ n1o, l2 _ n1o]
      refine CallK_use (pick12 d 8 (by omega) (by omega) _) fun v0 s ⟨q1, q2⟩ => ⟨by subst q1; subst q2; simp only [chkC, wantC, ↓RP, RS, Int.reduceBEq, Int.reduceBNe, Int.reduceLT, Int.reduceLE, Int.reduceAdd, Int.reduceSub, ↓reduceIte, Nat.reduceAdd, Nat.reduceMul, Nat.reduceSub, Nat.reduceLT, Nat.reduceLeDiff, Nat.reduceEqDiff, decide_true, decide_false, fieldAddrF, undE, tupE, W3, ao _ n1o, l0 _ n1o, l1 _ n1o, l2 _ n1o], ?_⟩
      subst q1; subst q2
      simp only [hp', ↓RP, RS, Int.reduceBEq, Int.reduceBNe, Int.reduceLT, Int.reduceLE, Int.reduceAdd, Int.reduceSub, ↓reduceIte, Nat.reduceAdd, Nat.reduceMul, Nat.reduceSub, Nat.reduceLT, Nat.reduceLeDiff, Nat.reduceEqDiff, decide_true, decide_false, fieldAddrF, undE, tupE, W3]
      refine CallK_use' (cut22v hRf f t false n1y) fun v0 τ ⟨q1, q2⟩ => ?_
      subst q1
      obtain ⟨cuts', A', hcu, hA', hT'⟩ : ∃ cuts' A', (if isL n f t then cutR f t false cuts else cuts) = cuts' ∧ (if isL n f t then upd2 A f.toNat t.toNat (false, (A f.toNat t.toNat).2) else A) = A' ∧ Tl n (k + 1) A' ls cuts' := by
        by_cases c : isL n f t
        · exact ⟨_, _, rfl, rfl, by simp only [c, if_true]; exact hT.cut c false⟩
        · exact ⟨_, _, rfl, rfl, by simp only [c, if_false]; exact hT.more⟩
      rw [hcu] at q2
      rw [hA'] at n1
      have hNt : NetAt τ 1 n A' L R Q' role' := by rw [q2]; exact n1.keep (Keeps.set (S := fun p => p = y) _ _ rfl) (fun p e => by rw [e]; exact n1r)
      have gA : τ[o + 1]? = some (.box z42) := by rw [q2]; exact set_get n1a (by omega) _
      have gB : τ[o + 2]? = some (.box z42) := by rw [q2]; exact set_get n1b (by omega) _
      have hry : role' y = .other := n1r
      have hXl : z42.length = 34 := rfl
      obtain ⟨M, hXM, hMS⟩ : ∃ M, VLe (.agg z42) (.d (.agg M)) ∧ MsgS M := ⟨zS, zS_le, zS_ok⟩
      obtain ⟨ls', hc⟩ : ∃ c, c = ls := ⟨_, rfl⟩
      subst hc
      have gO : τ[o]? = some (.box (cs.map .d)) := by rw [q2]; exact set_get n1o (by omega) _
      have gy' : τ[y]? = some (.box ((refL n ls' cuts').map .d)) := by rw [q2]; exact set_at n1y _
      have tN := hNt
      have X1 := load_all (P := Try.prog) (t := 42) gA (by rw [hXl]; simp only [W3]) (by simp only [W3]) (by simp only [W3]; decide)
      have X2 := load_all (P := Try.prog) (t := 42) gB (by rw [hXl]; simp only [W3]) (by simp only [W3]) (by simp only [W3]; decide)
      have t1 := l1 _ gO
      have t2 := l2 _ gO
      have at1 := ao _ gO
      have aA := alive_of gA (by simp)
      have aB := alive_of gB (by simp)
      have hRt := hT'.ref (by omega)
      have hRa := hRt.at gy'
      simp only [↓RP, RS, Int.reduceBEq, Int.reduceBNe, Int.reduceLT, Int.reduceLE, Int.reduceAdd, Int.reduceSub, ↓reduceIte, Nat.reduceAdd, Nat.reduceMul, Nat.reduceSub, Nat.reduceLT, Nat.reduceLeDiff, Nat.reduceEqDiff, decide_true, decide_false, fieldAddrF, undE, tupE, W3, eb, X1, X2, at1, aA, aB]
      refine CallK_use' (callA_le (ys := [.d (.agg M), .d (.agg M)]) ⟨_, _, rfl, hXM, _, _, rfl, hXM, rfl⟩ (same23 M hMS τ)) fun v s3 ⟨q1, q2⟩ => ?_
      subst q1; subst q2
      simp only [↓RP, RS, Int.reduceBEq, Int.reduceBNe, Int.reduceLT, Int.reduceLE, Int.reduceAdd, Int.reduceSub, ↓reduceIte, Nat.reduceAdd, Nat.reduceMul, Nat.reduceSub, Nat.reduceLT, Nat.reduceLeDiff, Nat.reduceEqDiff, decide_true, decide_false, fieldAddrF, undE, tupE, W3, t1, t2, at1]
      refine CallK_use (size24R tN hT' f t) fun v s3 ⟨q1, q2⟩ => ⟨by subst q1; subst q2; simp only [chkC, wantC, ↓RP, RS, Int.reduceBEq, Int.reduceBNe, Int.reduceLT, Int.reduceLE, Int.reduceAdd, Int.reduceSub, ↓reduceIte, Nat.reduceAdd, Nat.reduceMul, Nat.reduceSub, Nat.reduceLT, Nat.reduceLeDiff, Nat.reduceEqDiff, decide_true, decide_false, fieldAddrF, undE, tupE, W3, t1, t2, at1], ?_⟩
      subst q1; subst q2
      simp only [↓RP, RS, Int.reduceBEq, Int.reduceBNe, Int.reduceLT, Int.reduceLE, Int.reduceAdd, Int.reduceSub, ↓reduceIte, Nat.reduceAdd, Nat.reduceMul, Nat.reduceSub, Nat.reduceLT, Nat.reduceLeDiff, Nat.reduceEqDiff, decide_true, decide_false, fieldAddrF, undE, tupE, W3]
      refine CallK_use' (len25 hRa f t) fun v s3 ⟨q1, q2⟩ => ?_
      subst q1; subst q2
      simp only [↓RP, RS, Int.reduceBEq, Int.reduceBNe, Int.reduceLT, Int.reduceLE, Int.reduceAdd, Int.reduceSub, ↓reduceIte, Nat.reduceAdd, Nat.reduceMul, Nat.reduceSub, Nat.reduceLT, Nat.reduceLeDiff, Nat.reduceEqDiff, decide_true, decide_false, fieldAddrF, undE, tupE, W3, en, t1, t2, at1]
      refine CallK_use (off26R tN hT' f t) fun v s3 ⟨q1, q2⟩ => ⟨by subst q1; subst q2; simp only [chkC, wantC, ↓RP, RS, Int.reduceBEq, Int.reduceBNe, Int.reduceLT, Int.reduceLE, Int.reduceAdd, Int.reduceSub, ↓reduceIte, Nat.reduceAdd, Nat.reduceMul, Nat.reduceSub, Nat.reduceLT, Nat.reduceLeDiff, Nat.reduceEqDiff, decide_true, decide_false, fieldAddrF, undE, tupE, W3, t1, t2, at1], ?_⟩
      subst q1; subst q2
      simp only [↓RP, RS, Int.reduceBEq, Int.reduceBNe, Int.reduceLT, Int.reduceLE, Int.reduceAdd, Int.reduceSub, ↓reduceIte, Nat.reduceAdd, Nat.reduceMul, Nat.reduceSub, Nat.reduceLT, Nat.reduceLeDiff, Nat.reduceEqDiff, decide_true, decide_false, fieldAddrF, undE, tupE, W3]
      refine CallK_use' (off27 hRa f t) fun v s3 ⟨q1, q2⟩ => ?_
      subst q1; subst q2
      simp only [↓RP, RS, Int.reduceBEq, Int.reduceBNe, Int.reduceLT, Int.reduceLE, Int.reduceAdd, Int.reduceSub, ↓reduceIte, Nat.reduceAdd, Nat.reduceMul, Nat.reduceSub, Nat.reduceLT, Nat.reduceLeDiff, Nat.reduceEqDiff, decide_true, decide_false, fieldAddrF, undE, tupE, W3, eb]
      refine CallK_use (total28R tN hT') fun v s3 ⟨q1, q2⟩ => ⟨by subst q1; subst q2; simp only [chkC, wantC, ↓RP, RS, Int.reduceBEq, Int.reduceBNe, Int.reduceLT, Int.reduceLE, Int.reduceAdd, Int.reduceSub, ↓reduceIte, Nat.reduceAdd, Nat.reduceMul, Nat.reduceSub, Nat.reduceLT, Nat.reduceLeDiff, Nat.reduceEqDiff, decide_true, decide_false, fieldAddrF, undE, tupE, W3], ?_⟩
      subst q1; subst q2
      simp only [↓RP, RS, Int.reduceBEq, Int.reduceBNe, Int.reduceLT, Int.reduceLE, Int.reduceAdd, Int.reduceSub, ↓reduceIte, Nat.reduceAdd, Nat.reduceMul, Nat.reduceSub, Nat.reduceLT, Nat.reduceLeDiff, Nat.reduceEqDiff, decide_true, decide_false, fieldAddrF, undE, tupE, W3]
      refine CallK_use' (total29 hRa) fun v s3 ⟨q1, q2⟩ => ?_
      subst q1; subst q2
      simp only [↓RP, RS, Int.reduceBEq, Int.reduceBNe, Int.reduceLT, Int.reduceLE, Int.reduceAdd, Int.reduceSub, ↓reduceIte, Nat.reduceAdd, Nat.reduceMul, Nat.reduceSub, Nat.reduceLT, Nat.reduceLeDiff, Nat.reduceEqDiff, decide_true, decide_false, fieldAddrF, undE, tupE, W3, en, w1]
      exact seqK_n ⟨(k + 1, _), ⟨by omega, _, _, _, _, _, tN, gy', hry, hT'⟩, by omega, by kernel_rfl, rfl⟩
  have e3 : decide ((k : Int) < (steps.length : Int)) = false := by simpa using hlt
  have eb : ∀ b : Bool, (b == b) = true := by simp
  have en : ∀ n : Int, (n != n) = false := by simp
  have hRt := (hT.ref (by omega)).at gy
  simp only [fr, ↓RP, RS, Int.reduceBEq, Int.reduceBNe, Int.reduceLT, Int.reduceLE, Int.reduceAdd, Int.reduceSub, ↓reduceIte, Nat.reduceAdd, Nat.reduceMul, Nat.reduceSub, Nat.reduceLT, Nat.reduceLeDiff, Nat.reduceEqDiff, decide_true, decide_false, fieldAddrF, undE, tupE, W3, e3]
  refine Loop_k [4, 5, 6, 7, 14] (fun i : Nat => fr 0 216 [(4, .d (.bool false)), (5, .d (.bool true)), (6, .ptr 1 0 0), (7, .ptr y 0 0), (14, .d (.int .i64 ((i : Int) - 1)))]) (fun _ => sk) (fun i => i ≤ 7) (fun i => 7 - i) 0 (by kernel_rfl) rfl (by omega) fun i hi => ?_
  by_cases hi7 : i < 7
  · have d1 : decide (((i : Int) - 1) < 6) = true := by simp; omega
    have w1 : IntKind.i64.wrap ((i : Int) - 1 + 1) = ((i + 1 : Nat) : Int) - 1 := by rw [IntWalk.i64_in _ (by omega)]; omega
    simp only [fr, ↓RP, RS, Int.reduceBEq, Int.reduceBNe, Int.reduceLT, Int.reduceLE, Int.reduceAdd, Int.reduceSub, ↓reduceIte, Nat.reduceAdd, Nat.reduceMul, Nat.reduceSub, Nat.reduceLT, Nat.reduceLeDiff, Nat.reduceEqDiff, decide_true, decide_false, fieldAddrF, undE, tupE, W3, d1]
    refine Loop_k [4, 5, 6, 7, 14, 15] (fun j : Nat => fr 0 216 [(4, .d (.bool false)), (5, .d (.bool true)), (6, .ptr 1 0 0), (7, .ptr y 0 0), (14, .d (.int .i64 ((i : Int) - 1))), (15, .d (.int .i64 ((j : Int) - 1)))]) (fun _ => sk) (fun j => j ≤ 7) (fun j => 7 - j) 0 (by kernel_rfl) rfl (by omega) fun j hj => ?_
    by_cases hj7 : j < 7
    · have d2 : decide (((j : Int) - 1) < 6) = true := by simp; omega
      have w2 : IntKind.i64.wrap ((j : Int) - 1 + 1) = ((j + 1 : Nat) : Int) - 1 := by rw [IntWalk.i64_in _ (by omega)]; omega
      simp only [fr, ↓RP, RS, Int.reduceBEq, Int.reduceBNe, Int.reduceLT, Int.reduceLE, Int.reduceAdd, Int.reduceSub, ↓reduceIte, Nat.reduceAdd, Nat.reduceMul, Nat.reduceSub, Nat.reduceLT, Nat.reduceLeDiff, Nat.reduceEqDiff, decide_true, decide_false, fieldAddrF, undE, tupE, W3, d2]
      refine CallK_use' (size24R hN hT _ _) fun v s3 ⟨q1, q2⟩ => ?_
      subst q1; subst q2
      simp only [↓RP, RS, Int.reduceBEq, Int.reduceBNe, Int.reduceLT, Int.reduceLE, Int.reduceAdd, Int.reduceSub, ↓reduceIte, Nat.reduceAdd, Nat.reduceMul, Nat.reduceSub, Nat.reduceLT, Nat.reduceLeDiff, Nat.reduceEqDiff, decide_true, decide_false, fieldAddrF, undE, tupE, W3]
      refine CallK_use' (len25 hRt _ _) fun v s3 ⟨q1, q2⟩ => ?_
      subst q1; subst q2
      simp only [↓RP, RS, Int.reduceBEq, Int.reduceBNe, Int.reduceLT, Int.reduceLE, Int.reduceAdd, Int.reduceSub, ↓reduceIte, Nat.reduceAdd, Nat.reduceMul, Nat.reduceSub, Nat.reduceLT, Nat.reduceLeDiff, Nat.reduceEqDiff, decide_true, decide_false, fieldAddrF, undE, tupE, W3, en]
      refine CallK_use' (off26R hN hT _ _) fun v s3 ⟨q1, q2⟩ => ?_
      subst q1; subst q2
      simp only [↓RP, RS, Int.reduceBEq, Int.reduceBNe, Int.reduceLT, Int.reduceLE, Int.reduceAdd, Int.reduceSub, ↓reduceIte, Nat.reduceAdd, Nat.reduceMul, Nat.reduceSub, Nat.reduceLT, Nat.reduceLeDiff, Nat.reduceEqDiff, decide_true, decide_false, fieldAddrF, undE, tupE, W3]
      refine CallK_use' (off27 hRt _ _) fun v s3 ⟨q1, q2⟩ => ?_
      subst q1; subst q2
      simp only [↓RP, RS, Int.reduceBEq, Int.reduceBNe, Int.reduceLT, Int.reduceLE, Int.reduceAdd, Int.reduceSub, ↓reduceIte, Nat.reduceAdd, Nat.reduceMul, Nat.reduceSub, Nat.reduceLT, Nat.reduceLeDiff, Nat.reduceEqDiff, decide_true, decide_false, fieldAddrF, undE, tupE, W3, eb, w2]
      exact seqK_n ⟨j + 1, by omega, by omega, by kernel_rfl, rfl⟩
    · have d2 : decide (((j : Int) - 1) < 6) = false := by simp; omega
      simp only [fr, ↓RP, RS, Int.reduceBEq, Int.reduceBNe, Int.reduceLT, Int.reduceLE, Int.reduceAdd, Int.reduceSub, ↓reduceIte, Nat.reduceAdd, Nat.reduceMul, Nat.reduceSub, Nat.reduceLT, Nat.reduceLeDiff, Nat.reduceEqDiff, decide_true, decide_false, fieldAddrF, undE, tupE, W3, d2, w1]
      exact seqK_n ⟨i + 1, by omega, by omega, by kernel_rfl, rfl⟩
  · have d1 : decide (((i : Int) - 1) < 6) = false := by simp; omega
    simp only [fr, ↓RP, RS, Int.reduceBEq, Int.reduceBNe, Int.reduceLT, Int.reduceLE, Int.reduceAdd, Int.reduceSub, ↓reduceIte, Nat.reduceAdd, Nat.reduceMul, Nat.reduceSub, Nat.reduceLT, Nat.reduceLeDiff, Nat.reduceEqDiff, decide_true, decide_false, fieldAddrF, undE, tupE, W3, d1]
    exact hK.ret (by rfl) (by rfl)
end Go.Proofs.Ytadddaafajennaa.Am
