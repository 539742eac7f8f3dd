/- The law IndexMeets. -/
import Derived.Test.YtjidelngljpbdaaIq
import Derived.Test.YtjidelngljpbdaaIm
set_option linter.unusedSimpArgs false
set_option linter.unusedVariables false
set_option maxRecDepth 10000
set_option maxHeartbeats 4000000
namespace Go.Proofs.Ytjidelngljpbdaa.Am
open Go Go.Proofs

theorem app_any {P : Program} {t tx e : TypeId} {σ : List Ob} {p sz : Nat} {mk : Bool} {es ds : List D} {src : V} (h1 : σ[p]? = some (.arr sz mk es)) (he : elemOfSlice P t = some e) (hk : elemOk P e = true) (hz : szOf P e = sz) (hs : srcD P e σ tx src = some ds) {b : Nat} (hbt : bytesT P e = b) (hb : (es.length + ds.length) * b ≤ 70368744177664) (hb' : b ≤ 16384) :
    ∃ p' σ', appE P t tx σ (.sl p 0 es.length) src = some (.sl p' 0 (es.length + ds.length), σ') ∧ σ'[p']? = some (.arr sz mk (es ++ ds)) ∧ (p' = p ∨ σ.length ≤ p') ∧ Keeps (fun o => o = p) σ σ' := by
  cases ds with
  | nil =>
    have := app_in (P := P) (t := t) (tx := tx) (e := e) (off := 0) (len := es.length) (src := src) h1 he hk hz hs (by simp)
    refine ⟨_, _, this, ?_, .inl rfl, Keeps.set _ _ rfl⟩
    rw [List.getElem?_set_self (lt_of_get h1)]
    simp [over]
  | cons d ds =>
    have := app_new (P := P) (t := t) (tx := tx) (e := e) (off := 0) (len := es.length) (src := src) h1 he hk hz hs (by simp) (by simp) hbt hb hb'
    refine ⟨_, _, this, ?_, .inr (Nat.le_refl _), (Keeps.set (S := fun o => o = p) _ _ rfl).trans (Keeps.app _ _ _) (fun _ _ h => h)⟩
    rw [List.getElem?_append_right (by simp)]
    simp

theorem build230 (σ : List Ob) (s : List V) : buildSliceF Try.prog 23 0 σ s [] = some (.sl σ.length 0 0, σ ++ [.arr 1 false []]) := by
  simp only [buildSliceF, T23, T9, inOrder, toDs]; rfl

def meet (la lb : List W) : List W := la.filter fun w => decide (w ∈ lb)
theorem meet_found {A : W → List W} {v w la lb lc : List W} (ha : FoundOk A v la) (hb : FoundOk A w lb) (hc : FoundOk A (v ++ w) lc) (hv : v ≠ []) (hw : w ≠ []) : lc = meet la lb := by
  refine asc_ext hc.1 (ha.1.sublist List.filter_sublist) fun id => ?_
  unfold meet
  rw [List.mem_filter, hc.2, ha.2, decide_eq_true_eq, hb.2]
  constructor
  · rintro ⟨_, h⟩
    exact ⟨⟨hv, fun x hx => h x (List.mem_append.2 (.inl hx))⟩, hw, fun x hx => h x (List.mem_append.2 (.inr hx))⟩
  · rintro ⟨⟨_, h1⟩, _, h2⟩
    refine ⟨by simp [hv], fun x hx => ?_⟩
    rcases List.mem_append.1 hx with g | g
    · exact h1 x g
    · exact h2 x g
theorem meet_step {la lb : List W} {k : Nat} {x : W} (hx : la[k]? = some x) : meet (la.take (k + 1)) lb = meet (la.take k) lb ++ (if decide (x ∈ lb) then [x] else []) := by
  unfold meet
  rw [List.take_add_one, hx, List.filter_append]
  congr 1
  cases h : decide (x ∈ lb) <;> simp [h]
theorem meet_get {la lb : List W} {k : Nat} {x : W} (hx : la[k]? = some x) (hb : decide (x ∈ lb) = true) : (meet la lb)[(meet (la.take k) lb).length]? = some x := by
  have e : meet la lb = meet (la.take k) lb ++ meet (la.drop k) lb := by
    unfold meet; rw [← List.filter_append, List.take_append_drop]
  rw [e, List.getElem?_append_right (Nat.le_refl _), Nat.sub_self, drop_split hx]
  unfold meet
  rw [List.filter_cons, if_pos hb]; rfl
theorem meet_pre (la lb : List W) (k : Nat) : (meet (la.take k) lb).length ≤ (la.take k).length := List.length_filter_le _ _

theorem meets6 (ss : List StepI) (v w : List W) : callA Try.prog 6 [stepsV ss, .d (.lst 1 (v.map .str)), .d (.lst 1 (w.map .str))] [] fun r _ => r = .d (.bool true) := by
  refine w6.go fun K hK => ?_
  simp only [e6, c6, p6, Try.f6, codeOf, comp, opsOf, stOf, cop, cstp, copAt, planFor, List.find?, List.find?_nil, Option.map_none, Option.getD_none, List.any_cons, List.any_nil, Stp.idx, Bool.or_false, Nat.reduceBEq, ↓RP, RS, Int.reduceBEq, Int.reduceBNe, Int.reduceLT, Int.reduceLE, Int.reduceAdd, Int.reduceSub, ↓reduceIte, Nat.reduceAdd, Nat.reduceMul, Nat.reduceSub, Nat.reduceLT, Nat.reduceLeDiff, Nat.reduceEqDiff, decide_true, decide_false, fieldAddrF, undE, tupE, W6]
  refine CallK_use' (small8 []) fun v0 s1 ⟨q1, q2⟩ => ?_
  subst q1; rw [q2]
  simp only [↓RP, RS, Int.reduceBEq, Int.reduceBNe, Int.reduceLT, Int.reduceLE, Int.reduceAdd, Int.reduceSub, ↓reduceIte, Nat.reduceAdd, Nat.reduceMul, Nat.reduceSub, Nat.reduceLT, Nat.reduceLeDiff, Nat.reduceEqDiff, decide_true, decide_false, fieldAddrF, undE, tupE, W6]
  refine CallK_use' (few13 ss []) fun v0 s1 ⟨q2, b1, q1, f1⟩ => ?_
  subst q1; rw [q2]
  simp only [↓RP, RS, Int.reduceBEq, Int.reduceBNe, Int.reduceLT, Int.reduceLE, Int.reduceAdd, Int.reduceSub, ↓reduceIte, Nat.reduceAdd, Nat.reduceMul, Nat.reduceSub, Nat.reduceLT, Nat.reduceLeDiff, Nat.reduceEqDiff, decide_true, decide_false, fieldAddrF, undE, tupE, W6]
  refine CallK_use' (words21 (.val v)) fun v0 s1 ⟨q2, b2, q1, f2⟩ => ?_
  subst q1; rw [q2]
  simp only [↓RP, RS, Int.reduceBEq, Int.reduceBNe, Int.reduceLT, Int.reduceLE, Int.reduceAdd, Int.reduceSub, ↓reduceIte, Nat.reduceAdd, Nat.reduceMul, Nat.reduceSub, Nat.reduceLT, Nat.reduceLeDiff, Nat.reduceEqDiff, decide_true, decide_false, fieldAddrF, undE, tupE, W6]
  refine CallK_use' (words21 (.val w)) fun v0 s1 ⟨q2, b3, q1, f3⟩ => ?_
  subst q1; rw [q2]
  simp only [↓RP, RS, Int.reduceBEq, Int.reduceBNe, Int.reduceLT, Int.reduceLE, Int.reduceAdd, Int.reduceSub, ↓reduceIte, Nat.reduceAdd, Nat.reduceMul, Nat.reduceSub, Nat.reduceLT, Nat.reduceLeDiff, Nat.reduceEqDiff, decide_true, decide_false, fieldAddrF, undE, tupE, W6]
  refine CallK_use' (new14 []) fun v0 s1 ⟨x, t, i, S1, q1, I1, kp1, hS1⟩ => ?_
  subst q1
  have ax := I1.alive
  cases b1 with
  | false =>
    simp only [↓RP, RS, Int.reduceBEq, Int.reduceBNe, Int.reduceLT, Int.reduceLE, Int.reduceAdd, Int.reduceSub, ↓reduceIte, Nat.reduceAdd, Nat.reduceMul, Nat.reduceSub, Nat.reduceLT, Nat.reduceLeDiff, Nat.reduceEqDiff, decide_true, decide_false, fieldAddrF, undE, tupE, W6, ax]
    exact hK.ret (by rfl) rfl
  | true =>
  cases b2 with
  | false =>
    simp only [↓RP, RS, Int.reduceBEq, Int.reduceBNe, Int.reduceLT, Int.reduceLE, Int.reduceAdd, Int.reduceSub, ↓reduceIte, Nat.reduceAdd, Nat.reduceMul, Nat.reduceSub, Nat.reduceLT, Nat.reduceLeDiff, Nat.reduceEqDiff, decide_true, decide_false, fieldAddrF, undE, tupE, W6, ax]
    exact hK.ret (by rfl) rfl
  | true =>
  cases b3 with
  | false =>
    simp only [↓RP, RS, Int.reduceBEq, Int.reduceBNe, Int.reduceLT, Int.reduceLE, Int.reduceAdd, Int.reduceSub, ↓reduceIte, Nat.reduceAdd, Nat.reduceMul, Nat.reduceSub, Nat.reduceLT, Nat.reduceLeDiff, Nat.reduceEqDiff, decide_true, decide_false, fieldAddrF, undE, tupE, W6, ax]
    exact hK.ret (by rfl) rfl
  | true =>
  have hfs := f1 rfl
  have hfv := f2 rfl
  have hfw := f3 rfl
  have h40 := hfs.1
  by_cases hv : v = []
  · have e0 : ((v.length : Int) == 0) = true := by rw [hv]; rfl
    simp only [↓RP, RS, Int.reduceBEq, Int.reduceBNe, Int.reduceLT, Int.reduceLE, Int.reduceAdd, Int.reduceSub, ↓reduceIte, Nat.reduceAdd, Nat.reduceMul, Nat.reduceSub, Nat.reduceLT, Nat.reduceLeDiff, Nat.reduceEqDiff, decide_true, decide_false, fieldAddrF, undE, tupE, W6, ax, List.length_map, e0]
    exact hK.ret (by rfl) rfl
  have e0 : ((v.length : Int) == 0) = false := by have := List.length_pos_iff.2 hv; simp; omega
  by_cases hw : w = []
  · have e1 : ((w.length : Int) == 0) = true := by rw [hw]; rfl
    simp only [↓RP, RS, Int.reduceBEq, Int.reduceBNe, Int.reduceLT, Int.reduceLE, Int.reduceAdd, Int.reduceSub, ↓reduceIte, Nat.reduceAdd, Nat.reduceMul, Nat.reduceSub, Nat.reduceLT, Nat.reduceLeDiff, Nat.reduceEqDiff, decide_true, decide_false, fieldAddrF, undE, tupE, W6, ax, List.length_map, e0, e1]
    exact hK.ret (by rfl) rfl
  have e1 : ((w.length : Int) == 0) = false := by have := List.length_pos_iff.2 hw; simp; omega
  have hB0 : BndA (fun _ => []) := fun _ => by simp
  simp only [↓RP, RS, Int.reduceBEq, Int.reduceBNe, Int.reduceLT, Int.reduceLE, Int.reduceAdd, Int.reduceSub, ↓reduceIte, Nat.reduceAdd, Nat.reduceMul, Nat.reduceSub, Nat.reduceLT, Nat.reduceLeDiff, Nat.reduceEqDiff, decide_true, decide_false, fieldAddrF, undE, tupE, W6, ax, List.length_map, e0, e1]
  refine CallK_use' (set22 I1 hB0 ss hfs) fun v0 s2 ⟨q1, S2, L2, I2, B2, hL2, kp2, hS2⟩ => ?_
  subst q1
  simp only [List.length_nil, Nat.zero_add] at hL2
  generalize setA (fun _ => []) ss = A at I2 B2
  simp only [↓RP, RS, Int.reduceBEq, Int.reduceBNe, Int.reduceLT, Int.reduceLE, Int.reduceAdd, Int.reduceSub, ↓reduceIte, Nat.reduceAdd, Nat.reduceMul, Nat.reduceSub, Nat.reduceLT, Nat.reduceLeDiff, Nat.reduceEqDiff, decide_true, decide_false, fieldAddrF, undE, tupE, W6]
  refine CallK_use' (find19 I2 (by omega) v (.val v) (by omega)) fun va s3 ⟨la, ra, ga, kp3, na⟩ => ?_
  have I3 := I2.keep kp3 (fun _ _ h => h)
  simp only [↓RP, RS, Int.reduceBEq, Int.reduceBNe, Int.reduceLT, Int.reduceLE, Int.reduceAdd, Int.reduceSub, ↓reduceIte, Nat.reduceAdd, Nat.reduceMul, Nat.reduceSub, Nat.reduceLT, Nat.reduceLeDiff, Nat.reduceEqDiff, decide_true, decide_false, fieldAddrF, undE, tupE, W6]
  refine CallK_use' (find19 I3 (by omega) w (.val w) (by omega)) fun vb s4 ⟨lb, rb, gb, kp4, nb⟩ => ?_
  have I4 := I3.keep kp4 (fun _ _ h => h)
  have bs := fun s => build230 s4 s
  have g4 : (s4 ++ [Ob.arr 1 false []])[s4.length]? = some (.arr 1 false []) := by simp
  have kA := Keeps.app (fun _ => False) s4 [Ob.arr 1 false []]
  simp only [bs, List.toList_toArray, ↓RP, RS, Int.reduceBEq, Int.reduceBNe, Int.reduceLT, Int.reduceLE, Int.reduceAdd, Int.reduceSub, ↓reduceIte, Nat.reduceAdd, Nat.reduceMul, Nat.reduceSub, Nat.reduceLT, Nat.reduceLeDiff, Nat.reduceEqDiff, decide_true, decide_false, fieldAddrF, undE, tupE, W6]
  generalize hτ : s4 ++ [Ob.arr 1 false []] = s5 at g4 kA ⊢
  have sv : srcD Try.prog 9 s5 23 (.d (.lst 1 (v.map .str))) = some (v.map .str) := src_lst (by simp only [T23]) (by simp only [T9])
  obtain ⟨p1, s6, ap1, h6, n6, kB⟩ := app_any (P := Try.prog) (t := 23) (tx := 23) (e := 9) g4 (by simp only [T23]) (by simp only [T9]) (by simp only [T9]) sv (b := 16) (by simp only [T9]) (by simp; omega) (by omega)
  simp only [List.length_nil, Nat.zero_add, List.length_map, List.nil_append] at ap1 h6
  have sw : srcD Try.prog 9 s6 23 (.d (.lst 1 (w.map .str))) = some (w.map .str) := src_lst (by simp only [T23]) (by simp only [T9])
  obtain ⟨p2, s7, ap2, h7, n7, kC⟩ := app_any (P := Try.prog) (t := 23) (tx := 23) (e := 9) h6 (by simp only [T23]) (by simp only [T9]) (by simp only [T9]) sw (b := 16) (by simp only [T9]) (by simp; omega) (by omega)
  simp only [List.length_map] at ap2
  rw [← List.map_append] at h7
  have k7 : Keeps (fun _ => False) s4 s7 := by
    refine ⟨Nat.le_trans kA.1 (Nat.le_trans kB.1 kC.1), fun o ho hn => ?_⟩
    have h5 : s5.length = s4.length + 1 := by rw [← hτ]; simp
    have hk6 := kB.1
    rw [kC.2 o (by omega) (fun e => by rcases n6 with g | g <;> omega), kB.2 o (by omega) (by omega), kA.2 o ho (fun h => h)]
  have I7 := I4.keep k7 (fun _ _ h => h)
  have rv : LstAt s7 (.sl p2 0 (v.length + w.length)) (v ++ w) := by
    rw [← List.length_append]; exact .own0 h7
  simp only [ap1, ap2, ↓RP, RS, Int.reduceBEq, Int.reduceBNe, Int.reduceLT, Int.reduceLE, Int.reduceAdd, Int.reduceSub, ↓reduceIte, Nat.reduceAdd, Nat.reduceMul, Nat.reduceSub, Nat.reduceLT, Nat.reduceLeDiff, Nat.reduceEqDiff, decide_true, decide_false, fieldAddrF, undE, tupE, W6]
  refine CallK_use' (find19 I7 (by omega) (v ++ w) rv (by simp; omega)) fun vc s8 ⟨lc, rc, gc, kp8, nc⟩ => ?_
  have hlc := meet_found ga gb gc hv hw
  subst hlc
  have ra := ((ra.keep kp4 (fun _ _ _ _ h => h)).keep k7 (fun _ _ _ _ h => h)).keep kp8 (fun _ _ _ _ h => h)
  have rb := (rb.keep k7 (fun _ _ _ _ h => h)).keep kp8 (fun _ _ _ _ h => h)
  have hla := FoundOk.len I2 ga
  have hlb := FoundOk.len I3 gb
  have na := ra.len
  have nc := rc.len
  simp only [↓RP, RS, Int.reduceBEq, Int.reduceBNe, Int.reduceLT, Int.reduceLE, Int.reduceAdd, Int.reduceSub, ↓reduceIte, Nat.reduceAdd, Nat.reduceMul, Nat.reduceSub, Nat.reduceLT, Nat.reduceLeDiff, Nat.reduceEqDiff, decide_true, decide_false, fieldAddrF, undE, tupE, W6]
  refine Loop_k [7, 12, 13, 14, 15, 16] (fun k : Nat => fr 0 123 [(7, .d (.bool true)), (12, va), (13, vb), (14, vc), (15, .d (.int .i64 (meet (la.take k) lb).length)), (16, .d (.int .i64 k))]) (fun _ => s8) (fun k => k ≤ la.length) (fun k => la.length - k) 0 (by kernel_rfl) rfl (Nat.zero_le _) fun k hk => ?_
  by_cases hlt : k < la.length
  · have e3 : decide ((k : Int) < (la.length : Int)) = true := decide_eq_true (by omega)
    have w1 : IntKind.i64.wrap ((k : Int) + 1) = ((k + 1 : Nat) : Int) := by rw [IntWalk.i64_in _ (by omega)]; rfl
    obtain ⟨y, gy⟩ : ∃ y, la[k]? = some y := ⟨_, List.getElem?_eq_getElem hlt⟩
    obtain ⟨ad, x1, x2⟩ := ra.get gy
    have hmp := meet_pre la lb k
    rw [List.length_take] at hmp
    have hms := meet_step (lb := lb) gy
    by_cases hk0 : k = 0
    · have z0 : decide ((0 : Int) < (k : Int)) = false := decide_eq_false (by omega)
      simp only [fr, ↓RP, RS, Int.reduceBEq, Int.reduceBNe, Int.reduceLT, Int.reduceLE, Int.reduceAdd, Int.reduceSub, ↓reduceIte, Nat.reduceAdd, Nat.reduceMul, Nat.reduceSub, Nat.reduceLT, Nat.reduceLeDiff, Nat.reduceEqDiff, decide_true, decide_false, fieldAddrF, undE, tupE, W6, na, e3, z0, x1, x2]
      refine CallK_use' (has23 rb (by omega) y) fun v0 s9 ⟨q1, q2⟩ => ?_
      subst q1; rw [q2]
      cases hd : decide (y ∈ lb) with
      | false =>
        rw [hd] at hms
        simp only [Bool.false_eq_true, if_false, List.append_nil] at hms
        simp only [↓RP, RS, Int.reduceBEq, Int.reduceBNe, Int.reduceLT, Int.reduceLE, Int.reduceAdd, Int.reduceSub, ↓reduceIte, Nat.reduceAdd, Nat.reduceMul, Nat.reduceSub, Nat.reduceLT, Nat.reduceLeDiff, Nat.reduceEqDiff, decide_true, decide_false, fieldAddrF, undE, tupE, W6, w1]
        exact seqK_n ⟨k + 1, hlt, by omega, by rw [hms]; kernel_rfl, rfl⟩
      | true =>
        have hg := meet_get gy hd
        have hgl := (List.getElem?_eq_some_iff.1 hg).1
        obtain ⟨cd, u1, u2⟩ := rc.get hg
        have z1 : decide (((meet la lb).length : Int) ≤ ((meet (la.take k) lb).length : Int)) = false := decide_eq_false (by omega)
        have z2 : (y == y) = true := by simp
        have w3 : IntKind.i64.wrap (((meet (la.take k) lb).length : Int) + 1) = (((meet (la.take k) lb).length + 1 : Nat) : Int) := by rw [IntWalk.i64_in _ (by omega)]; rfl
        rw [hd] at hms
        simp only [if_true] at hms
        simp only [↓RP, RS, Int.reduceBEq, Int.reduceBNe, Int.reduceLT, Int.reduceLE, Int.reduceAdd, Int.reduceSub, ↓reduceIte, Nat.reduceAdd, Nat.reduceMul, Nat.reduceSub, Nat.reduceLT, Nat.reduceLeDiff, Nat.reduceEqDiff, decide_true, decide_false, fieldAddrF, undE, tupE, W6, nc, z1, u1, u2, x1, x2, strBin, z2, w3, w1]
        exact seqK_n ⟨k + 1, hlt, by omega, by rw [hms, List.length_append, List.length_cons, List.length_nil]; kernel_rfl, rfl⟩
    · have z0 : decide ((0 : Int) < (k : Int)) = true := decide_eq_true (by omega)
      have w2 : IntKind.i64.wrap ((k : Int) - 1) = ((k - 1 : Nat) : Int) := by rw [IntWalk.i64_in _ (by omega)]; omega
      obtain ⟨y', gy'⟩ : ∃ y, la[k - 1]? = some y := ⟨_, List.getElem?_eq_getElem (by omega)⟩
      obtain ⟨ad', x3, x4⟩ := ra.get gy'
      have hasc := Asc.drop_lt (show Asc la from ga.1) gy' y (by
        rw [show k - 1 + 1 = k by omega, drop_split gy]; simp)
      have bl : Op.bytesLess y' y = true := by rw [bytesLess_eq]; exact decide_eq_true hasc
      simp only [fr, ↓RP, RS, Int.reduceBEq, Int.reduceBNe, Int.reduceLT, Int.reduceLE, Int.reduceAdd, Int.reduceSub, ↓reduceIte, Nat.reduceAdd, Nat.reduceMul, Nat.reduceSub, Nat.reduceLT, Nat.reduceLeDiff, Nat.reduceEqDiff, decide_true, decide_false, fieldAddrF, undE, tupE, W6, na, e3, z0, w2, x1, x2, x3, x4, strBin, bl]
      refine CallK_use' (has23 rb (by omega) y) fun v0 s9 ⟨q1, q2⟩ => ?_
      subst q1; rw [q2]
      cases hd : decide (y ∈ lb) with
      | false =>
        rw [hd] at hms
        simp only [Bool.false_eq_true, if_false, List.append_nil] at hms
        simp only [↓RP, RS, Int.reduceBEq, Int.reduceBNe, Int.reduceLT, Int.reduceLE, Int.reduceAdd, Int.reduceSub, ↓reduceIte, Nat.reduceAdd, Nat.reduceMul, Nat.reduceSub, Nat.reduceLT, Nat.reduceLeDiff, Nat.reduceEqDiff, decide_true, decide_false, fieldAddrF, undE, tupE, W6, w1]
        exact seqK_n ⟨k + 1, hlt, by omega, by rw [hms]; kernel_rfl, rfl⟩
      | true =>
        have hg := meet_get gy hd
        have hgl := (List.getElem?_eq_some_iff.1 hg).1
        obtain ⟨cd, u1, u2⟩ := rc.get hg
        have z1 : decide (((meet la lb).length : Int) ≤ ((meet (la.take k) lb).length : Int)) = false := decide_eq_false (by omega)
        have z2 : (y == y) = true := by simp
        have w3 : IntKind.i64.wrap (((meet (la.take k) lb).length : Int) + 1) = (((meet (la.take k) lb).length + 1 : Nat) : Int) := by rw [IntWalk.i64_in _ (by omega)]; rfl
        rw [hd] at hms
        simp only [if_true] at hms
        simp only [↓RP, RS, Int.reduceBEq, Int.reduceBNe, Int.reduceLT, Int.reduceLE, Int.reduceAdd, Int.reduceSub, ↓reduceIte, Nat.reduceAdd, Nat.reduceMul, Nat.reduceSub, Nat.reduceLT, Nat.reduceLeDiff, Nat.reduceEqDiff, decide_true, decide_false, fieldAddrF, undE, tupE, W6, nc, z1, u1, u2, x1, x2, strBin, z2, w3, w1]
        exact seqK_n ⟨k + 1, hlt, by omega, by rw [hms, List.length_append, List.length_cons, List.length_nil]; kernel_rfl, rfl⟩
  · have e3 : decide ((k : Int) < (la.length : Int)) = false := decide_eq_false (by omega)
    have htk : la.take k = la := List.take_of_length_le (by omega)
    have eq : (((meet la lb).length : Int) == ((meet la lb).length : Int)) = true := by simp
    simp only [fr, ↓RP, RS, Int.reduceBEq, Int.reduceBNe, Int.reduceLT, Int.reduceLE, Int.reduceAdd, Int.reduceSub, ↓reduceIte, Nat.reduceAdd, Nat.reduceMul, Nat.reduceSub, Nat.reduceLT, Nat.reduceLeDiff, Nat.reduceEqDiff, decide_true, decide_false, fieldAddrF, undE, tupE, W6, na, e3, htk, nc, eq]
    exact hK.ret (by rfl) rfl
end Go.Proofs.Ytjidelngljpbdaa.Am
