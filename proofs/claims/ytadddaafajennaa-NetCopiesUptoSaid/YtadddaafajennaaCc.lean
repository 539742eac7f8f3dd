/- Walks: the copy of a message without entries; the message that the law makes its own. -/
import Derived.Test.YtadddaafajennaaCb
set_option linter.unusedSimpArgs false
set_option linter.unusedVariables false
set_option maxRecDepth 10000
namespace Go.Proofs.Ytadddaafajennaa.Am
open Go Go.Proofs

theorem copy46z {ms : List D} {lk : List D} (h : MsgIs ms [] lk) : callA Try.prog 46 [.agg (ms.map .d)] [] (NewM ms) := by
  refine w46.go fun K hK => ?_
  have l1 : ∀ τ, loadF Try.prog 33 (Ob.box (ms.map .d) :: τ) (.ptr 0 0 10) = some (.d (.lst 50 [])) := fun τ => load_box rfl (d_get h.ents_) (by simp only [W46]) (by simp only [W46])
  simp only [e46, c46, p46, Try.f46, codeOf, comp, opsOf, stOf, cop, cstp, copAt, planFor, List.find?, List.find?_nil, Option.map_none, Option.getD_none, List.any_cons, List.any_nil, Stp.idx, Bool.or_false, Nat.reduceBEq, ↓RP, RS, W46, boxE, allocE, fieldAddrF, cellsV, l1, ↓reduceIte, Nat.reduceAdd, Nat.reduceLT, alive]
  refine CallK_use (callA_at (clone49o [] (by simp)) _ rfl) fun v σ' ⟨r0, σ0, ⟨q1, q2⟩, e1, e2⟩ => ⟨trivial, ?_⟩
  subst q1; subst q2
  obtain rfl : v = .sl 2 0 0 := e1
  obtain rfl : σ' = [.box (ms.map .d), .box z42, .arr 50 false []] := e2
  have s1 := store_box (P := Try.prog) (t := 33) (σ := [.box (ms.map .d), .box z42, .arr 50 false []]) (o := 0) (k := 10) (x := .sl 2 0 0) rfl rfl (by simp [h.len]) (by simp only [W46])
  have l2 : ∀ τ, loadF Try.prog 33 (Ob.box ((ms.map .d).set 10 (.sl 2 0 0)) :: τ) (.ptr 0 0 10) = some (.sl 2 0 0) := fun τ => load_box rfl (by simp [h.len]) (by simp only [W46]) (by simp only [W46])
  simp only [↓RP, RS, W46, fieldAddrF, ↓reduceIte, Nat.reduceAdd, Nat.reduceLT, alive, s1, l2, undE]
  generalize hM : (ms.map V.d).set 10 (.sl 2 0 0) = M at *
  refine Loop_k [1, 2, 14, 15] (fun y : Unit => fr 0 62 [(1, .ptr 0 0 0), (2, .ptr 1 0 0), (14, .d (.int .i64 0)), (15, .d (.int .i64 0))])
    (fun y => [Ob.box M, Ob.box z42, Ob.arr 50 false []]) (fun y => True) (fun y => 0) () (by kernel_rfl) rfl trivial fun y hi => ?_
  have hd : decide ((0 : Int) < 0) = false := rfl
  have hlen : M.length = 34 := by rw [← hM]; simp [h.len]
  simp only [fr, ↓RP, RS, W46, fieldAddrF, ↓reduceIte, Nat.reduceAdd, Nat.reduceLT, Nat.reduceEqDiff, alive, l2, undE, hd]
  have l3 : ∀ ρ, loadF Try.prog 38 (Ob.box M :: ρ) (.ptr 0 0 33) = some (.d (.lst 1 lk)) := fun ρ => load_box (P := Try.prog) (t := 38) (o := 0) (k := 33) (x := .d (.lst 1 lk)) rfl (by rw [← hM]; simp [h.link]) (by simp only [W46]) (by simp only [W46])
  simp only [↓RP, RS, W46, l3]
  refine CallK_use' (callA_at (clone50o lk h.fewl) _ rfl) fun v σ' ⟨r0, σ0, ⟨q1, q2⟩, e1, e2⟩ => ?_
  subst q1; subst q2
  obtain rfl : v = .sl 3 0 lk.length := by rw [e1]; rfl
  obtain rfl : σ' = [Ob.box M, Ob.box z42, Ob.arr 50 false [], .arr 1 false lk] := by rw [e2]; rfl
  have s3 := store_box (P := Try.prog) (t := 38) (σ := [Ob.box M, Ob.box z42, Ob.arr 50 false [], .arr 1 false lk]) (o := 0) (k := 33) (x := .sl 3 0 lk.length) rfl rfl (by omega) (by simp only [W46])
  generalize hM' : M.set 33 (.sl 3 0 lk.length) = M' at *
  have hlen' : M'.length = 34 := by rw [← hM']; simp [hlen]
  have s3 : storeF Try.prog 38 [Ob.box M, Ob.box z42, Ob.arr 50 false [], .arr 1 false lk] (.ptr 0 0 33) (.sl 3 0 lk.length) = some [Ob.box M', Ob.box z42, Ob.arr 50 false [], .arr 1 false lk] := s3
  have l4 := load_all (P := Try.prog) (t := 42) (σ := [Ob.box M', Ob.box z42, Ob.arr 50 false [], .arr 1 false lk]) (o := 0) rfl (by simp [hlen', W46]) (by simp only [W46]) (by simp [W46])
  have hSM : ∀ (a b : Ob), OM [a, b, Ob.arr 50 false [], .arr 1 false lk] 0 4 M' ms := fun a b =>
    ⟨[], lk, .sl 2 0 0, .sl 3 0 lk.length, h, by rw [← hM', ← hM], .inl ⟨rfl, 2, rfl, rfl, by omega, by omega⟩, ⟨3, rfl, rfl, by omega, by omega⟩⟩
  have s4 := store_agg (P := Try.prog) (t := 42) (σ := [Ob.box M', Ob.box z42, Ob.arr 50 false [], .arr 1 false lk]) (o := 1) (k := 0) (xs := M') rfl (hSM _ _).all_one (by simp [hlen', W46]) (by simp [hlen', W46]) (by simp [W46])
  rw [setAt_all (by simp [hlen', W46])] at s4
  have s4 : storeF Try.prog 42 [Ob.box M', Ob.box z42, Ob.arr 50 false [], .arr 1 false lk] (.ptr 1 0 0) (.agg M') = some [Ob.box M', Ob.box M', Ob.arr 50 false [], .arr 1 false lk] := s4
  simp only [↓RP, RS, W46, fieldAddrF, ↓reduceIte, Nat.reduceAdd, Nat.reduceLT, Nat.reduceEqDiff, alive, s3, l4, s4, undE]
  have l5 := load_all (P := Try.prog) (t := 42) (σ := [Ob.box M', Ob.box M', Ob.arr 50 false [], .arr 1 false lk]) (o := 1) rfl (by simp [hlen', W46]) (by simp only [W46]) (by simp [W46])
  refine hK.ret (r := .agg M') (by simp only [resF, resAll, resOne, e46, RS, l5]) ⟨M', rfl, hSM _ _, fun x hx => ?_⟩
  have hMp := (hSM (Ob.box M') (Ob.box M')).pln
  simp only [List.mem_cons, List.not_mem_nil, or_false] at hx
  rcases hx with rfl | rfl | rfl | rfl
  · simpa [plnO] using hMp
  · simpa [plnO] using hMp
  · rfl
  · exact plnO_arr h.p1

theorem copy46n {ms : List D} {ents lk : List D} (h : MsgIs ms ents lk) : callA Try.prog 46 [.agg (ms.map .d)] [] (NewM ms) := by
  by_cases hn : ents = []
  · subst hn; exact copy46z h
  · exact copy46v h hn

/-- A list of data appended to an empty literal: a new object. -/
theorem app_lit {P : Program} {t tx e : TypeId} {sz : Nat} {ds : List D} (ρ : List Ob) (he : elemOfSlice P t = some e) (hk : elemOk P e = true) (hz : szOf P e = sz) (ht : isSliceT P tx = true) {b : Nat} (hbt : bytesT P e = b) (hb : ds.length * b ≤ 70368744177664) (hb' : b ≤ 16384) :
    ∃ q τ, appE P t tx (ρ ++ [.arr sz false []]) (.sl ρ.length 0 0) (.d (.lst sz ds)) = some (.sl q 0 ds.length, ρ ++ τ) ∧ (ρ ++ τ)[q]? = some (.arr sz false ds) ∧ ρ.length ≤ q ∧ q < ρ.length + τ.length ∧ (plnDs ds = true → ∀ x ∈ τ, plnO x = true) := by
  cases ds with
  | nil =>
    have := app_in (P := P) (t := t) (tx := tx) (σ := ρ ++ [.arr sz false []]) (o := ρ.length) (mk := false) (es := []) (off := 0) (len := 0) (src := .d (.lst sz [])) (ds := []) (by simp) he hk hz (src_lst ht hz) (by simp)
    refine ⟨ρ.length, [.arr sz false []], ?_, by simp, by omega, by simp, fun _ x hx => by simp only [List.mem_singleton] at hx; subst hx; rfl⟩
    rw [this]
    have e : (ρ ++ [Ob.arr sz false []]).set ρ.length (.arr sz false (over [] (0 + 0) [])) = ρ ++ [.arr sz false []] := by
      rw [List.set_append_right _ _ (by omega), Nat.sub_self]; rfl
    rw [e]; rfl
  | cons d ds =>
    have := app_new (P := P) (t := t) (tx := tx) (σ := ρ ++ [.arr sz false []]) (o := ρ.length) (mk := false) (es := []) (off := 0) (len := 0) (src := .d (.lst sz (d :: ds))) (ds := d :: ds) (by simp) he hk hz (src_lst ht hz) (by simp) (by simp) hbt (by simpa using hb) hb'
    refine ⟨ρ.length + 1, [.dead, .arr sz false (d :: ds)], ?_, ?_, by omega, by simp, fun h x hx => ?_⟩
    · rw [this]
      have e : (ρ ++ [Ob.arr sz false []]).set ρ.length .dead ++ [.arr sz false (([] : List D).drop 0 |>.take 0 |>.append (d :: ds))] = ρ ++ [.dead, .arr sz false (d :: ds)] := by
        rw [List.set_append_right _ _ (by omega), Nat.sub_self]; simp
      rw [show ρ ++ [Ob.dead, .arr sz false (d :: ds)] = _ from e.symm]
      simp
    · rw [List.getElem?_append_right (by omega)]; simp
    · simp only [List.mem_cons, List.not_mem_nil, or_false] at hx
      rcases hx with rfl | rfl
      · rfl
      · exact plnO_arr h

theorem bs33 (σ : List Ob) (s : List V) : buildSliceF Try.prog 33 0 σ s [] = some (.sl σ.length 0 0, σ ++ [.arr 50 false []]) := by simp [buildSliceF, W33, inOrder, toDs]
theorem bs38 (σ : List Ob) (s : List V) : buildSliceF Try.prog 38 0 σ s [] = some (.sl σ.length 0 0, σ ++ [.arr 1 false []]) := by simp [buildSliceF, W33, inOrder, toDs]
theorem bs84 (σ : List Ob) (s : List V) : buildSliceF Try.prog 84 0 σ s [] = some (.sl σ.length 0 0, σ ++ [.arr 5 false []]) := by simp [buildSliceF, W33, inOrder, toDs]

set_option maxHeartbeats 1000000 in
theorem own33v {ms : List D} {ents lk : List D} (h : MsgIs ms ents lk) (hn : ents ≠ []) : callA Try.prog 33 [.agg (ms.map .d)] [] (NewM ms) := by
  refine w33.go fun K hK => ?_
  have l1 : ∀ τ, loadF Try.prog 33 (Ob.box (ms.map .d) :: τ) (.ptr 0 0 10) = some (.d (.lst 50 ents)) := fun τ => load_box rfl (d_get h.ents_) (by simp only [W33]) (by simp only [W33])
  have ap := app_new (P := Try.prog) (t := 33) (e := 96) (tx := 33) (σ := [.box (ms.map .d), .box z42, .arr 50 false []]) (o := 2) (off := 0) (len := 0) (src := .d (.lst 50 ents)) (ds := ents) rfl (by simp only [W33]) (by simp only [W33]) (by simp only [W33]) (src_lst (by simp only [W33]) (by simp only [W33])) (by have := List.length_pos_iff.2 hn; simp; omega) (by simp) (b := 576) (by simp only [W33]) (by have := h.few; omega) (by decide)
  have ap : appE Try.prog 33 33 [.box (ms.map .d), .box z42, .arr 50 false []] (.sl 2 0 0) (.d (.lst 50 ents)) = some (.sl 3 0 ents.length, [.box (ms.map .d), .box z42, .dead, .arr 50 false ents]) := by rw [ap]; simp
  simp only [e33, c33, p33, Try.f33, codeOf, comp, opsOf, stOf, cop, cstp, copAt, planFor, List.find?, List.find?_nil, Option.map_none, Option.getD_none, List.any_cons, List.any_nil, Stp.idx, Bool.or_false, Nat.reduceBEq, ↓RP, RS, W33, boxE, allocE, fieldAddrF, cellsV, l1, ↓reduceIte, Nat.reduceAdd, Nat.reduceLT, alive, bs33, ap]
  refine LoopG_weak (Weak.vec (o := 3) (σ := [Ob.box (ms.map V.d), Ob.box z42, Ob.dead, Ob.arr 50 false ents]) rfl hn fun e he => (h.ent e he).csz) ?_
  have lM : ∀ ρ, loadF Try.prog 33 (Ob.box (ms.map V.d) :: ρ) (.ptr 0 0 10) = some (.d (.lst 50 ents)) := l1
  generalize hM : ms.map V.d = M at *
  refine Loop_k [1, 2, 3, 4] (fun y : Nat × List V × List Ob => fr 0 72 [(1, .ptr 0 0 0), (2, .ptr 1 0 0), (3, .sl 3 0 ents.length), (4, .d (.int .i64 y.1))])
    (fun y => Ob.box M :: Ob.box z42 :: Ob.dead :: Ob.vec 50 (y.2.1 ++ rowsV (ents.drop y.1)) :: y.2.2)
    (fun y => y.1 ≤ ents.length ∧ y.2.1.length = y.1 * 50 ∧ EntsO (Ob.box M :: Ob.box z42 :: Ob.dead :: Ob.vec 50 (y.2.1 ++ rowsV (ents.drop y.1)) :: y.2.2) 4 (y.2.2.length + 4) y.2.1 (ents.take y.1) ∧ ∀ x ∈ y.2.2, plnO x = true)
    (fun y => ents.length - y.1) (0, [], []) (by kernel_rfl) rfl ⟨Nat.zero_le _, rfl, rfl, by simp⟩ fun ⟨i, done, τ⟩ hi => ?_
  obtain ⟨hi, hdl, hde, hpl⟩ := hi
  simp only at hi hdl hde hpl ⊢
  have hw : IntKind.i64.wrap ((i : Int) + 1) = ((i + 1 : Nat) : Int) := by have := h.few; rw [IntWalk.i64_in _ (by omega)]; rfl
  have bs1 : ∀ (a b c d : Ob) (ρ : List Ob) (s : List V), buildSliceF Try.prog 38 0 (a :: b :: c :: d :: ρ) s [] = some (.sl (ρ.length + 4) 0 0, a :: b :: c :: d :: (ρ ++ [.arr 1 false []])) := fun a b c d ρ s => bs38 (a :: b :: c :: d :: ρ) s
  have bs2 : ∀ (a b c d : Ob) (ρ : List Ob) (s : List V), buildSliceF Try.prog 84 0 (a :: b :: c :: d :: ρ) s [] = some (.sl (ρ.length + 4) 0 0, a :: b :: c :: d :: (ρ ++ [.arr 5 false []])) := fun a b c d ρ s => bs84 (a :: b :: c :: d :: ρ) s
  have av : ∀ (a b c : Ob) (cs : List V) (ρ : List Ob), alive (a :: b :: c :: Ob.vec 50 cs :: ρ) 3 = true := fun _ _ _ _ _ => rfl
  by_cases hlt : i < ents.length
  · have hd : decide ((i : Int) < ents.length) = true := by simpa using hlt
    obtain ⟨es, to, wr, tod, he⟩ := h.ent ents[i] (by simp)
    have hdr : ents.drop i = ents[i] :: ents.drop (i + 1) := List.drop_eq_getElem_cons hlt
    have hrow : rowsV (ents.drop i) = es.map V.d ++ rowsV (ents.drop (i + 1)) := by rw [hdr, rowsV_cons he.eq]
    rw [hrow] at hde ⊢
    have hel : (es.map V.d).length = 50 := by simp [he.len]
    generalize hR : rowsV (ents.drop (i + 1)) = R at *
    have x1 : ∀ (a b c : Ob) (cs : List V) (ρ : List Ob), indexAddrF Try.prog 33 (a :: b :: c :: Ob.vec 50 cs :: ρ) (.sl 3 0 ents.length) (.d (.int .i64 (i : Int))) = some (.ptr 3 i 0) := fun a b c cs ρ => by
      have := index_vec (P := Try.prog) (t := 33) (kd := .i64) (σ := a :: b :: c :: Ob.vec 50 cs :: ρ) (o := 3) (off := 0) (e := 96) rfl (by simp only [W33]) (by simp only [W33]) (by decide) hlt
      rwa [Nat.zero_add] at this
    have a1 : ∀ (a b c : Ob) (ρ : List Ob), loadF Try.prog 38 (a :: b :: c :: Ob.vec 50 (done ++ (es.map V.d ++ R)) :: ρ) (.ptr 3 i 11) = some (.d (.lst 1 to)) := fun a b c ρ =>
      load_vec (P := Try.prog) (t := 38) (σ := a :: b :: c :: Ob.vec 50 (done ++ (es.map V.d ++ R)) :: ρ) (o := 3) (i := i) (k := 11) rfl (by rw [mid_get hdl (by omega)]; exact d_get he.h11) (by simp only [W33]) (by simp only [W33])
    have b1 : ∀ (a b c : Ob) (ρ : List Ob) (p len : Nat), alive (a :: b :: c :: Ob.vec 50 (done ++ (es.map V.d ++ R)) :: ρ) p = true → storeF Try.prog 38 (a :: b :: c :: Ob.vec 50 (done ++ (es.map V.d ++ R)) :: ρ) (.ptr 3 i 11) (.sl p 0 len) = some (a :: b :: c :: Ob.vec 50 (done ++ ((es.map V.d).set 11 (.sl p 0 len) ++ R)) :: ρ) := fun a b c ρ p len ha => by
      rw [store_vec (P := Try.prog) (t := 38) (σ := a :: b :: c :: Ob.vec 50 (done ++ (es.map V.d ++ R)) :: ρ) (o := 3) (i := i) (k := 11) rfl (one_sl ha) (by simp only [List.length_append, List.length_map, List.length_set, hdl, he.len]; omega) (by simp only [W33]), mid_set hdl (by omega)]
      rfl
    have a2 : ∀ (a b c : Ob) (ρ : List Ob) (v : V), loadF Try.prog 84 (a :: b :: c :: Ob.vec 50 (done ++ ((es.map V.d).set 11 v ++ R)) :: ρ) (.ptr 3 i 17) = some (.d (.lst 5 wr)) := fun a b c ρ v =>
      load_vec (P := Try.prog) (t := 84) (σ := a :: b :: c :: Ob.vec 50 (done ++ ((es.map V.d).set 11 v ++ R)) :: ρ) (o := 3) (i := i) (k := 17) rfl (by rw [mid_get hdl (by simp [he.len]), List.getElem?_set_ne (by decide)]; exact d_get he.h17) (by simp only [W33]) (by simp only [W33])
    have b2 : ∀ (a b c : Ob) (ρ : List Ob) (v : V) (p len : Nat), alive (a :: b :: c :: Ob.vec 50 (done ++ ((es.map V.d).set 11 v ++ R)) :: ρ) p = true → storeF Try.prog 84 (a :: b :: c :: Ob.vec 50 (done ++ ((es.map V.d).set 11 v ++ R)) :: ρ) (.ptr 3 i 17) (.sl p 0 len) = some (a :: b :: c :: Ob.vec 50 (done ++ (((es.map V.d).set 11 v).set 17 (.sl p 0 len) ++ R)) :: ρ) := fun a b c ρ v p len ha => by
      rw [store_vec (P := Try.prog) (t := 84) (σ := a :: b :: c :: Ob.vec 50 (done ++ ((es.map V.d).set 11 v ++ R)) :: ρ) (o := 3) (i := i) (k := 17) rfl (one_sl ha) (by simp only [List.length_append, List.length_map, List.length_set, hdl, he.len]; omega) (by simp only [W33]), mid_set hdl (by simp [he.len])]
      rfl
    have a3 : ∀ (a b c : Ob) (ρ : List Ob) (v u : V), loadF Try.prog 38 (a :: b :: c :: Ob.vec 50 (done ++ (((es.map V.d).set 11 v).set 17 u ++ R)) :: ρ) (.ptr 3 i 44) = some (.d (.lst 1 tod)) := fun a b c ρ v u =>
      load_vec (P := Try.prog) (t := 38) (σ := a :: b :: c :: Ob.vec 50 (done ++ (((es.map V.d).set 11 v).set 17 u ++ R)) :: ρ) (o := 3) (i := i) (k := 44) rfl (by rw [mid_get hdl (by simp [he.len]), List.getElem?_set_ne (by decide), List.getElem?_set_ne (by decide)]; exact d_get he.h44) (by simp only [W33]) (by simp only [W33])
    have b3 : ∀ (a b c : Ob) (ρ : List Ob) (v u : V) (p len : Nat), alive (a :: b :: c :: Ob.vec 50 (done ++ (((es.map V.d).set 11 v).set 17 u ++ R)) :: ρ) p = true → storeF Try.prog 38 (a :: b :: c :: Ob.vec 50 (done ++ (((es.map V.d).set 11 v).set 17 u ++ R)) :: ρ) (.ptr 3 i 44) (.sl p 0 len) = some (a :: b :: c :: Ob.vec 50 (done ++ ((((es.map V.d).set 11 v).set 17 u).set 44 (.sl p 0 len) ++ R)) :: ρ) := fun a b c ρ v u p len ha => by
      rw [store_vec (P := Try.prog) (t := 38) (σ := a :: b :: c :: Ob.vec 50 (done ++ (((es.map V.d).set 11 v).set 17 u ++ R)) :: ρ) (o := 3) (i := i) (k := 44) rfl (one_sl ha) (by simp only [List.length_append, List.length_map, List.length_set, hdl, he.len]; omega) (by simp only [W33]), mid_set hdl (by simp [he.len])]
      rfl
    obtain ⟨q1, t1, ap1, g1, m1, n1, p1⟩ := app_lit (P := Try.prog) (t := 38) (tx := 38) (e := 9) (sz := 1) (ds := to) (Ob.box M :: Ob.box z42 :: Ob.dead :: Ob.vec 50 (done ++ (es.map V.d ++ R)) :: τ) (by simp only [W33]) (by simp only [W33]) (by simp only [W33]) (by simp only [W33]) (b := 16) (by simp only [W33]) (by have := he.l1; omega) (by decide)
    simp only [List.cons_append, List.length_cons, Nat.add_assoc, Nat.reduceAdd] at ap1 g1 m1 n1
    have al1 : alive (Ob.box M :: Ob.box z42 :: Ob.dead :: Ob.vec 50 (done ++ (es.map V.d ++ R)) :: (τ ++ t1)) q1 = true := alive_of g1 (by simp)
    obtain ⟨q2, t2, ap2, g2, m2, n2, p2⟩ := app_lit (P := Try.prog) (t := 84) (tx := 84) (e := 99) (sz := 5) (ds := wr) (Ob.box M :: Ob.box z42 :: Ob.dead :: Ob.vec 50 (done ++ ((es.map V.d).set 11 (.sl q1 0 to.length) ++ R)) :: (τ ++ t1)) (by simp only [W33]) (by simp only [W33]) (by simp only [W33]) (by simp only [W33]) (b := 64) (by simp only [W33]) (by have := he.l2; omega) (by decide)
    simp only [List.cons_append, List.length_cons, Nat.add_assoc, Nat.reduceAdd] at ap2 g2 m2 n2
    have al2 : alive (Ob.box M :: Ob.box z42 :: Ob.dead :: Ob.vec 50 (done ++ ((es.map V.d).set 11 (.sl q1 0 to.length) ++ R)) :: ((τ ++ t1) ++ t2)) q2 = true := alive_of g2 (by simp)
    obtain ⟨q3, t3, ap3, g3, m3, n3, p3⟩ := app_lit (P := Try.prog) (t := 38) (tx := 38) (e := 9) (sz := 1) (ds := tod) (Ob.box M :: Ob.box z42 :: Ob.dead :: Ob.vec 50 (done ++ (((es.map V.d).set 11 (.sl q1 0 to.length)).set 17 (.sl q2 0 wr.length) ++ R)) :: ((τ ++ t1) ++ t2)) (by simp only [W33]) (by simp only [W33]) (by simp only [W33]) (by simp only [W33]) (b := 16) (by simp only [W33]) (by have := he.l3; omega) (by decide)
    simp only [List.cons_append, List.length_cons, Nat.add_assoc, Nat.reduceAdd] at ap3 g3 m3 n3
    have al3 : alive (Ob.box M :: Ob.box z42 :: Ob.dead :: Ob.vec 50 (done ++ (((es.map V.d).set 11 (.sl q1 0 to.length)).set 17 (.sl q2 0 wr.length) ++ R)) :: (((τ ++ t1) ++ t2) ++ t3)) q3 = true := alive_of g3 (by simp)
    simp only [fr, ↓RP, RS, W33, fieldAddrF, ↓reduceIte, Nat.reduceAdd, Nat.reduceLT, Nat.reduceEqDiff, alive, undE, hd, bs1, bs2, x1, a1, a2, a3, av, ap1, ap2, ap3, b1 _ _ _ _ _ _ al1, b2 _ _ _ _ _ _ _ al2, b3 _ _ _ _ _ _ _ _ al3, hw]
    refine seqK_n ⟨(i + 1, done ++ ((((es.map V.d).set 11 (.sl q1 0 to.length)).set 17 (.sl q2 0 wr.length)).set 44 (.sl q3 0 tod.length)), ((τ ++ t1) ++ t2) ++ t3), ⟨by omega, by simp only [List.length_append, List.length_map, List.length_set, hdl, he.len]; omega, ?_, ?_⟩, by simp only; omega, by kernel_rfl, ?_⟩
    · simp only
      rw [List.take_succ_eq_append_getElem hlt]
      simp only [List.length_append] at m2 n2 m3 n3
      have up : ∀ (a b c d a' b' c' d' x : Ob) (ρ ρ' : List Ob) (q : Nat), 4 ≤ q → (a :: b :: c :: d :: ρ)[q]? = some x → (a' :: b' :: c' :: d' :: (ρ ++ ρ'))[q]? = some x := fun a b c d a' b' c' d' x ρ ρ' q hq h => by
        obtain ⟨q, rfl⟩ : ∃ k, q = k + 4 := ⟨q - 4, by omega⟩
        simp only [List.getElem?_cons_succ] at h ⊢
        rw [List.getElem?_append_left (List.getElem?_eq_some_iff.1 h).1]
        exact h
      refine EntsO.snoc ⟨es, to, wr, tod, _, _, _, he, rfl, ⟨_, rfl, ?_, by omega, by simp only [List.length_append]; omega⟩, ⟨_, rfl, ?_, by omega, by simp only [List.length_append]; omega⟩, ⟨_, rfl, ?_, by omega, by simp only [List.length_append]; omega⟩⟩ (hde.keep (fun o x h1 h2 ho => ?_) (Nat.le_refl _) (by simp only [List.length_append]; omega))
      · rw [show ((τ ++ t1) ++ t2) ++ t3 = (τ ++ t1) ++ (t2 ++ t3) by simp only [List.append_assoc]]
        exact up _ _ _ _ _ _ _ _ _ _ _ _ (by omega) g1
      · exact up _ _ _ _ _ _ _ _ _ _ _ _ (by omega) g2
      · have := up _ _ _ _ (Ob.box M) (Ob.box z42) Ob.dead (Ob.vec 50 ((done ++ ((((es.map V.d).set 11 (.sl q1 0 to.length)).set 17 (.sl q2 0 wr.length)).set 44 (.sl q3 0 tod.length))) ++ rowsV (ents.drop (i + 1)))) _ _ [] _ (by omega) g3
        rwa [List.append_nil] at this
      · rw [show ((τ ++ t1) ++ t2) ++ t3 = τ ++ ((t1 ++ t2) ++ t3) by simp only [List.append_assoc]]
        exact up _ _ _ _ _ _ _ _ _ _ _ _ h1 ho
    · intro x hx
      simp only [List.append_assoc, List.mem_append] at hx
      rcases hx with hx | hx | hx | hx
      · exact hpl x hx
      · exact p1 he.p1 x hx
      · exact p2 he.p2 x hx
      · exact p3 he.p3 x hx
    · simp only [hR, List.append_assoc]
  · have hd : decide ((i : Int) < ents.length) = false := by simpa using hlt
    obtain rfl : i = ents.length := by omega
    rw [List.drop_length, show rowsV [] = ([] : List V) from rfl, List.append_nil, List.take_length] at *
    have hlen : M.length = 34 := by rw [← hM]; simp [h.len]
    have s1 : ∀ (b c : Ob) (cs : List V) (ρ : List Ob), storeF Try.prog 33 (Ob.box M :: b :: c :: Ob.vec 50 cs :: ρ) (.ptr 0 0 10) (.sl 3 0 ents.length) = some (Ob.box (M.set 10 (.sl 3 0 ents.length)) :: b :: c :: Ob.vec 50 cs :: ρ) := fun b c cs ρ => store_box (P := Try.prog) (t := 33) (σ := Ob.box M :: b :: c :: Ob.vec 50 cs :: ρ) (o := 0) (k := 10) (x := .sl 3 0 ents.length) rfl rfl (by omega) (by simp only [W33])
    have l3 : ∀ ρ, loadF Try.prog 38 (Ob.box (M.set 10 (.sl 3 0 ents.length)) :: ρ) (.ptr 0 0 33) = some (.d (.lst 1 lk)) := fun ρ => load_box (P := Try.prog) (t := 38) (o := 0) (k := 33) (x := .d (.lst 1 lk)) rfl (by rw [← hM]; simp [h.link]) (by simp only [W33]) (by simp only [W33])
    generalize hM1 : M.set 10 (.sl 3 0 ents.length) = M1 at *
    have hlen1 : M1.length = 34 := by rw [← hM1]; simp [hlen]
    obtain ⟨q1, t1, ap1, g1, m1, n1, p1⟩ := app_lit (P := Try.prog) (t := 38) (tx := 38) (e := 9) (sz := 1) (ds := lk) (Ob.box M1 :: Ob.box z42 :: Ob.dead :: Ob.vec 50 done :: τ) (by simp only [W33]) (by simp only [W33]) (by simp only [W33]) (by simp only [W33]) (b := 16) (by simp only [W33]) (by have := h.fewl; omega) (by decide)
    simp only [List.cons_append, List.length_cons, Nat.add_assoc, Nat.reduceAdd] at ap1 g1 m1 n1
    have al1 : alive (Ob.box M1 :: Ob.box z42 :: Ob.dead :: Ob.vec 50 done :: (τ ++ t1)) q1 = true := alive_of g1 (by simp)
    have s3 := store_box (P := Try.prog) (t := 38) (σ := Ob.box M1 :: Ob.box z42 :: Ob.dead :: Ob.vec 50 done :: (τ ++ t1)) (o := 0) (k := 33) (x := .sl q1 0 lk.length) rfl (one_sl al1) (by omega) (by simp only [W33])
    generalize hM' : M1.set 33 (.sl q1 0 lk.length) = M' at *
    have hlen' : M'.length = 34 := by rw [← hM']; simp [hlen1]
    have s3 : storeF Try.prog 38 (Ob.box M1 :: Ob.box z42 :: Ob.dead :: Ob.vec 50 done :: (τ ++ t1)) (.ptr 0 0 33) (.sl q1 0 lk.length) = some (Ob.box M' :: Ob.box z42 :: Ob.dead :: Ob.vec 50 done :: (τ ++ t1)) := s3
    have l4 := load_all (P := Try.prog) (t := 42) (σ := Ob.box M' :: Ob.box z42 :: Ob.dead :: Ob.vec 50 done :: (τ ++ t1)) (o := 0) rfl (by simp [hlen', W33]) (by simp only [W33]) (by simp [W33])
    have hSM : ∀ (a b : Ob), OM (a :: b :: Ob.dead :: Ob.vec 50 done :: (τ ++ t1)) 0 ((τ ++ t1).length + 4) M' ms := fun a b => by
      refine ⟨ents, lk, .sl 3 0 ents.length, .sl q1 0 lk.length, h, by rw [← hM', ← hM1, ← hM], .inr ⟨hn, 3, done, rfl, rfl, by omega, by omega, hde.keep (fun o x h1 h2 ho => ?_) (by omega) (by simp only [List.length_append]; omega)⟩, ⟨_, rfl, ?_, by omega, by simp only [List.length_append]; omega⟩⟩
      · obtain ⟨o, rfl⟩ : ∃ k, o = k + 4 := ⟨o - 4, by omega⟩
        simp only [List.getElem?_cons_succ] at ho ⊢
        rw [List.getElem?_append_left (by omega)]
        exact ho
      · obtain ⟨q1, rfl⟩ : ∃ k, q1 = k + 4 := ⟨q1 - 4, by omega⟩
        simpa only [List.getElem?_cons_succ] using g1
    have s4 := store_agg (P := Try.prog) (t := 42) (σ := Ob.box M' :: Ob.box z42 :: Ob.dead :: Ob.vec 50 done :: (τ ++ t1)) (o := 1) (k := 0) (xs := M') rfl (hSM _ _).all_one (by simp [hlen', W33]) (by simp [hlen', W33]) (by simp [W33])
    rw [setAt_all (by simp [hlen', W33])] at s4
    have s4 : storeF Try.prog 42 (Ob.box M' :: Ob.box z42 :: Ob.dead :: Ob.vec 50 done :: (τ ++ t1)) (.ptr 1 0 0) (.agg M') = some (Ob.box M' :: Ob.box M' :: Ob.dead :: Ob.vec 50 done :: (τ ++ t1)) := s4
    simp only [fr, ↓RP, RS, W33, fieldAddrF, ↓reduceIte, Nat.reduceAdd, Nat.reduceLT, Nat.reduceEqDiff, alive, undE, hd, av, s1, bs1, l3, ap1, s3, l4, s4]
    have l5 := load_all (P := Try.prog) (t := 42) (σ := Ob.box M' :: Ob.box M' :: Ob.dead :: Ob.vec 50 done :: (τ ++ t1)) (o := 1) rfl (by simp [hlen', W33]) (by simp only [W33]) (by simp [W33])
    refine hK.ret (r := .agg M') (by simp only [resF, resAll, resOne, e33, RS, l5]) ⟨M', rfl, ?_, fun x hx => ?_⟩
    · have := hSM (Ob.box M') (Ob.box M')
      simpa using this
    · have hMp := (hSM (Ob.box M') (Ob.box M')).pln
      simp only [List.mem_cons, List.mem_append, List.not_mem_nil, or_false] at hx
      rcases hx with rfl | rfl | rfl | rfl | hx | hx
      · simpa [plnO] using hMp
      · simpa [plnO] using hMp
      · rfl
      · simp only [plnO]
        exact plnVs_all fun x hx => (hde.at x hx).2
      · exact hpl x hx
      · exact p1 h.p1 x hx

theorem own33z {ms : List D} {lk : List D} (h : MsgIs ms [] lk) : callA Try.prog 33 [.agg (ms.map .d)] [] (NewM ms) := by
  refine w33.go fun K hK => ?_
  have l1 : ∀ τ, loadF Try.prog 33 (Ob.box (ms.map .d) :: τ) (.ptr 0 0 10) = some (.d (.lst 50 [])) := fun τ => load_box rfl (d_get h.ents_) (by simp only [W33]) (by simp only [W33])
  have ap := app_in (P := Try.prog) (t := 33) (e := 96) (tx := 33) (σ := [.box (ms.map .d), .box z42, .arr 50 false []]) (o := 2) (mk := false) (es := []) (off := 0) (len := 0) (src := .d (.lst 50 [])) (ds := []) rfl (by simp only [W33]) (by simp only [W33]) (by simp only [W33]) (src_lst (by simp only [W33]) (by simp only [W33])) (by simp)
  have ap : appE Try.prog 33 33 [.box (ms.map .d), .box z42, .arr 50 false []] (.sl 2 0 0) (.d (.lst 50 [])) = some (.sl 2 0 0, [.box (ms.map .d), .box z42, .arr 50 false []]) := by rw [ap]; rfl
  simp only [e33, c33, p33, Try.f33, codeOf, comp, opsOf, stOf, cop, cstp, copAt, planFor, List.find?, List.find?_nil, Option.map_none, Option.getD_none, List.any_cons, List.any_nil, Stp.idx, Bool.or_false, Nat.reduceBEq, ↓RP, RS, W33, boxE, allocE, fieldAddrF, cellsV, l1, ↓reduceIte, Nat.reduceAdd, Nat.reduceLT, alive, bs33, ap]
  generalize hM : ms.map V.d = M at *
  refine Loop_k [1, 2, 3, 4] (fun y : Unit => fr 0 72 [(1, .ptr 0 0 0), (2, .ptr 1 0 0), (3, .sl 2 0 0), (4, .d (.int .i64 0))])
    (fun y => [Ob.box M, Ob.box z42, Ob.arr 50 false []]) (fun y => True) (fun y => 0) () (by kernel_rfl) rfl trivial fun y hi => ?_
  have hd : decide ((0 : Int) < ((0 : Nat) : Int)) = false := rfl
  have hlen : M.length = 34 := by rw [← hM]; simp [h.len]
  have bs1 : ∀ (a b c : Ob) (s : List V), buildSliceF Try.prog 38 0 [a, b, c] s [] = some (.sl 3 0 0, [a, b, c, .arr 1 false []]) := fun a b c s => bs38 [a, b, c] s
  have s1 : ∀ (b : Ob), storeF Try.prog 33 [Ob.box M, b, Ob.arr 50 false []] (.ptr 0 0 10) (.sl 2 0 0) = some [Ob.box (M.set 10 (.sl 2 0 0)), b, Ob.arr 50 false []] := fun b => store_box (P := Try.prog) (t := 33) (σ := [Ob.box M, b, Ob.arr 50 false []]) (o := 0) (k := 10) (x := .sl 2 0 0) rfl rfl (by omega) (by simp only [W33])
  have l3 : ∀ ρ, loadF Try.prog 38 (Ob.box (M.set 10 (.sl 2 0 0)) :: ρ) (.ptr 0 0 33) = some (.d (.lst 1 lk)) := fun ρ => load_box (P := Try.prog) (t := 38) (o := 0) (k := 33) (x := .d (.lst 1 lk)) rfl (by rw [← hM]; simp [h.link]) (by simp only [W33]) (by simp only [W33])
  generalize hM1 : M.set 10 (.sl 2 0 0) = M1 at *
  have hlen1 : M1.length = 34 := by rw [← hM1]; simp [hlen]
  obtain ⟨q1, t1, ap1, g1, m1, n1, p1⟩ := app_lit (P := Try.prog) (t := 38) (tx := 38) (e := 9) (sz := 1) (ds := lk) [Ob.box M1, Ob.box z42, Ob.arr 50 false []] (by simp only [W33]) (by simp only [W33]) (by simp only [W33]) (by simp only [W33]) (b := 16) (by simp only [W33]) (by have := h.fewl; omega) (by decide)
  simp only [List.cons_append, List.nil_append, List.length_cons, List.length_nil, Nat.reduceAdd] at ap1 g1 m1 n1
  have al1 : alive (Ob.box M1 :: Ob.box z42 :: Ob.arr 50 false [] :: t1) q1 = true := alive_of g1 (by simp)
  have s3 := store_box (P := Try.prog) (t := 38) (σ := Ob.box M1 :: Ob.box z42 :: Ob.arr 50 false [] :: t1) (o := 0) (k := 33) (x := .sl q1 0 lk.length) rfl (one_sl al1) (by omega) (by simp only [W33])
  generalize hM' : M1.set 33 (.sl q1 0 lk.length) = M' at *
  have hlen' : M'.length = 34 := by rw [← hM']; simp [hlen1]
  have s3 : storeF Try.prog 38 (Ob.box M1 :: Ob.box z42 :: Ob.arr 50 false [] :: t1) (.ptr 0 0 33) (.sl q1 0 lk.length) = some (Ob.box M' :: Ob.box z42 :: Ob.arr 50 false [] :: t1) := s3
  have l4 := load_all (P := Try.prog) (t := 42) (σ := Ob.box M' :: Ob.box z42 :: Ob.arr 50 false [] :: t1) (o := 0) rfl (by simp [hlen', W33]) (by simp only [W33]) (by simp [W33])
  have hSM : ∀ (a b : Ob), OM (a :: b :: Ob.arr 50 false [] :: t1) 0 (t1.length + 3) M' ms := fun a b => by
    refine ⟨[], lk, .sl 2 0 0, .sl q1 0 lk.length, h, by rw [← hM', ← hM1, ← hM], .inl ⟨rfl, 2, rfl, rfl, by omega, by omega⟩, ⟨_, rfl, ?_, by omega, by omega⟩⟩
    obtain ⟨q1, rfl⟩ : ∃ k, q1 = k + 3 := ⟨q1 - 3, by omega⟩
    simpa only [List.getElem?_cons_succ] using g1
  have s4 := store_agg (P := Try.prog) (t := 42) (σ := Ob.box M' :: Ob.box z42 :: Ob.arr 50 false [] :: t1) (o := 1) (k := 0) (xs := M') rfl (hSM _ _).all_one (by simp [hlen', W33]) (by simp [hlen', W33]) (by simp [W33])
  rw [setAt_all (by simp [hlen', W33])] at s4
  have s4 : storeF Try.prog 42 (Ob.box M' :: Ob.box z42 :: Ob.arr 50 false [] :: t1) (.ptr 1 0 0) (.agg M') = some (Ob.box M' :: Ob.box M' :: Ob.arr 50 false [] :: t1) := s4
  simp only [fr, ↓RP, RS, W33, fieldAddrF, ↓reduceIte, Nat.reduceAdd, Nat.reduceLT, Nat.reduceEqDiff, alive, undE, hd, s1, bs1, l3, ap1, s3, l4, s4]
  have l5 := load_all (P := Try.prog) (t := 42) (σ := Ob.box M' :: Ob.box M' :: Ob.arr 50 false [] :: t1) (o := 1) rfl (by simp [hlen', W33]) (by simp only [W33]) (by simp [W33])
  refine hK.ret (r := .agg M') (by simp only [resF, resAll, resOne, e33, RS, l5]) ⟨M', rfl, ?_, fun x hx => ?_⟩
  · have := hSM (Ob.box M') (Ob.box M')
    simpa using this
  · have hMp := (hSM (Ob.box M') (Ob.box M')).pln
    simp only [List.mem_cons] at hx
    rcases hx with rfl | rfl | rfl | hx
    · simpa [plnO] using hMp
    · simpa [plnO] using hMp
    · rfl
    · exact p1 h.p1 x hx

theorem own33n {ms : List D} {ents lk : List D} (h : MsgIs ms ents lk) : callA Try.prog 33 [.agg (ms.map .d)] [] (NewM ms) := by
  by_cases hn : ents = []
  · subst hn; exact own33z h
  · exact own33v h hn
end Go.Proofs.Ytadddaafajennaa.Am
