/- Walks: messages with memory of their own are removed and taken. -/
import Derived.Test.YtadddaafajennaaCe
set_option linter.unusedSimpArgs false
set_option linter.unusedVariables false
set_option maxRecDepth 10000
namespace Go.Proofs.Ytadddaafajennaa.Am
open Go Go.Proofs

section
variable {P : Program} {t tx e : TypeId} {σ : List Ob} {o sz : Nat} {cs : List V} {k1 k2 k3 : IntKind} {off len a b c : Nat}
theorem slv3 (h1 : σ[o]? = some (.vec sz cs)) (he : elemOfSlice P t = some e) (hz : szOf P e = sz) (h0 : 0 < sz) (hab : a ≤ b) (hbc : b ≤ c) (hc : c ≤ len) :
    sliceF P t σ (.sl o off len) (some (.d (.int k1 (a : Int)))) (some (.d (.int k2 (b : Int)))) (some (.d (.int k3 (c : Int)))) = some .undef := by
  subst hz
  simp only [sliceF, optNat_nat, he, h1, h0, Option.getD_some]
  rw [if_pos ⟨.inr (by simp), trivial, trivial⟩, if_pos ⟨hab, hbc, .inl hc⟩]
theorem slv_lohi (h1 : σ[o]? = some (.vec sz cs)) (he : elemOfSlice P t = some e) (hz : szOf P e = sz) (h0 : 0 < sz) (hab : a ≤ b) (hb : b ≤ len ∨ (off + b) * sz ≤ cs.length) :
    sliceF P t σ (.sl o off len) (some (.d (.int k1 (a : Int)))) (some (.d (.int k2 (b : Int)))) none = some (.sl o (off + a) (b - a)) := by
  subst hz
  simp only [sliceF, optNat_nat, optNat_none, he, h1, h0, Option.getD_some, Option.getD_none]
  rw [if_pos ⟨.inl trivial, trivial, trivial⟩, if_pos ⟨hab, Nat.le_refl _, hb⟩]
theorem slv_lo (h1 : σ[o]? = some (.vec sz cs)) (he : elemOfSlice P t = some e) (hz : szOf P e = sz) (h0 : 0 < sz) (ha : a ≤ len) :
    sliceF P t σ (.sl o off len) (some (.d (.int k1 (a : Int)))) none none = some (.sl o (off + a) (len - a)) := by
  subst hz
  simp only [sliceF, optNat_nat, optNat_none, he, h1, h0, Option.getD_some, Option.getD_none]
  rw [if_pos ⟨.inl trivial, trivial, trivial⟩, if_pos ⟨ha, Nat.le_refl _, .inl (Nat.le_refl _)⟩]
theorem slv_hi (h1 : σ[o]? = some (.vec sz cs)) (he : elemOfSlice P t = some e) (hz : szOf P e = sz) (h0 : 0 < sz) (hb : b ≤ len ∨ (off + b) * sz ≤ cs.length) :
    sliceF P t σ (.sl o off len) none (some (.d (.int k2 (b : Int)))) none = some (.sl o off b) := by
  subst hz
  simp only [sliceF, optNat_nat, optNat_none, he, h1, h0, Option.getD_some, Option.getD_none]
  rw [if_pos ⟨.inl trivial, trivial, trivial⟩, if_pos ⟨Nat.zero_le _, Nat.le_refl _, hb⟩]
  simp
theorem clv (h1 : σ[o]? = some (.vec sz cs)) (he : elemOfSlice P t = some e) (hk : elemOk P e = true) (hz : szOf P e = sz) {z : List V} {d : D} (hd : zeroD P e = some d) (hc : zeroCs P e = some z) (hl : z.length = sz) (h1z : z.all (one σ) = true) (hf : (off + len) * sz ≤ cs.length) :
    clearF P t σ (.sl o off len) = some (σ.set o (.vec sz (setAt cs (off * sz) (List.replicate len z).flatten))) := by
  subst hz
  simp only [clearF, he, hd, h1, hc]
  rw [if_pos ⟨hk, hl, trivial, hf, h1z⟩]
end

theorem z42_one (σ : List Ob) : z42.all (one σ) = true := rfl

section
variable {σ : List Ob} {x L R : Nat}

theorem del47v2 {p : Nat} {c1 c2 : List V} (hp : σ[p]? = some (.vec 34 (c1 ++ c2))) (l1 : c1.length = 34) (l2 : c2.length = 34) (h1 : c2.all (one σ) = true) :
    callA Try.prog 47 [.sl p 0 2, .d (.int .i64 0), .d (.int .i64 1)] σ fun r σ' => r = .sl p 0 1 ∧ σ' = σ.set p (.vec 34 (c2 ++ z42)) := by
  refine w47.go fun K hK => ?_
  have z : szOf Try.prog 42 = 34 := by simp only [W47]
  have cl : (c1 ++ c2).length = 68 := by simp [l1, l2]
  have e1 : ((0 : Int) == 1) = false := rfl
  have a0 := alive_of hp (by simp)
  have s1 : sliceF Try.prog 68 σ (.sl p 0 2) (some (.d (.int .i64 0))) (some (.d (.int .i64 1))) (some (.d (.int .i64 ((2 : Nat) : Int)))) = some .undef := slv3 (P := Try.prog) (t := 68) (e := 42) (k1 := .i64) (k2 := .i64) (k3 := .i64) (off := 0) (len := 2) (a := 0) (b := 1) (c := 2) hp (by simp only [W47]) z (by decide) (by omega) (by omega) (by omega)
  have s2 : sliceF Try.prog 68 σ (.sl p 0 2) none (some (.d (.int .i64 0))) none = some (.sl p 0 0) := slv_hi (P := Try.prog) (t := 68) (e := 42) (k2 := .i64) (off := 0) (len := 2) (b := 0) hp (by simp only [W47]) z (by decide) (by omega)
  have s3 : sliceF Try.prog 68 σ (.sl p 0 2) (some (.d (.int .i64 1))) none none = some (.sl p 1 1) := slv_lo (P := Try.prog) (t := 68) (e := 42) (k1 := .i64) (off := 0) (len := 2) (a := 1) hp (by simp only [W47]) z (by decide) (by omega)
  have hsrc : srcV Try.prog 42 σ 68 (.sl p 1 1) = some (c2, 1) := by
    simp only [srcV, hp, z]
    have : ((c1 ++ c2).drop (1 * 34)).take (1 * 34) = c2 := by
      rw [List.drop_append_of_le_length (by omega), List.drop_of_length_le (by omega), List.nil_append, List.take_of_length_le (by omega)]
    rw [this, if_pos ⟨by simp only [W47], trivial, by omega, h1⟩]
  have a1 : appE Try.prog 68 68 σ (.sl p 0 0) (.sl p 1 1) = some (.sl p 0 1, σ.set p (.vec 34 (c2 ++ c2))) := by
    have hset : setAt (c1 ++ c2) ((0 + 0) * 34) c2 = c2 ++ c2 := by
      simp only [setAt, Nat.zero_mul, List.take_zero, List.nil_append, Nat.zero_add, l2]
      rw [List.drop_append_of_le_length (by omega), List.drop_of_length_le (by omega), List.nil_append]
    simp only [appE, appendInF, appendF, appendVecF, W47, if_true, srcD_vec hp, hsrc, hp]
    rw [if_neg (by omega), if_pos ⟨trivial, by omega⟩, hset]
  have hp2 : (σ.set p (.vec 34 (c2 ++ c2)))[p]? = some (.vec 34 (c2 ++ c2)) := set_at hp _
  have a2 : alive (σ.set p (.vec 34 (c2 ++ c2))) p = true := alive_of hp2 (by simp)
  have s4 : sliceF Try.prog 68 (σ.set p (.vec 34 (c2 ++ c2))) (.sl p 0 1) (some (.d (.int .i64 ((1 : Nat) : Int)))) (some (.d (.int .i64 ((2 : Nat) : Int)))) none = some (.sl p 1 1) := slv_lohi (P := Try.prog) (t := 68) (e := 42) (k1 := .i64) (k2 := .i64) (off := 0) (len := 1) (a := 1) (b := 2) hp2 (by simp only [W47]) z (by decide) (by omega) (.inr (by simp [l2]))
  have c4 := clv (P := Try.prog) (t := 68) (e := 42) (off := 1) (len := 1) hp2 (by simp only [W47]) (by simp only [W47]) z (z := z42) (by simp only [W47]; rfl) (by simp only [W47]) (by decide) (z42_one _) (by simp [l2])
  have hset : setAt (c2 ++ c2) (1 * 34) (List.replicate 1 z42).flatten = c2 ++ z42 := by
    have hz : z42.length = 34 := by decide
    simp only [setAt, Nat.one_mul, List.replicate_one, List.flatten_cons, List.flatten_nil, List.append_nil, hz]
    rw [List.take_append_of_le_length (by omega), List.take_of_length_le (by omega), List.drop_of_length_le (by simp [l2]), List.append_nil]
  rw [hset, List.set_set] at c4
  simp only [e47, c47, p47, Try.f47, codeOf, comp, opsOf, stOf, cop, cstp, copAt, planFor, List.find?, List.find?_nil, Option.map_none, Option.getD_none, List.any_cons, List.any_nil, Stp.idx, Bool.or_false, Nat.reduceBEq, ↓RP, RS, W47, a0, a2, e1, s1, s2, s3, a1, s4, c4, tupE]
  exact hK.ret (r := .sl p 0 1) (by rfl) ⟨rfl, rfl⟩

theorem del47v1 {p : Nat} {c1 c2 : List V} (hp : σ[p]? = some (.vec 34 (c1 ++ c2))) (l1 : c1.length = 34) (l2 : c2.length = 34) :
    callA Try.prog 47 [.sl p 0 1, .d (.int .i64 0), .d (.int .i64 1)] σ fun r σ' => r = .sl p 0 0 ∧ σ' = σ.set p (.vec 34 (z42 ++ c2)) := by
  refine w47.go fun K hK => ?_
  have z : szOf Try.prog 42 = 34 := by simp only [W47]
  have cl : (c1 ++ c2).length = 68 := by simp [l1, l2]
  have e1 : ((0 : Int) == 1) = false := rfl
  have a0 := alive_of hp (by simp)
  have s1 : sliceF Try.prog 68 σ (.sl p 0 1) (some (.d (.int .i64 0))) (some (.d (.int .i64 1))) (some (.d (.int .i64 ((1 : Nat) : Int)))) = some .undef := slv3 (P := Try.prog) (t := 68) (e := 42) (k1 := .i64) (k2 := .i64) (k3 := .i64) (off := 0) (len := 1) (a := 0) (b := 1) (c := 1) hp (by simp only [W47]) z (by decide) (by omega) (by omega) (by omega)
  have s2 : sliceF Try.prog 68 σ (.sl p 0 1) none (some (.d (.int .i64 0))) none = some (.sl p 0 0) := slv_hi (P := Try.prog) (t := 68) (e := 42) (k2 := .i64) (off := 0) (len := 1) (b := 0) hp (by simp only [W47]) z (by decide) (by omega)
  have s3 : sliceF Try.prog 68 σ (.sl p 0 1) (some (.d (.int .i64 1))) none none = some (.sl p 1 0) := slv_lo (P := Try.prog) (t := 68) (e := 42) (k1 := .i64) (off := 0) (len := 1) (a := 1) hp (by simp only [W47]) z (by decide) (by omega)
  have hsrc : srcV Try.prog 42 σ 68 (.sl p 1 0) = some ([], 0) := by
    simp only [srcV, hp, z, Nat.zero_mul, List.take_zero]
    rw [if_pos ⟨by simp only [W47], trivial, by omega, rfl⟩]
  have a1 : appE Try.prog 68 68 σ (.sl p 0 0) (.sl p 1 0) = some (.sl p 0 0, σ) := by
    simp only [appE, appendInF, appendF, appendVecF, W47, if_true, srcD_vec hp, hsrc, hp]
    rw [if_pos ⟨trivial, trivial⟩]
  have s4 : sliceF Try.prog 68 σ (.sl p 0 0) (some (.d (.int .i64 ((0 : Nat) : Int)))) (some (.d (.int .i64 ((1 : Nat) : Int)))) none = some (.sl p 0 1) := slv_lohi (P := Try.prog) (t := 68) (e := 42) (k1 := .i64) (k2 := .i64) (off := 0) (len := 0) (a := 0) (b := 1) hp (by simp only [W47]) z (by decide) (by omega) (.inr (by omega))
  have c4 := clv (P := Try.prog) (t := 68) (e := 42) (off := 0) (len := 1) hp (by simp only [W47]) (by simp only [W47]) z (z := z42) (by simp only [W47]; rfl) (by simp only [W47]) (by decide) (z42_one _) (by omega)
  have hset : setAt (c1 ++ c2) (0 * 34) (List.replicate 1 z42).flatten = z42 ++ c2 := by
    have hz : z42.length = 34 := by decide
    simp only [setAt, Nat.zero_mul, List.take_zero, List.nil_append, List.replicate_one, List.flatten_cons, List.flatten_nil, List.append_nil, hz, Nat.zero_add]
    rw [List.drop_append_of_le_length (by omega), List.drop_of_length_le (by omega), List.nil_append]
  rw [hset] at c4
  simp only [e47, c47, p47, Try.f47, codeOf, comp, opsOf, stOf, cop, cstp, copAt, planFor, List.find?, List.find?_nil, Option.map_none, Option.getD_none, List.any_cons, List.any_nil, Stp.idx, Bool.or_false, Nat.reduceBEq, ↓RP, RS, W47, a0, e1, s1, s2, s3, a1, s4, c4, tupE]
  exact hK.ret (r := .sl p 0 0) (by rfl) ⟨rfl, rfl⟩

theorem rem41v {o k p n : Nat} {cs c1 c2 cs' : List V} (h1 : σ[o]? = some (.box cs)) (h2 : cs[k]? = some (.sl p 0 (n + 1))) (h3 : σ[p]? = some (.vec 34 (c1 ++ c2))) (hpo : p ≠ o) (l1 : c1.length = 34) (ho1 : c1.all (one σ) = true)
    (hdel : ∀ σ3 : List Ob, σ3[p]? = some (.vec 34 (c1 ++ c2)) → (∀ y, one σ y = true → one σ3 y = true) → callA Try.prog 47 [.sl p 0 (n + 1), .d (.int .i64 0), .d (.int .i64 1)] σ3 fun r σ' => r = .sl p 0 n ∧ σ' = σ3.set p (.vec 34 cs')) :
    callA Try.prog 41 [.ptr o 0 k, .d (.int .i64 0)] σ (fun r σ' => r = .agg c1 ∧ σ'[o]? = some (.box (cs.set k (.sl p 0 n))) ∧ σ'[p]? = some (.vec 34 cs') ∧ Keeps (fun j => j = o ∨ j = p) σ σ') := by
  refine w41.go fun K hK => ?_
  have hk : k < cs.length := (List.getElem?_eq_some_iff.1 h2).1
  have ho := lt_of_get h1
  have hpl := lt_of_get h3
  generalize hσ1 : σ ++ [Ob.box z42] = σ1
  have gl1 : σ1.length = σ.length + 1 := by rw [← hσ1]; simp
  have o1 : σ1[o]? = some (.box cs) := by rw [← hσ1]; exact app_get h1 _
  have q1 : σ1[p]? = some (.vec 34 (c1 ++ c2)) := by rw [← hσ1]; exact app_get h3 _
  have a1 := alive_of o1 (by simp)
  have b1 := alive_of q1 (by simp)
  have z : szOf Try.prog 42 = 34 := by simp only [W41]
  have l1' := load_box (P := Try.prog) (t := 68) o1 h2 (by simp only [W41]) (by simp only [W41])
  have x1 := index_vec (P := Try.prog) (t := 68) (e := 42) (kd := .i64) (off := 0) (len := n + 1) (j := 0) q1 (by simp only [W41]) z (by decide) (by omega)
  have x1 : indexAddrF Try.prog 68 σ1 (.sl p 0 (n + 1)) (.d (.int .i64 0)) = some (.ptr p 0 0) := x1
  have l2 := load_vecs (P := Try.prog) (t := 42) (i := 0) (k := 0) q1 (by simp only [W41]) (by simp [W41]) (by rw [z]; simp [l1])
  rw [z, Nat.zero_mul, Nat.add_zero, List.drop_zero, List.take_append_of_le_length (by omega), List.take_of_length_le (by omega)] at l2
  generalize hσ2 : σ1 ++ [Ob.box z42] = σ2
  have gl2 : σ2.length = σ.length + 2 := by rw [← hσ2]; simp [gl1]
  have n2 : σ2[σ1.length]? = some (.box z42) := by rw [← hσ2]; simp
  have up2 : ∀ y, one σ y = true → one σ2 y = true := fun y hy => by
    rw [← hσ2, ← hσ1]
    exact one_alive (fun o q => alive_app q _) (one_alive (fun o q => alive_app q _) hy)
  have hz : z42.length = 34 := by decide
  have st := store_agg (P := Try.prog) (t := 42) (k := 0) (xs := c1) n2 (List.all_eq_true.2 fun y hy => up2 y (List.all_eq_true.1 ho1 y hy)) (by simp [l1, hz]) (by simp [W41, l1]) (by simp [W41])
  rw [setAt_all (by simp [l1, hz])] at st
  generalize hσ3 : σ2.set σ1.length (Ob.box c1) = σ3 at st
  have gl3 : σ3.length = σ.length + 2 := by rw [← hσ3]; simp [gl2]
  have o3 : σ3[o]? = some (.box cs) := by rw [← hσ3]; exact set_get (by rw [← hσ2]; exact app_get o1 _) (by omega) _
  have q3 : σ3[p]? = some (.vec 34 (c1 ++ c2)) := by rw [← hσ3]; exact set_get (by rw [← hσ2]; exact app_get q1 _) (by omega) _
  have m3 : σ3[σ1.length]? = some (.box c1) := by rw [← hσ3]; exact set_at n2 _
  have z3 : σ3[σ.length]? = some (.box z42) := by rw [← hσ3, List.getElem?_set_ne (by omega), ← hσ2, List.getElem?_append_left (by omega), ← hσ1]; simp
  have a3 := alive_of o3 (by simp)
  have b3 := alive_of q3 (by simp)
  have l3 := load_box (P := Try.prog) (t := 68) o3 h2 (by simp only [W41]) (by simp only [W41])
  have w1 : IntKind.i64.wrap ((0 : Int) + 1) = 1 := rfl
  have kp3 : Keeps (fun j => j = o ∨ j = p) σ σ3 := by
    rw [← hσ3, ← hσ2, ← hσ1]
    refine ⟨by simp, fun j hj _ => ?_⟩
    rw [List.getElem?_set_ne (by simp; omega), List.getElem?_append_left (by simp; omega), List.getElem?_append_left hj]
  have al3 : ∀ j, alive σ j = true → alive σ3 j = true := fun j hj => by
    have hjl : j < σ.length := by
      rcases Nat.lt_or_ge j σ.length with q | q
      · exact q
      · unfold alive at hj; rw [List.getElem?_eq_none q] at hj; cases hj
    have e : σ3[j]? = σ[j]? := by
      rw [← hσ3, List.getElem?_set_ne (by omega), ← hσ2, List.getElem?_append_left (by omega), ← hσ1, List.getElem?_append_left hjl]
    unfold alive at hj ⊢
    rw [e]; exact hj
  simp only [e41, c41, p41, Try.f41, codeOf, comp, opsOf, stOf, cop, cstp, copAt, planFor, List.find?, List.find?_nil, Option.map_none, Option.getD_none, List.any_cons, List.any_nil, Stp.idx, Bool.or_false, Nat.reduceBEq, ↓RP, RS, Int.reduceBEq, Int.reduceBNe, Int.reduceLT, Int.reduceLE, Int.reduceAdd, Int.reduceSub, ↓reduceIte, Nat.reduceAdd, Nat.reduceMul, Nat.reduceSub, Nat.reduceLT, Nat.reduceLeDiff, Nat.reduceEqDiff, decide_true, decide_false, fieldAddrF, undE, tupE, W41, allocE, hσ1, hσ2, a1, b1, l1', x1, l2, st, a3, b3, l3, w1]
  refine CallK_use' (hdel σ3 q3 fun y hy => one_alive al3 hy) fun v σ' ⟨e1, e2⟩ => ?_
  subst e1; subst e2
  generalize hσ4 : σ3.set p (Ob.vec 34 cs') = σ4
  have gl4 : σ4.length = σ.length + 2 := by rw [← hσ4]; simp [gl3]
  have o4 : σ4[o]? = some (.box cs) := by rw [← hσ4]; exact set_get o3 (fun e => hpo e) _
  have q4 : σ4[p]? = some (.vec 34 cs') := by rw [← hσ4]; exact set_at q3 _
  have m4 : σ4[σ1.length]? = some (.box c1) := by rw [← hσ4]; exact set_get m3 (by omega) _
  have z4 : σ4[σ.length]? = some (.box z42) := by rw [← hσ4]; exact set_get z3 (by omega) _
  have a4 := alive_of o4 (by simp)
  have st4 := store_box (P := Try.prog) (t := 68) (k := k) (x := .sl p 0 n) o4 (one_sl (alive_of q4 (by simp))) hk (by simp only [W41])
  have al4 : ∀ j, alive σ j = true → alive σ4 j = true := fun j hj => by
    have := al3 j hj
    rw [← hσ4]
    by_cases hjp : p = j
    · subst hjp; exact alive_of (set_at q3 _) (by simp)
    · unfold alive at this ⊢; rw [List.getElem?_set_ne hjp]; exact this
  generalize hσ5 : σ4.set o (Ob.box (cs.set k (.sl p 0 n))) = σ5 at st4
  have gl5 : σ5.length = σ.length + 2 := by rw [← hσ5]; simp [gl4]
  have m5 : σ5[σ1.length]? = some (.box c1) := by rw [← hσ5]; exact set_get m4 (by omega) _
  have z5 : σ5[σ.length]? = some (.box z42) := by rw [← hσ5]; exact set_get z4 (by omega) _
  have al5 : ∀ j, alive σ j = true → alive σ5 j = true := fun j hj => by
    have := al4 j hj
    rw [← hσ5]
    by_cases hjp : o = j
    · subst hjp; exact alive_of (set_at o4 _) (by simp)
    · unfold alive at this ⊢; rw [List.getElem?_set_ne hjp]; exact this
  have l5 := load_all (P := Try.prog) (t := 42) m5 (by simp [l1, W41]) (by simp only [W41]) (by simp [W41])
  have st5 := store_agg (P := Try.prog) (t := 42) (k := 0) (xs := c1) z5 (List.all_eq_true.2 fun y hy => one_alive al5 (List.all_eq_true.1 ho1 y hy)) (by simp [l1, hz]) (by simp [l1, W41]) (by simp [W41])
  rw [setAt_all (by simp [l1, hz])] at st5
  simp only [↓RP, RS, Int.reduceBEq, Int.reduceBNe, Int.reduceLT, Int.reduceLE, Int.reduceAdd, Int.reduceSub, ↓reduceIte, Nat.reduceAdd, Nat.reduceMul, Nat.reduceSub, Nat.reduceLT, Nat.reduceLeDiff, Nat.reduceEqDiff, decide_true, decide_false, fieldAddrF, undE, tupE, W41, a4, st4, l5, st5]
  refine hK.ret (r := .agg c1) ?_ ⟨rfl, ?_, ?_, ?_⟩
  · have l6 := load_all (P := Try.prog) (t := 42) (set_at z5 (.box c1)) (by simp [l1, W41]) (by simp only [W41]) (by simp [W41])
    simp only [resF, resAll, resOne, e41, RS, l6]
  · rw [List.getElem?_set_ne (by omega), ← hσ5]; exact set_at o4 _
  · rw [List.getElem?_set_ne (by omega), ← hσ5]; exact set_get q4 (fun e => hpo e.symm) _
  · have k4 : Keeps (fun j => j = o ∨ j = p) σ σ5 := by
      rw [← hσ5, ← hσ4]
      exact (kp3.trans (Keeps.set (S := fun j => j = o ∨ j = p) _ _ (.inr rfl)) (fun _ _ h => h)).trans (Keeps.set _ _ (.inl rfl)) (fun _ _ h => h)
    exact ⟨by simp; exact k4.1, fun j hj hs => by rw [List.getElem?_set_ne (by omega)]; exact k4.2 j hj hs⟩

theorem take15v {p n : Nat} {c1 c2 cs' : List V} (h : LkAt σ x L R (.sl p 0 (n + 1))) (hx : x ≠ R) (hL : L ≠ R) (hpR : p ≠ R) (hxp : x ≠ p) (hLp : L ≠ p) (hp : σ[p]? = some (.vec 34 (c1 ++ c2))) (l1 : c1.length = 34) (ho1 : c1.all (one σ) = true)
    (hdel : ∀ σ3 : List Ob, σ3[p]? = some (.vec 34 (c1 ++ c2)) → (∀ y, one σ y = true → one σ3 y = true) → callA Try.prog 47 [.sl p 0 (n + 1), .d (.int .i64 0), .d (.int .i64 1)] σ3 fun r σ' => r = .sl p 0 n ∧ σ' = σ3.set p (.vec 34 cs')) :
    callA Try.prog 15 [.ptr x 0 0, .d (.int .i64 3), .d (.int .i64 2), .d (.int .i64 0)] σ (fun r σ' => r = .tup [.agg c1, .d (.bool true)] ∧ LkAt σ' x L R (.sl p 0 n) ∧ σ'[p]? = some (.vec 34 cs') ∧ Keeps (fun j => j = R ∨ j = p) σ σ') := by
  refine w15.go fun K hK => ?_
  have kp : Keeps (fun _ => False) σ (σ ++ [Ob.box z42]) := Keeps.app _ _ _
  have h' := h.keep kp (fun h => h) (fun h => h) (fun h => h)
  have g0 : (σ ++ [Ob.box z42])[σ.length]? = some (.box z42) := by simp
  have hp1 : (σ ++ [Ob.box z42])[p]? = some (.vec 34 (c1 ++ c2)) := app_get hp _
  have up1 : ∀ y, one σ y = true → one (σ ++ [Ob.box z42]) y = true := fun y hy => one_alive (fun o q => alive_app q _) hy
  have gl1 : (σ ++ [Ob.box z42]).length = σ.length + 1 := by simp
  generalize hσ1 : σ ++ [Ob.box z42] = σ1 at *
  have a0 := alive_of g0 (by simp)
  have hpl := lt_of_get hp
  obtain ⟨cR, hR, hc4, hc5⟩ := h.hR
  have hRl := lt_of_get hR
  clear hR hc4 hc5
  simp only [e15, c15, p15, Try.f15, codeOf, comp, opsOf, stOf, cop, cstp, copAt, planFor, List.find?, List.find?_nil, Option.map_none, Option.getD_none, List.any_cons, List.any_nil, Stp.idx, Bool.or_false, Nat.reduceBEq, ↓RP, RS, Int.reduceBEq, Int.reduceBNe, Int.reduceLT, Int.reduceLE, Int.reduceAdd, Int.reduceSub, ↓reduceIte, Nat.reduceAdd, Nat.reduceMul, Nat.reduceSub, Nat.reduceLT, Nat.reduceLeDiff, Nat.reduceEqDiff, decide_true, decide_false, fieldAddrF, undE, tupE, W15, allocE, hσ1, a0]
  refine CallK_use' (link35v h') fun v σ' ⟨q1, q2⟩ => ?_
  subst q1; subst q2
  obtain ⟨cR, hR, hc4, hc5⟩ := h'.hR
  have a1 := alive_of hR (by simp)
  simp only [↓RP, RS, Int.reduceBEq, Int.reduceBNe, Int.reduceLT, Int.reduceLE, Int.reduceAdd, Int.reduceSub, ↓reduceIte, Nat.reduceAdd, Nat.reduceMul, Nat.reduceSub, Nat.reduceLT, Nat.reduceLeDiff, Nat.reduceEqDiff, decide_true, decide_false, fieldAddrF, undE, tupE, W15, a1]
  refine CallK_use' (has40v (n := n + 1) hR hc4 (.inr ⟨p, rfl, alive_of hp1 (by simp)⟩)) fun v σ'' ⟨q1, q2⟩ => ?_
  subst q1; subst q2
  have d1 : decide (0 < n + 1) = true := by simp
  simp only [↓RP, RS, Int.reduceBEq, Int.reduceBNe, Int.reduceLT, Int.reduceLE, Int.reduceAdd, Int.reduceSub, ↓reduceIte, Nat.reduceAdd, Nat.reduceMul, Nat.reduceSub, Nat.reduceLT, Nat.reduceLeDiff, Nat.reduceEqDiff, decide_true, decide_false, fieldAddrF, undE, tupE, W15, a1, d1]
  refine CallK_use' (rem41v hR hc4 hp1 hpR l1 (List.all_eq_true.2 fun y hy => up1 y (List.all_eq_true.1 ho1 y hy)) fun σ3 e1 e2 => hdel σ3 e1 fun y hy => e2 y (up1 y hy)) fun v σ2 ⟨k0, k1, k2, k4⟩ => ?_
  subst k0
  have g2 : σ2[σ.length]? = some (.box z42) := k4.get g0 (by omega)
  have hz : z42.length = 34 := by decide
  have al2 : ∀ y, one σ y = true → one σ2 y = true := fun y hy => one_alive (fun j hj => by
    by_cases c1 : j = R
    · subst c1; exact alive_of k1 (by simp)
    by_cases c2 : j = p
    · subst c2; exact alive_of k2 (by simp)
    have hjl : j < σ''.length := by
      rcases Nat.lt_or_ge j σ''.length with q | q
      · exact q
      · unfold alive at hj; rw [List.getElem?_eq_none q] at hj; cases hj
    have e := k4.2 j hjl (by omega)
    unfold alive at hj ⊢
    rw [e]; exact hj) (up1 y hy)
  have st := store_agg (P := Try.prog) (t := 42) (k := 0) (xs := c1) g2 (List.all_eq_true.2 fun y hy => al2 y (List.all_eq_true.1 ho1 y hy)) (by simp [l1, hz]) (by simp [W15, l1]) (by simp [W15])
  rw [setAt_all (by simp [l1, hz])] at st
  simp only [↓RP, RS, Int.reduceBEq, Int.reduceBNe, Int.reduceLT, Int.reduceLE, Int.reduceAdd, Int.reduceSub, ↓reduceIte, Nat.reduceAdd, Nat.reduceMul, Nat.reduceSub, Nat.reduceLT, Nat.reduceLeDiff, Nat.reduceEqDiff, decide_true, decide_false, fieldAddrF, undE, tupE, W15, st]
  have lm := load_all (P := Try.prog) (t := 42) (set_at g2 (.box c1)) (by simp [W15, l1]) (by simp only [W15]) (by simp [W15])
  have kk : Keeps (fun j => j = R ∨ j = p) σ (σ2.set σ.length (.box c1)) := by
    have e1 := (kp.mono (S' := fun j => j = R ∨ j = p) fun _ q => q.elim).trans k4 fun _ _ q => q
    refine ⟨by simp; exact e1.1, fun j hj hs => ?_⟩
    rw [List.getElem?_set_ne (by omega)]
    exact e1.2 j hj hs
  have hRset : (σ2.set σ.length (.box c1))[R]? = some (.box (cR.set 4 (.sl p 0 n))) := by rw [List.getElem?_set_ne (by omega)]; exact k1
  obtain ⟨cR0, hR0, _⟩ := h.hR
  have hcR : cR0 = cR := by
    have := kp.get hR0 (fun h => h)
    rw [hR] at this; cases this; rfl
  subst hcR
  refine hK.ret (r := .tup [.agg c1, .d (.bool true)]) (by simp only [resF, resAll, resOne, e15, RS, lm]) ⟨rfl, ?_, ?_, kk⟩
  · exact h.set hx hL hR0 (kk.2 x (lt_of_get h.hx) (by omega)) (kk.2 L (lt_of_get h.hL.choose_spec.1) (by omega)) hRset
  · rw [List.getElem?_set_ne (by omega)]; exact k2

theorem take15no {p : Nat} (h : LkAt σ x L R (.sl p 0 0)) (hp : alive σ p = true) :
    callA Try.prog 15 [.ptr x 0 0, .d (.int .i64 3), .d (.int .i64 2), .d (.int .i64 0)] σ (fun r σ' => r = .tup [.agg z42, .d (.bool false)] ∧ Keeps (fun _ => False) σ σ') := by
  refine w15.go fun K hK => ?_
  have kp : Keeps (fun _ => False) σ (σ ++ [Ob.box z42]) := Keeps.app _ _ _
  have h' := h.keep kp (fun h => h) (fun h => h) (fun h => h)
  have g0 : (σ ++ [Ob.box z42])[σ.length]? = some (.box z42) := by simp
  have hp1 : alive (σ ++ [Ob.box z42]) p = true := alive_app hp _
  generalize hσ1 : σ ++ [Ob.box z42] = σ1 at *
  have a0 := alive_of g0 (by simp)
  have bz : ∀ s, buildF Try.prog 42 σ1 s [] = some (.agg z42) := fun s => by simp only [buildF, W15, fillV, Option.map_some]
  have sz := store_agg (P := Try.prog) (t := 42) (k := 0) (xs := z42) g0 (by rfl) (by simp) (by simp [W15]) (by simp [W15])
  rw [setAt_all rfl, set_same g0] at sz
  have lz := load_all (P := Try.prog) (t := 42) g0 (by simp [W15]) (by simp only [W15]) (by simp [W15])
  simp only [e15, c15, p15, Try.f15, codeOf, comp, opsOf, stOf, cop, cstp, copAt, planFor, List.find?, List.find?_nil, Option.map_none, Option.getD_none, List.any_cons, List.any_nil, Stp.idx, Bool.or_false, Nat.reduceBEq, ↓RP, RS, Int.reduceBEq, Int.reduceBNe, Int.reduceLT, Int.reduceLE, Int.reduceAdd, Int.reduceSub, ↓reduceIte, Nat.reduceAdd, Nat.reduceMul, Nat.reduceSub, Nat.reduceLT, Nat.reduceLeDiff, Nat.reduceEqDiff, decide_true, decide_false, fieldAddrF, undE, tupE, W15, allocE, hσ1, a0]
  refine CallK_use' (link35v h') fun v σ' ⟨q1, q2⟩ => ?_
  subst q1; subst q2
  obtain ⟨cR, hR, hc4, hc5⟩ := h'.hR
  have a1 := alive_of hR (by simp)
  simp only [↓RP, RS, Int.reduceBEq, Int.reduceBNe, Int.reduceLT, Int.reduceLE, Int.reduceAdd, Int.reduceSub, ↓reduceIte, Nat.reduceAdd, Nat.reduceMul, Nat.reduceSub, Nat.reduceLT, Nat.reduceLeDiff, Nat.reduceEqDiff, decide_true, decide_false, fieldAddrF, undE, tupE, W15, a1]
  refine CallK_use' (has40v (n := 0) hR hc4 (.inr ⟨p, rfl, hp1⟩)) fun v σ'' ⟨q1, q2⟩ => ?_
  subst q1; subst q2
  have d1 : decide (0 < 0) = false := rfl
  simp only [↓RP, RS, Int.reduceBEq, Int.reduceBNe, Int.reduceLT, Int.reduceLE, Int.reduceAdd, Int.reduceSub, ↓reduceIte, Nat.reduceAdd, Nat.reduceMul, Nat.reduceSub, Nat.reduceLT, Nat.reduceLeDiff, Nat.reduceEqDiff, decide_true, decide_false, fieldAddrF, undE, tupE, W15, a1, d1, bz, sz]
  exact hK.ret (r := .tup [.agg z42, .d (.bool false)]) (by simp only [resF, resAll, resOne, e15, RS, lz]) ⟨rfl, kp⟩
end
end Go.Proofs.Ytadddaafajennaa.Am
