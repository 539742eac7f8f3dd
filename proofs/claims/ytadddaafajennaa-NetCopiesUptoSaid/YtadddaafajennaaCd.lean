/- Walk: the law spoils the lists of a message. -/
import Derived.Test.YtadddaafajennaaCc
set_option linter.unusedSimpArgs false
set_option linter.unusedVariables false
set_option maxRecDepth 10000
namespace Go.Proofs.Ytadddaafajennaa.Am
open Go Go.Proofs

/-- A list of such a length in an object of its own. -/
def LstS (σ : List Ob) (lo hi sz : Nat) (v : V) (n : Nat) : Prop := ∃ o l, v = .sl o 0 n ∧ σ[o]? = some (.arr sz false l) ∧ l.length = n ∧ lo ≤ o ∧ o < hi ∧ n ≤ 1048576

/-- Elements of lists between the bounds may have been written. -/
structure ShA (lo hi : Nat) (σ σ' : List Ob) : Prop where
  len : σ'.length = σ.length
  obj : ∀ o, σ'[o]? = σ[o]? ∨ (lo ≤ o ∧ o < hi ∧ ∃ sz l l', σ[o]? = some (.arr sz false l) ∧ σ'[o]? = some (.arr sz false l') ∧ l'.length = l.length)

theorem ShA.refl (lo hi : Nat) (σ : List Ob) : ShA lo hi σ σ := ⟨rfl, fun _ => .inl rfl⟩
theorem ShA.set {lo hi : Nat} {σ σ' : List Ob} (h : ShA lo hi σ σ') {o sz : Nat} {l l' : List D} (h1 : σ'[o]? = some (.arr sz false l)) (h2 : l'.length = l.length) (h3 : lo ≤ o) (h4 : o < hi) : ShA lo hi σ (σ'.set o (.arr sz false l')) := by
  refine ⟨by simp [h.len], fun p => ?_⟩
  by_cases hp : o = p
  · subst hp
    rw [List.getElem?_set_self (lt_of_get h1)]
    rcases h.obj o with e | ⟨_, _, sz', m, m', e1, e2, e3⟩
    · exact .inr ⟨h3, h4, sz, l, l', by rw [← e]; exact h1, rfl, h2⟩
    · rw [h1] at e2
      cases e2
      exact .inr ⟨h3, h4, sz, m, l', e1, rfl, by omega⟩
  · rw [List.getElem?_set_ne hp]
    exact h.obj p
theorem ShA.get {lo hi : Nat} {σ σ' : List Ob} (h : ShA lo hi σ σ') {o : Nat} {x : Ob} (ho : σ[o]? = some x) (hx : ∀ sz l, x ≠ .arr sz false l) : σ'[o]? = some x := by
  rcases h.obj o with e | ⟨_, _, sz, l, l', e1, _⟩
  · rw [e]; exact ho
  · rw [ho] at e1; cases e1; exact absurd rfl (hx sz l)
theorem ShA.lst {lo hi : Nat} {σ σ' : List Ob} (h : ShA lo hi σ σ') {sz n : Nat} {v : V} (g : LstS σ lo hi sz v n) : LstS σ' lo hi sz v n := by
  obtain ⟨o, l, rfl, g1, g2, g3, g4, g5⟩ := g
  rcases h.obj o with e | ⟨_, _, sz', m, m', e1, e2, e3⟩
  · exact ⟨o, l, rfl, by rw [e]; exact g1, g2, g3, g4, g5⟩
  · rw [g1] at e1; cases e1
    exact ⟨o, m', rfl, e2, by omega, g3, g4, g5⟩
theorem ShA.alive {lo hi : Nat} {σ σ' : List Ob} (h : ShA lo hi σ σ') {o : Nat} (g : alive σ o = true) : alive σ' o = true := by
  rcases h.obj o with e | ⟨_, _, sz', m, m', e1, e2, e3⟩
  · unfold Am.alive at g ⊢; rw [e]; exact g
  · exact alive_of e2 (by simp)
theorem one_alive {σ σ' : List Ob} (h : ∀ o, alive σ o = true → alive σ' o = true) {x : V} (g : one σ x = true) : one σ' x = true := by
  cases x with
  | d y => cases y <;> exact g
  | ptr o i k => simp only [one, live, Bool.and_eq_true] at g ⊢; exact ⟨h _ g.1, g.2⟩
  | sl o i k => simp only [one, live, Bool.and_eq_true] at g ⊢; exact ⟨h _ g.1, g.2⟩
  | mp o => simp only [one, live, Bool.and_eq_true] at g ⊢; exact ⟨h _ g.1, g.2⟩
  | _ => exact g
theorem ShA.one {lo hi : Nat} {σ σ' : List Ob} (h : ShA lo hi σ σ') {x : V} (g : one σ x = true) : one σ' x = true := one_alive (fun o q => h.alive q) g
theorem ShA.keeps {lo hi : Nat} {σ σ' : List Ob} (h : ShA lo hi σ σ') : Keeps (fun o => lo ≤ o ∧ o < hi) σ σ' := ⟨by rw [h.len]; exact Nat.le_refl _, fun o _ ho => by
  rcases h.obj o with e | ⟨h1, h2, _⟩
  · exact e
  · exact absurd ⟨h1, h2⟩ ho⟩

theorem LstO.shape {σ : List Ob} {lo hi sz : Nat} {v : V} {l : List D} (h : LstO σ lo hi sz v l) (hl : l.length ≤ 1048576) : LstS σ lo hi sz v l.length := by
  obtain ⟨o, h1, h2, h3, h4⟩ := h
  exact ⟨o, l, h1, h2, rfl, h3, h4, hl⟩
theorem LstS.app {σ : List Ob} {lo hi sz n : Nat} {v : V} (h : LstS σ lo hi sz v n) (τ : List Ob) : LstS (σ ++ τ) lo hi sz v n := by
  obtain ⟨o, l, h1, h2, h3⟩ := h
  exact ⟨o, l, h1, app_get h2 _, h3⟩
theorem LstS.set {σ : List Ob} {lo hi sz n : Nat} {v : V} (h : LstS σ lo hi sz v n) {p : Nat} {x y : Ob} (hp : σ[p]? = some x) (hx : ∀ sz l, x ≠ .arr sz false l) : LstS (σ.set p y) lo hi sz v n := by
  obtain ⟨o, l, h1, h2, h3⟩ := h
  refine ⟨o, l, h1, ?_, h3⟩
  rw [List.getElem?_set_ne]
  · exact h2
  · rintro rfl; rw [hp] at h2; cases h2; exact hx _ _ rfl

def EntSh (σ : List Ob) (lo hi : Nat) (cs : List V) (j : Nat) : Prop :=
  ∃ a b d n1 n2 n3, cs[j * 50 + 11]? = some a ∧ LstS σ lo hi 1 a n1 ∧ cs[j * 50 + 17]? = some b ∧ LstS σ lo hi 5 b n2 ∧ cs[j * 50 + 44]? = some d ∧ LstS σ lo hi 1 d n3

theorem EntsO.shape {σ : List Ob} {lo hi : Nat} : ∀ {es : List D} {cs : List V}, EntsO σ lo hi cs es → ∀ j, j < es.length → EntSh σ lo hi cs j
  | [], cs, h, j, hj => by simp at hj
  | e :: es, cs, h, j, hj => by
    obtain ⟨c, r, rfl, g1, g2⟩ := h
    have hl := g1.len
    cases j with
    | zero =>
      obtain ⟨ds, to, wr, tod, a, b, d, k1, rfl, k3, k4, k5⟩ := g1
      refine ⟨a, b, d, _, _, _, ?_, k3.shape k1.l1, ?_, k4.shape k1.l2, ?_, k5.shape k1.l3⟩
      · rw [List.getElem?_append_left (by omega)]; simp [k1.len]
      · rw [List.getElem?_append_left (by omega)]; simp [k1.len]
      · rw [List.getElem?_append_left (by omega)]; simp [k1.len]
    | succ j =>
      obtain ⟨a, b, d, n1, n2, n3, q1, q2, q3, q4, q5, q6⟩ := g2.shape j (by simpa using hj)
      have up : ∀ k, (c ++ r)[(j + 1) * 50 + k]? = r[j * 50 + k]? := fun k => by
        rw [List.getElem?_append_right (by omega), hl]
        congr 1; omega
      exact ⟨a, b, d, n1, n2, n3, by rw [up]; exact q1, q2, by rw [up]; exact q3, q4, by rw [up]; exact q5, q6⟩

theorem EntsO.len {σ : List Ob} {lo hi : Nat} {es : List D} {cs : List V} (h : EntsO σ lo hi cs es) : cs.length = es.length * 50 := h.rows.len

/-- What is kept while the lists of a message are written, from the i-th entry on. -/
structure Sp (σ0 : List Ob) (lo hi B E : Nat) (cells : List V) (vK : V) (nK n : Nat) (cs : List V) (i : Nat) (σ : List Ob) : Prop where
  keeps : Keeps (fun o => lo ≤ o ∧ o < hi) σ0 σ
  b : σ[B]? = some (.box cells)
  L : LstS σ lo hi 1 vK nK
  v : σ[E]? = some (.vec 50 cs)
  len : cs.length = n * 50
  one : ∀ x ∈ cs, one σ x = true
  ent : ∀ j, i ≤ j → j < n → EntSh σ lo hi cs j

section
variable {σ0 : List Ob} {lo hi B E : Nat} {cells : List V} {vK : V} {nK n : Nat} {cs : List V} {i : Nat} {σ : List Ob}
theorem EntSh.sh {σ' : List Ob} (hs : ShA lo hi σ σ') {j : Nat} (h : EntSh σ lo hi cs j) : EntSh σ' lo hi cs j := by
  obtain ⟨a, b, d, n1, n2, n3, q1, q2, q3, q4, q5, q6⟩ := h
  exact ⟨a, b, d, n1, n2, n3, q1, hs.lst q2, q3, hs.lst q4, q5, hs.lst q6⟩
theorem EntSh.app (τ : List Ob) {j : Nat} (h : EntSh σ lo hi cs j) : EntSh (σ ++ τ) lo hi cs j := by
  obtain ⟨a, b, d, n1, n2, n3, q1, q2, q3, q4, q5, q6⟩ := h
  exact ⟨a, b, d, n1, n2, n3, q1, q2.app _, q3, q4.app _, q5, q6.app _⟩
theorem Sp.sh (h : Sp σ0 lo hi B E cells vK nK n cs i σ) {σ' : List Ob} (hs : ShA lo hi σ σ') : Sp σ0 lo hi B E cells vK nK n cs i σ' :=
  ⟨h.keeps.trans hs.keeps fun _ _ q => q, hs.get h.b (by simp), hs.lst h.L, hs.get h.v (by simp), h.len, fun x hx => hs.one (h.one x hx), fun j h1 h2 => (h.ent j h1 h2).sh hs⟩
theorem Sp.app (h : Sp σ0 lo hi B E cells vK nK n cs i σ) (τ : List Ob) : Sp σ0 lo hi B E cells vK nK n cs i (σ ++ τ) :=
  ⟨h.keeps.trans (Keeps.app _ _ _) fun _ _ q => q, app_get h.b _, h.L.app _, app_get h.v _, h.len, fun x hx => one_alive (fun o q => alive_app q _) (h.one x hx), fun j h1 h2 => (h.ent j h1 h2).app _⟩
end

theorem store_sp {σ : List Ob} {o j sz : Nat} {l : List D} {P : Program} {t : TypeId} {x : V} {d : D} (h1 : σ[o]? = some (.arr sz false l)) (hj : j < l.length) (hd : toD σ x = some d) (hf : flatOk d (szOf P t) = true) (hz : szOf P t = sz) (h0 : 0 < sz) : storeF P t σ (.ptr o j 0) x = some (σ.set o (.arr sz false (l.set j d))) := by
  simp only [storeF, h1, List.getElem?_eq_getElem hj, hd]
  rw [if_pos ⟨hf, by omega⟩, if_pos ⟨hz, trivial⟩]

def spS : D := .str [115, 112, 111, 105, 108, 116]
def spW : D := .agg [.int .i64 (-7), .int .i64 0, .str [], .str [], .str []]
def spE : List V := z96.set 0 (.d (.int .i64 (-7)))

/-- Where a list of that shape lies, and what a write of one element does. -/
theorem LstS.open {σ0 σ : List Ob} {lo hi sz n : Nat} {v : V} (h : LstS σ0 lo hi sz v n) (hs : ShA lo hi σ0 σ) {P : Program} {t e : TypeId} (he : elemOfSlice P t = some e) (hz : szOf P e = sz) (h0 : 0 < sz) :
    n ≤ 1048576 ∧ ∃ o, v = .sl o 0 n ∧ alive σ o = true ∧ ∀ j, j < n → indexAddrF P t σ (.sl o 0 n) (.d (.int .i64 (j : Int))) = some (.ptr o j 0) ∧ ∀ (x : V) (d : D), toD σ x = some d → flatOk d sz = true → ∃ σ', storeF P e σ (.ptr o j 0) x = some σ' ∧ ShA lo hi σ0 σ' := by
  obtain ⟨o, l, rfl, g1, g2, g3, g4, g5⟩ := hs.lst h
  refine ⟨g5, o, rfl, alive_of g1 (by simp), fun j hj => ⟨?_, fun x d hd hf => ⟨_, store_sp g1 (by omega) hd (by rw [hz]; exact hf) hz h0, hs.set g1 (by simp) g3 g4⟩⟩⟩
  have := index_arr (P := P) (t := t) (kd := .i64) (off := 0) g1 he hz h0 hj
  rwa [Nat.zero_add] at this

set_option maxHeartbeats 4000000 in
theorem spoil34 {σ : List Ob} {lo hi : Nat} {cells : List V} {ms : List D} (h : OM σ lo hi cells ms) (hhi : hi ≤ σ.length) : callA Try.prog 34 [.agg cells] σ fun r σ' => Keeps (fun o => lo ≤ o ∧ o < hi) σ σ' := by
  refine w34.go fun K hK => ?_
  have hlen := h.len
  obtain ⟨ents, lk, vE, vK, hM, hcells, hE, hL⟩ := h
  have hc10 : cells[10]? = some vE := by rw [hcells]; simp [hM.len]
  have hc33 : cells[33]? = some vK := by rw [hcells]; simp [hM.len]
  have hLs := hL.shape hM.fewl
  have hfew := hM.few
  -- the entries: how many, where
  have hEs : ∃ E, vE = .sl E 0 ents.length ∧ lo ≤ E ∧ E < hi ∧ alive σ E = true ∧ (0 < ents.length → ∃ cs, σ[E]? = some (.vec 50 cs) ∧ cs.length = ents.length * 50 ∧ (∀ x ∈ cs, one σ x = true) ∧ ∀ j, j < ents.length → EntSh σ lo hi cs j) := by
    rcases hE with ⟨rfl, o, rfl, g1, g2, g3⟩ | ⟨hn, o, cs, rfl, g1, g2, g3, g4⟩
    · exact ⟨o, rfl, g2, g3, alive_of g1 (by simp), fun q => by simp at q⟩
    · exact ⟨o, rfl, g2, g3, alive_of g1 (by simp), fun _ => ⟨cs, g1, g4.len, fun x hx => (g4.at x hx).1, g4.shape⟩⟩
  obtain ⟨E, rfl, hE1, hE2, hEa, hEv⟩ := hEs
  clear hcells hE hL hM
  simp only [e34, c34, p34, Try.f34, codeOf, comp, opsOf, stOf, cop, cstp, copAt, planFor, List.find?, List.find?_nil, Option.map_none, Option.getD_none, List.any_cons, List.any_nil, Stp.idx, Bool.or_false, Nat.reduceBEq, ↓RP, RS, W34, boxE, cellsV]
  generalize hB : σ.length = B at *
  generalize hn : ents.length = n at *
  generalize hnK : lk.length = nK at *
  have hBh : hi ≤ B := hhi
  refine Loop_k [1, 2] (fun y : Nat × List Ob => fr 0 86 [(1, .ptr B 0 0), (2, .d (.int .i64 y.1))]) (fun y => y.2)
    (fun y => y.1 ≤ n ∧ Keeps (fun o => lo ≤ o ∧ o < hi) σ y.2 ∧ y.2[B]? = some (.box cells) ∧ LstS y.2 lo hi 1 vK nK ∧ alive y.2 E = true ∧ (0 < n → ∃ cs, Sp σ lo hi B E cells vK nK n cs y.1 y.2))
    (fun y => n - y.1) (0, σ ++ [.box cells]) (by kernel_rfl) rfl ⟨Nat.zero_le _, Keeps.app _ _ _, by simp [← hB], hLs.app _, alive_app hEa _, fun q => ?_⟩ fun ⟨i, σx⟩ hI => ?_
  · obtain ⟨cs, g1, g2, g3, g4⟩ := hEv q
    exact ⟨cs, Keeps.app _ _ _, by simp [← hB], hLs.app _, app_get g1 _, g2, fun x hx => one_alive (fun o q => alive_app q _) (g3 x hx), fun j _ hj => (g4 j hj).app _⟩
  obtain ⟨hin, hk, hb, hLx, hEx, hVx⟩ := hI
  simp only at hin hk hb hLx hEx hVx ⊢
  have aB := alive_of hb (by simp)
  have l1 := load_box (P := Try.prog) (t := 33) hb hc10 (by simp only [W34]) (by simp only [W34])
  by_cases hlt : i < n
  · have hd : decide ((i : Int) < n) = true := by simpa using hlt
    obtain ⟨cs, hS⟩ := hVx (by omega)
    obtain ⟨a, b, d, n1, n2, n3, q1, q2, q3, q4, q5, q6⟩ := hS.ent i (Nat.le_refl _) hlt
    have hrow : i * 50 + 50 ≤ cs.length := by rw [hS.len]; omega
    have x1 : ∀ σy, Sp σ lo hi B E cells vK nK n cs i σy → indexAddrF Try.prog 33 σy (.sl E 0 n) (.d (.int .i64 (i : Int))) = some (.ptr E i 0) := fun σy hS => by
      have := index_vec (P := Try.prog) (t := 33) (kd := .i64) (off := 0) (e := 96) hS.v (by simp only [W34]) (by simp only [W34]) (by decide) hlt
      rwa [Nat.zero_add] at this
    have lB : ∀ σy, Sp σ lo hi B E cells vK nK n cs i σy → loadF Try.prog 33 σy (.ptr B 0 10) = some (.sl E 0 n) := fun σy hS => load_box (P := Try.prog) (t := 33) hS.b hc10 (by simp only [W34]) (by simp only [W34])
    have aBs : ∀ σy, Sp σ lo hi B E cells vK nK n cs i σy → alive σy B = true := fun σy hS => alive_of hS.b (by simp)
    have aEs : ∀ σy, Sp σ lo hi B E cells vK nK n cs i σy → alive σy E = true := fun σy hS => alive_of hS.v (by simp)
    have lA := load_vecs (P := Try.prog) (t := 86) (i := i) (k := 2) hS.v (by simp only [W34]) (by simp [W34]) (by simp only [W34]; omega)
    rw [show szOf Try.prog 86 = 20 by simp only [W34]] at lA
    generalize hac : (cs.drop (i * 50 + 2)).take 20 = acells at *
    have hacl : acells.length = 20 := by rw [← hac, List.length_take, List.length_drop]; omega
    have ha9 : acells[9]? = some a := by rw [← hac, List.getElem?_take, if_pos (by omega), List.getElem?_drop]; exact q1
    have ha15 : acells[15]? = some b := by rw [← hac, List.getElem?_take, if_pos (by omega), List.getElem?_drop]; exact q3
    have hac1 : acells.all (one (σx ++ [.box z86])) = true := List.all_eq_true.2 fun x hx => one_alive (fun o q => alive_app q _) (hS.one x (by rw [← hac] at hx; exact List.mem_of_mem_drop (List.mem_of_mem_take hx)))
    have sA := store_agg (P := Try.prog) (t := 86) (σ := σx ++ [.box z86]) (o := σx.length) (k := 0) (cs := z86) (xs := acells) (by simp) hac1 (by simp [hacl, z86]) (by simp [hacl, W34]) (by simp [W34])
    rw [setAt_all (by simp [hacl, z86]), List.set_append_right _ _ (Nat.le_refl _), Nat.sub_self, List.set_cons_zero] at sA
    simp only [fr, ↓RP, RS, W34, fieldAddrF, ↓reduceIte, Nat.reduceAdd, Nat.reduceLT, Nat.reduceEqDiff, undE, aB, l1, hEx, hd, x1 σx hS, lA, allocE, sA]
    have hS1 : Sp σ lo hi B E cells vK nK n cs i (σx ++ [.box acells]) := hS.app _
    have hA1 : (σx ++ [Ob.box acells])[σx.length]? = some (.box acells) := by simp
    have q2 : LstS (σx ++ [.box acells]) lo hi 1 a n1 := q2.app _
    have q4 : LstS (σx ++ [.box acells]) lo hi 5 b n2 := q4.app _
    have q6 : LstS (σx ++ [.box acells]) lo hi 1 d n3 := q6.app _
    generalize hA : σx.length = A at *
    generalize hσ1 : σx ++ [Ob.box acells] = σ1 at *
    -- the first list
    refine Loop_k [1, 2, 3, 4] (fun y : Nat × List Ob => fr 0 86 [(1, .ptr B 0 0), (2, .d (.int .i64 i)), (3, .ptr A 0 0), (4, .d (.int .i64 y.1))]) (fun y => y.2)
      (fun y => y.1 ≤ n1 ∧ ShA lo hi σ1 y.2) (fun y => n1 - y.1) (0, σ1) (by kernel_rfl) rfl ⟨Nat.zero_le _, ShA.refl _ _ _⟩ fun ⟨j, σ2⟩ hJ => ?_
    obtain ⟨hj, hs2⟩ := hJ
    simp only at hj hs2 ⊢
    have hA2 := hs2.get hA1 (by simp)
    obtain ⟨hn1, o1, rfl, ha1, ho1⟩ := q2.open hs2 (P := Try.prog) (t := 38) (e := 9) (by simp only [W34]) (by simp only [W34]) (by decide)
    have lA2 := load_box (P := Try.prog) (t := 38) hA2 ha9 (by simp only [W34]) (by simp only [W34])
    have aA2 := alive_of hA2 (by simp)
    have hw : IntKind.i64.wrap ((j : Int) + 1) = ((j + 1 : Nat) : Int) := by rw [IntWalk.i64_in _ (by omega)]; rfl
    by_cases hjl : j < n1
    · have hdj : decide ((j : Int) < n1) = true := by simpa using hjl
      obtain ⟨x2, hst⟩ := ho1 j hjl
      obtain ⟨σ3, s2, hs3⟩ := hst (.d spS) spS rfl rfl
      have s2 : storeF Try.prog 9 σ2 (.ptr o1 j 0) (.d (.str [115, 112, 111, 105, 108, 116])) = some σ3 := s2
      simp only [fr, ↓RP, RS, W34, fieldAddrF, ↓reduceIte, Nat.reduceAdd, Nat.reduceLT, Nat.reduceEqDiff, undE, aA2, lA2, ha1, hdj, x2, s2, hw]
      exact seqK_n ⟨(j + 1, σ3), ⟨by omega, hs3⟩, by simp only; omega, by kernel_rfl, rfl⟩
    have hdj : decide ((j : Int) < n1) = false := by simpa using hjl
    simp only [fr, ↓RP, RS, W34, fieldAddrF, ↓reduceIte, Nat.reduceAdd, Nat.reduceLT, Nat.reduceEqDiff, undE, aA2, lA2, ha1, hdj]
    -- the second list
    refine Loop_k [1, 2, 3, 5] (fun y : Nat × List Ob => fr 0 86 [(1, .ptr B 0 0), (2, .d (.int .i64 i)), (3, .ptr A 0 0), (5, .d (.int .i64 y.1))]) (fun y => y.2)
      (fun y => y.1 ≤ n2 ∧ ShA lo hi σ1 y.2) (fun y => n2 - y.1) (0, σ2) (by kernel_rfl) rfl ⟨Nat.zero_le _, hs2⟩ fun ⟨j, σ3⟩ hJ => ?_
    clear lA2 aA2 hA2 ha1 ho1 hw hs2 hj hjl hdj
    obtain ⟨hj, hs2⟩ := hJ
    simp only at hj hs2 ⊢
    have hA2 := hs2.get hA1 (by simp)
    obtain ⟨hn2, o2, rfl, ha2, ho2⟩ := q4.open hs2 (P := Try.prog) (t := 84) (e := 99) (by simp only [W34]) (by simp only [W34]) (by decide)
    have lA2 := load_box (P := Try.prog) (t := 84) hA2 ha15 (by simp only [W34]) (by simp only [W34])
    have aA2 := alive_of hA2 (by simp)
    have hw : IntKind.i64.wrap ((j : Int) + 1) = ((j + 1 : Nat) : Int) := by rw [IntWalk.i64_in _ (by omega)]; rfl
    by_cases hjl : j < n2
    · have hdj : decide ((j : Int) < n2) = true := by simpa using hjl
      obtain ⟨x2, hst⟩ := ho2 j hjl
      have bW : ∀ s, buildF Try.prog 99 σ3 s [(0, .const (.int .i64 (-7)))] = some (.agg (z99.set 0 (.d (.int .i64 (-7))))) := fun s => by kernel_rfl
      obtain ⟨σ4, s2, hs3⟩ := hst (.agg (z99.set 0 (.d (.int .i64 (-7))))) spW rfl rfl
      simp only [fr, ↓RP, RS, W34, fieldAddrF, ↓reduceIte, Nat.reduceAdd, Nat.reduceLT, Nat.reduceEqDiff, undE, aA2, lA2, ha2, hdj, x2, bW, s2, hw]
      exact seqK_n ⟨(j + 1, σ4), ⟨by omega, hs3⟩, by simp only; omega, by kernel_rfl, rfl⟩
    have hdj : decide ((j : Int) < n2) = false := by simpa using hjl
    have hS3 := hS1.sh hs2
    have lD := load_vecs (P := Try.prog) (t := 92) (i := i) (k := 38) hS3.v (by simp only [W34]) (by simp [W34]) (by simp only [W34]; omega)
    rw [show szOf Try.prog 92 = 12 by simp only [W34]] at lD
    generalize hdc : (cs.drop (i * 50 + 38)).take 12 = dcells at *
    have hdcl : dcells.length = 12 := by rw [← hdc, List.length_take, List.length_drop]; omega
    have hd6 : dcells[6]? = some d := by rw [← hdc, List.getElem?_take, if_pos (by omega), List.getElem?_drop]; exact q5
    have hdc1 : dcells.all (one (σ3 ++ [.box z92])) = true := List.all_eq_true.2 fun x hx => one_alive (fun o q => alive_app q _) (hS3.one x (by rw [← hdc] at hx; exact List.mem_of_mem_drop (List.mem_of_mem_take hx)))
    have sD := store_agg (P := Try.prog) (t := 92) (σ := σ3 ++ [.box z92]) (o := σ3.length) (k := 0) (cs := z92) (xs := dcells) (by simp) hdc1 (by simp [hdcl, z92]) (by simp [hdcl, W34]) (by simp [W34])
    rw [setAt_all (by simp [hdcl, z92]), List.set_append_right _ _ (Nat.le_refl _), Nat.sub_self, List.set_cons_zero] at sD
    simp only [fr, ↓RP, RS, W34, fieldAddrF, ↓reduceIte, Nat.reduceAdd, Nat.reduceLT, Nat.reduceEqDiff, undE, aA2, lA2, ha2, hdj, aBs σ3 hS3, lB σ3 hS3, x1 σ3 hS3, aEs σ3 hS3, lD, allocE, sD]
    have hS4 : Sp σ lo hi B E cells vK nK n cs i (σ3 ++ [.box dcells]) := hS3.app _
    have hD1 : (σ3 ++ [Ob.box dcells])[σ3.length]? = some (.box dcells) := by simp
    have q6' : LstS (σ3 ++ [.box dcells]) lo hi 1 d n3 := (hs2.lst q6).app _
    generalize hDl : σ3.length = DD at *
    generalize hσ4 : σ3 ++ [Ob.box dcells] = σ4 at *
    -- the third list
    refine Loop_k [1, 2, 6, 7] (fun y : Nat × List Ob => fr 0 86 [(1, .ptr B 0 0), (2, .d (.int .i64 i)), (6, .ptr DD 0 0), (7, .d (.int .i64 y.1))]) (fun y => y.2)
      (fun y => y.1 ≤ n3 ∧ ShA lo hi σ4 y.2) (fun y => n3 - y.1) (0, σ4) (by kernel_rfl) rfl ⟨Nat.zero_le _, ShA.refl _ _ _⟩ fun ⟨j, σ5⟩ hJ => ?_
    clear lA2 aA2 hA2 ha2 ho2 hw hs2 hj hjl hdj
    obtain ⟨hj, hs2⟩ := hJ
    simp only at hj hs2 ⊢
    have hD2 := hs2.get hD1 (by simp)
    obtain ⟨hn3, o3, rfl, ha3, ho3⟩ := q6'.open hs2 (P := Try.prog) (t := 38) (e := 9) (by simp only [W34]) (by simp only [W34]) (by decide)
    have lD2 := load_box (P := Try.prog) (t := 38) hD2 hd6 (by simp only [W34]) (by simp only [W34])
    have aD2 := alive_of hD2 (by simp)
    have hw : IntKind.i64.wrap ((j : Int) + 1) = ((j + 1 : Nat) : Int) := by rw [IntWalk.i64_in _ (by omega)]; rfl
    by_cases hjl : j < n3
    · have hdj : decide ((j : Int) < n3) = true := by simpa using hjl
      obtain ⟨x2, hst⟩ := ho3 j hjl
      obtain ⟨σ6, s2, hs3⟩ := hst (.d spS) spS rfl rfl
      have s2 : storeF Try.prog 9 σ5 (.ptr o3 j 0) (.d (.str [115, 112, 111, 105, 108, 116])) = some σ6 := s2
      simp only [fr, ↓RP, RS, W34, fieldAddrF, ↓reduceIte, Nat.reduceAdd, Nat.reduceLT, Nat.reduceEqDiff, undE, aD2, lD2, ha3, hdj, x2, s2, hw]
      exact seqK_n ⟨(j + 1, σ6), ⟨by omega, hs3⟩, by simp only; omega, by kernel_rfl, rfl⟩
    have hdj : decide ((j : Int) < n3) = false := by simpa using hjl
    have hS5 := hS4.sh hs2
    have bE : ∀ s, buildF Try.prog 96 σ5 s [(0, .const (.int .i64 (-7)))] = some (.agg spE) := fun s => by kernel_rfl
    have spE1 : ∀ τ : List Ob, spE.all (one τ) = true := fun τ => rfl
    have sE := store_vecs (P := Try.prog) (t := 96) (i := i) (k := 0) (xs := spE) hS5.v (spE1 _) (by simp [spE, z96]; omega) (by simp [spE, z96, W34]) (by simp [W34])
    have hwi : IntKind.i64.wrap ((i : Int) + 1) = ((i + 1 : Nat) : Int) := by rw [IntWalk.i64_in _ (by omega)]; rfl
    simp only [fr, ↓RP, RS, W34, fieldAddrF, ↓reduceIte, Nat.reduceAdd, Nat.reduceLT, Nat.reduceEqDiff, undE, aD2, lD2, ha3, hdj, aBs σ5 hS5, lB σ5 hS5, x1 σ5 hS5, aEs σ5 hS5, bE, sE, hwi]
    have hcl : (setAt cs (i * 50 + 0) spE).length = cs.length := setAt_length _ _ _ (by simp [spE, z96]; omega)
    have hb5 : ∀ x, (σ5.set E (.vec 50 x))[B]? = some (.box cells) := fun x => by rw [List.getElem?_set_ne (by omega)]; exact hS5.b
    have hk5 : ∀ x, Keeps (fun o => lo ≤ o ∧ o < hi) σ (σ5.set E (.vec 50 x)) := fun x => hS5.keeps.trans (Keeps.set (S := fun o => lo ≤ o ∧ o < hi) _ _ ⟨hE1, hE2⟩) fun _ _ q => q
    have hal : ∀ x o, alive σ5 o = true → alive (σ5.set E (.vec 50 x)) o = true := fun x o q => by
      by_cases ho : E = o
      · subst ho; exact alive_of (set_at hS5.v _) (by simp)
      · unfold alive at q ⊢; rw [List.getElem?_set_ne ho]; exact q
    refine seqK_n ⟨(i + 1, σ5.set E (.vec 50 (setAt cs (i * 50 + 0) spE))), ⟨by omega, hk5 _, hb5 _, hS5.L.set hS5.v (by simp), alive_of (set_at hS5.v _) (by simp), fun _ => ⟨_, hk5 _, hb5 _, hS5.L.set hS5.v (by simp), set_at hS5.v _, by rw [hcl, hS5.len], fun x hx => ?_, fun j h1 h2 => ?_⟩⟩, by simp only; omega, by kernel_rfl, rfl⟩
    · simp only [setAt, List.mem_append] at hx
      rcases hx with (hx | hx) | hx
      · exact one_alive (hal _) (hS5.one x (List.mem_of_mem_take hx))
      · exact List.all_eq_true.1 (spE1 _) x hx
      · exact one_alive (hal _) (hS5.one x (List.mem_of_mem_drop hx))
    · obtain ⟨a', b', d', m1, m2, m3, r1, r2, r3, r4, r5, r6⟩ := hS5.ent j (by omega) h2
      have up : ∀ k, (setAt cs (i * 50 + 0) spE)[j * 50 + k]? = cs[j * 50 + k]? := fun k => by
        rw [setAt_get _ _ _ (by simp [spE, z96]; omega), if_neg (by simp [spE, z96]; omega)]
      exact ⟨a', b', d', m1, m2, m3, by rw [up]; exact r1, r2.set hS5.v (by simp), by rw [up]; exact r3, r4.set hS5.v (by simp), by rw [up]; exact r5, r6.set hS5.v (by simp)⟩
  · have hd : decide ((i : Int) < n) = false := by simpa using hlt
    simp only [fr, ↓RP, RS, W34, fieldAddrF, ↓reduceIte, Nat.reduceAdd, Nat.reduceLT, Nat.reduceEqDiff, undE, aB, l1, hEx, hd]
    -- the last list
    refine Loop_k [1, 8] (fun y : Nat × List Ob => fr 0 86 [(1, .ptr B 0 0), (8, .d (.int .i64 y.1))]) (fun y => y.2)
      (fun y => y.1 ≤ nK ∧ ShA lo hi σx y.2) (fun y => nK - y.1) (0, σx) (by kernel_rfl) rfl ⟨Nat.zero_le _, ShA.refl _ _ _⟩ fun ⟨j, σ2⟩ hJ => ?_
    obtain ⟨hj, hs2⟩ := hJ
    simp only at hj hs2 ⊢
    have hB2 := hs2.get hb (by simp)
    obtain ⟨hn1, o1, rfl, ha1, ho1⟩ := hLx.open hs2 (P := Try.prog) (t := 38) (e := 9) (by simp only [W34]) (by simp only [W34]) (by decide)
    have lK := load_box (P := Try.prog) (t := 38) hB2 hc33 (by simp only [W34]) (by simp only [W34])
    have aB2 := alive_of hB2 (by simp)
    have hw : IntKind.i64.wrap ((j : Int) + 1) = ((j + 1 : Nat) : Int) := by rw [IntWalk.i64_in _ (by omega)]; rfl
    by_cases hjl : j < nK
    · have hdj : decide ((j : Int) < nK) = true := by simpa using hjl
      obtain ⟨x2, hst⟩ := ho1 j hjl
      obtain ⟨σ3, s2, hs3⟩ := hst (.d spS) spS rfl rfl
      have s2 : storeF Try.prog 9 σ2 (.ptr o1 j 0) (.d (.str [115, 112, 111, 105, 108, 116])) = some σ3 := s2
      simp only [fr, ↓RP, RS, W34, fieldAddrF, ↓reduceIte, Nat.reduceAdd, Nat.reduceLT, Nat.reduceEqDiff, undE, aB2, lK, ha1, hdj, x2, s2, hw]
      exact seqK_n ⟨(j + 1, σ3), ⟨by omega, hs3⟩, by simp only; omega, by kernel_rfl, rfl⟩
    have hdj : decide ((j : Int) < nK) = false := by simpa using hjl
    simp only [fr, ↓RP, RS, W34, fieldAddrF, ↓reduceIte, Nat.reduceAdd, Nat.reduceLT, Nat.reduceEqDiff, undE, aB2, lK, ha1, hdj]
    exact hK.nrm (by rfl) (hk.trans hs2.keeps fun _ _ q => q)
end Go.Proofs.Ytadddaafajennaa.Am
