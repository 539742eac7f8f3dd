/- Messages whose lists lie in memory of their own, and what is read there. Walk: the copy of a message, in memory of its own. -/
import Derived.Test.YtadddaafajennaaNk
import Derived.Test.YtadddaafajennaaAmTh
set_option linter.unusedSimpArgs false
set_option linter.unusedVariables false
set_option maxRecDepth 10000
namespace Go.Proofs.Ytadddaafajennaa.Am
open Go Go.Proofs

section
variable {P : Program} {t : TypeId} {σ : List Ob} {o i k sz : Nat} {cs : List V}

theorem index_vec {e : TypeId} {kd : IntKind} {off len j : Nat} (h1 : σ[o]? = some (.vec sz cs)) (he : elemOfSlice P t = some e) (hz : szOf P e = sz) (h0 : 0 < sz) (hj : j < len) : indexAddrF P t σ (.sl o off len) (.d (.int kd (j : Int))) = some (.ptr o (off + j) 0) := by
  subst hz
  simp only [indexAddrF, he, h1, h0, true_and, if_true]
  rw [if_pos ⟨by omega, by omega⟩]
  simp

theorem load_vec {x : V} (h1 : σ[o]? = some (.vec sz cs)) (h2 : cs[i * sz + k]? = some x) (ha : aggT P t = false) (ht : okT P t = true) : loadF P t σ (.ptr o i k) = some x := by
  simp only [loadF, h1, takeV, ha, Bool.false_eq_true, if_false, ht]
  obtain ⟨hlt, e⟩ := List.getElem?_eq_some_iff.1 h2
  rw [List.drop_eq_getElem_cons hlt, e]
  rfl

theorem load_vecs (h1 : σ[o]? = some (.vec sz cs)) (ha : aggT P t = true) (h0 : 0 < szOf P t) (hl : i * sz + k + szOf P t ≤ cs.length) : loadF P t σ (.ptr o i k) = some (.agg ((cs.drop (i * sz + k)).take (szOf P t))) := by
  simp only [loadF, h1, takeV, ha, if_true]
  rw [if_pos ⟨h0, by rw [List.length_drop]; omega⟩]

theorem store_vec {x : V} (h1 : σ[o]? = some (.vec sz cs)) (hx : one σ x = true) (hk : i * sz + k < cs.length) (hz : szOf P t = 1) : storeF P t σ (.ptr o i k) x = some (σ.set o (.vec sz (cs.set (i * sz + k) x))) := by
  have hc : cellsV σ x = some [x] := by
    unfold cellsV
    split
    · simp [one] at hx
    · simp [one] at hx
    · rw [if_pos hx]
  simp only [storeF, h1, hc, hz, List.length_singleton, List.all_cons, List.all_nil, hx, Bool.and_self, and_true, true_and, Nat.lt_add_one]
  rw [if_pos (by omega), setAt_one hk]

theorem store_vecs {xs : List V} (h1 : σ[o]? = some (.vec sz cs)) (hx : xs.all (one σ) = true) (hk : i * sz + k + xs.length ≤ cs.length) (hz : xs.length = szOf P t) (h0 : 0 < szOf P t) : storeF P t σ (.ptr o i k) (.agg xs) = some (σ.set o (.vec sz (setAt cs (i * sz + k) xs))) := by
  simp only [storeF, h1, cellsV]
  rw [if_pos ⟨hz, h0, hk, hx⟩]
end

theorem mid_get {α : Type} {a e r : List α} {n k : Nat} (ha : a.length = n) (hk : k < e.length) : (a ++ (e ++ r))[n + k]? = e[k]? := by
  rw [List.getElem?_append_right (by omega), ha, Nat.add_sub_cancel_left, List.getElem?_append_left hk]
theorem mid_set {α : Type} {a e r : List α} {n k : Nat} (ha : a.length = n) (hk : k < e.length) (x : α) : (a ++ (e ++ r)).set (n + k) x = a ++ (e.set k x ++ r) := by
  rw [List.set_append_right _ _ (by omega), ha, Nat.add_sub_cancel_left, List.set_append_left _ _ hk]

/-! ### shapes -/
/-- An entry with its three lists. -/
structure EntIs (e : D) (ds to wr tod : List D) : Prop where
  eq : e = .agg ds
  len : ds.length = 50
  one : ds.all one1 = true
  h11 : ds[11]? = some (.lst 1 to)
  h17 : ds[17]? = some (.lst 5 wr)
  h44 : ds[44]? = some (.lst 1 tod)
  l1 : to.length ≤ 1048576
  l2 : wr.length ≤ 1048576
  l3 : tod.length ≤ 1048576
  pln : ∀ (k : Nat) (d : D), k ≠ 11 → k ≠ 17 → k ≠ 44 → ds[k]? = some d → plnD d = true
  p1 : plnDs to = true
  p2 : plnDs wr = true
  p3 : plnDs tod = true

def EntP (e : D) : Prop := ∃ ds to wr tod, EntIs e ds to wr tod

/-- A message with its two lists. -/
structure MsgIs (ms : List D) (ents lk : List D) : Prop where
  len : ms.length = 34
  one : ms.all one1 = true
  ents_ : ms[10]? = some (.lst 50 ents)
  link : ms[33]? = some (.lst 1 lk)
  ent : ∀ e ∈ ents, EntP e
  few : ents.length ≤ 1048576
  fewl : lk.length ≤ 1048576
  pln : ∀ (k : Nat) (d : D), k ≠ 10 → k ≠ 33 → ms[k]? = some d → plnD d = true
  p1 : plnDs lk = true

/-- A list in an object of its own, between two bounds. -/
def LstO (σ : List Ob) (lo hi sz : Nat) (v : V) (l : List D) : Prop := ∃ o, v = .sl o 0 l.length ∧ σ[o]? = some (.arr sz false l) ∧ lo ≤ o ∧ o < hi

def EntO (σ : List Ob) (lo hi : Nat) (c : List V) (e : D) : Prop :=
  ∃ ds to wr tod a b d, EntIs e ds to wr tod ∧ c = (((ds.map .d).set 11 a).set 17 b).set 44 d ∧ LstO σ lo hi 1 a to ∧ LstO σ lo hi 5 b wr ∧ LstO σ lo hi 1 d tod
def EntsO (σ : List Ob) (lo hi : Nat) : List V → List D → Prop
  | cs, [] => cs = []
  | cs, e :: es => ∃ c r, cs = c ++ r ∧ EntO σ lo hi c e ∧ EntsO σ lo hi r es
def EvO (σ : List Ob) (lo hi : Nat) (v : V) (ents : List D) : Prop :=
  (ents = [] ∧ LstO σ lo hi 50 v []) ∨ (ents ≠ [] ∧ ∃ o cs, v = .sl o 0 ents.length ∧ σ[o]? = some (.vec 50 cs) ∧ lo ≤ o ∧ o < hi ∧ EntsO σ lo hi cs ents)
def OM (σ : List Ob) (lo hi : Nat) (cells : List V) (ms : List D) : Prop :=
  ∃ ents lk vE vK, MsgIs ms ents lk ∧ cells = ((ms.map .d).set 10 vE).set 33 vK ∧ EvO σ lo hi vE ents ∧ LstO σ lo hi 1 vK lk

/-- What lies between the bounds is the same. -/
def Same2 (lo hi : Nat) (σ σ' : List Ob) : Prop := ∀ o x, lo ≤ o → o < hi → σ[o]? = some x → σ'[o]? = some x

theorem LstO.keep {σ σ' : List Ob} {lo hi lo' hi' sz : Nat} {v : V} {l : List D} (h : LstO σ lo hi sz v l) (hk : Same2 lo hi σ σ') (h1 : lo' ≤ lo) (h2 : hi ≤ hi') : LstO σ' lo' hi' sz v l := by
  obtain ⟨o, e1, e2, e3, e4⟩ := h
  exact ⟨o, e1, hk o _ e3 e4 e2, by omega, by omega⟩
theorem EntO.keep {σ σ' : List Ob} {lo hi lo' hi' : Nat} {c : List V} {e : D} (h : EntO σ lo hi c e) (hk : Same2 lo hi σ σ') (h1 : lo' ≤ lo) (h2 : hi ≤ hi') : EntO σ' lo' hi' c e := by
  obtain ⟨ds, to, wr, tod, a, b, d, g1, g2, g3, g4, g5⟩ := h
  exact ⟨ds, to, wr, tod, a, b, d, g1, g2, g3.keep hk h1 h2, g4.keep hk h1 h2, g5.keep hk h1 h2⟩
theorem EntsO.keep {σ σ' : List Ob} {lo hi lo' hi' : Nat} (hk : Same2 lo hi σ σ') (h1 : lo' ≤ lo) (h2 : hi ≤ hi') : ∀ {es : List D} {cs : List V}, EntsO σ lo hi cs es → EntsO σ' lo' hi' cs es
  | [], cs, h => h
  | e :: es, cs, h => by
    obtain ⟨c, r, e1, g1, g2⟩ := h
    exact ⟨c, r, e1, g1.keep hk h1 h2, EntsO.keep hk h1 h2 g2⟩
theorem EvO.keep {σ σ' : List Ob} {lo hi lo' hi' : Nat} {v : V} {es : List D} (h : EvO σ lo hi v es) (hk : Same2 lo hi σ σ') (h1 : lo' ≤ lo) (h2 : hi ≤ hi') : EvO σ' lo' hi' v es := by
  rcases h with ⟨e, h⟩ | ⟨e, o, cs, g1, g2, g3, g4, g5⟩
  · exact .inl ⟨e, h.keep hk h1 h2⟩
  · exact .inr ⟨e, o, cs, g1, hk o _ g3 g4 g2, by omega, by omega, g5.keep hk h1 h2⟩
theorem OM.keep {σ σ' : List Ob} {lo hi lo' hi' : Nat} {cells : List V} {ms : List D} (h : OM σ lo hi cells ms) (hk : Same2 lo hi σ σ') (h1 : lo' ≤ lo) (h2 : hi ≤ hi') : OM σ' lo' hi' cells ms := by
  obtain ⟨ents, lk, vE, vK, g1, g2, g3, g4⟩ := h
  exact ⟨ents, lk, vE, vK, g1, g2, g3.keep hk h1 h2, g4.keep hk h1 h2⟩

theorem EntsO.snoc {σ : List Ob} {lo hi : Nat} {c : List V} {e : D} (hc : EntO σ lo hi c e) : ∀ {es : List D} {cs : List V}, EntsO σ lo hi cs es → EntsO σ lo hi (cs ++ c) (es ++ [e])
  | [], cs, h => by simp only [EntsO] at h; subst h; exact ⟨c, [], by simp, hc, rfl⟩
  | d :: es, cs, h => by
    obtain ⟨c', r, rfl, g1, g2⟩ := h
    exact ⟨c', r ++ c, by simp, g1, EntsO.snoc hc g2⟩

/-! ### what is read, and that nothing is shared -/
theorem LstO.alive {σ : List Ob} {lo hi sz : Nat} {v : V} {l : List D} (h : LstO σ lo hi sz v l) : one σ v = true := by
  obtain ⟨o, rfl, h, _⟩ := h
  exact one_sl (alive_of h (by simp))
theorem LstO.read {σ : List Ob} {lo hi sz : Nat} {v : V} {l : List D} (h : LstO σ lo hi sz v l) : ReadV σ v (.lst sz l) := by
  obtain ⟨o, rfl, h, _⟩ := h
  exact .arr h rfl
theorem LstO.plnV {σ : List Ob} {lo hi sz : Nat} {v : V} {l : List D} (h : LstO σ lo hi sz v l) : plnV v = true := by
  obtain ⟨o, rfl, _⟩ := h
  rfl

theorem plnVs_all : ∀ {xs : List V}, (∀ x ∈ xs, plnV x = true) → plnVs xs = true
  | [], _ => rfl
  | x :: xs, h => by simp only [plnVs, Bool.and_eq_true]; exact ⟨h x (by simp), plnVs_all fun y hy => h y (by simp [hy])⟩
theorem plnVs_mem : ∀ {xs : List V}, plnVs xs = true → ∀ x ∈ xs, plnV x = true
  | x :: xs, h, y, hy => by
    simp only [plnVs, Bool.and_eq_true] at h
    rcases List.mem_cons.1 hy with rfl | hy
    · exact h.1
    · exact plnVs_mem h.2 y hy

section
variable {σ : List Ob} {lo hi : Nat}

theorem EntO.len {c : List V} {e : D} (h : EntO σ lo hi c e) : c.length = 50 := by
  obtain ⟨ds, to, wr, tod, a, b, d, g1, rfl, _⟩ := h
  simp [g1.len]

theorem EntO.at {c : List V} {e : D} (h : EntO σ lo hi c e) (k : Nat) (x : V) (hx : c[k]? = some x) : one σ x = true ∧ plnV x = true := by
  obtain ⟨ds, to, wr, tod, a, b, d, g1, rfl, g3, g4, g5⟩ := h
  rw [List.getElem?_set] at hx
  split at hx
  · split at hx
    · cases hx; exact ⟨g5.alive, g5.plnV⟩
    · cases hx
  rw [List.getElem?_set] at hx
  split at hx
  · split at hx
    · cases hx; exact ⟨g4.alive, g4.plnV⟩
    · cases hx
  rw [List.getElem?_set] at hx
  split at hx
  · split at hx
    · cases hx; exact ⟨g3.alive, g3.plnV⟩
    · cases hx
  rename_i n44 n17 n11
  rw [List.getElem?_map] at hx
  cases hd : ds[k]? with
  | none => rw [hd] at hx; cases hx
  | some y =>
    rw [hd] at hx
    simp only [Option.map_some, Option.some.injEq] at hx
    subst hx
    exact ⟨one_d (List.all_eq_true.1 g1.one y (List.mem_of_getElem? hd)), g1.pln k y (fun e => n11 e.symm) (fun e => n17 e.symm) (fun e => n44 e.symm) hd⟩

theorem EntO.read {c : List V} {e : D} (h : EntO σ lo hi c e) : ∃ es, e = .agg es ∧ ReadVs σ c es := by
  have hl := h.len
  obtain ⟨ds, to, wr, tod, a, b, d, g1, rfl, g3, g4, g5⟩ := h
  refine ⟨ds, g1.eq, .of_get (by rw [hl, g1.len]) fun k x y hx hy => ?_⟩
  rw [List.getElem?_set] at hx
  split at hx
  · rename_i q; subst q
    rw [g1.h44] at hy; cases hy
    split at hx
    · cases hx; exact g5.read
    · cases hx
  rw [List.getElem?_set] at hx
  split at hx
  · rename_i q; subst q
    rw [g1.h17] at hy; cases hy
    split at hx
    · cases hx; exact g4.read
    · cases hx
  rw [List.getElem?_set] at hx
  split at hx
  · rename_i q; subst q
    rw [g1.h11] at hy; cases hy
    split at hx
    · cases hx; exact g3.read
    · cases hx
  rw [List.getElem?_map, hy] at hx
  simp only [Option.map_some, Option.some.injEq] at hx
  subst hx
  exact .d σ y

theorem EntsO.rows : ∀ {es : List D} {cs : List V}, EntsO σ lo hi cs es → Rows50 σ 50 cs es
  | [], cs, h => h
  | e :: es, cs, h => by
    obtain ⟨c, r, rfl, g1, g2⟩ := h
    obtain ⟨ds, rfl, q⟩ := g1.read
    exact ⟨c, r, ds, rfl, rfl, g1.len, q, g2.rows⟩
theorem EntsO.at : ∀ {es : List D} {cs : List V}, EntsO σ lo hi cs es → ∀ x ∈ cs, one σ x = true ∧ plnV x = true
  | [], cs, h, x, hx => by simp only [EntsO] at h; subst h; simp at hx
  | e :: es, cs, h, x, hx => by
    obtain ⟨c, r, rfl, g1, g2⟩ := h
    rcases List.mem_append.1 hx with hx | hx
    · obtain ⟨k, hk⟩ := List.getElem?_of_mem hx
      exact g1.at k x hk
    · exact g2.at x hx
theorem EvO.read {v : V} {es : List D} (h : EvO σ lo hi v es) : ReadV σ v (.lst 50 es) := by
  rcases h with ⟨rfl, h⟩ | ⟨_, o, cs, rfl, h2, h3, h4, h5⟩
  · exact h.read
  · exact .vec h2 h5.rows (List.all_eq_true.2 fun x hx => (h5.at x hx).1) rfl
theorem EvO.one {v : V} {es : List D} (h : EvO σ lo hi v es) : one σ v = true := by
  rcases h with ⟨rfl, h⟩ | ⟨_, o, cs, rfl, h2, h3, h4, h5⟩
  · exact h.alive
  · exact one_sl (alive_of h2 (by simp))
theorem EvO.plnV {v : V} {es : List D} (h : EvO σ lo hi v es) : plnV v = true := by
  rcases h with ⟨rfl, h⟩ | ⟨_, o, cs, rfl, h2, h3, h4, h5⟩
  · exact h.plnV
  · rfl

variable {cells : List V} {ms : List D}
theorem OM.len (h : OM σ lo hi cells ms) : cells.length = 34 := by
  obtain ⟨ents, lk, vE, vK, g1, rfl, _⟩ := h
  simp [g1.len]
theorem OM.at (h : OM σ lo hi cells ms) (k : Nat) (x : V) (hx : cells[k]? = some x) : one σ x = true ∧ plnV x = true := by
  obtain ⟨ents, lk, vE, vK, g1, rfl, g3, g4⟩ := h
  rw [List.getElem?_set] at hx
  split at hx
  · split at hx
    · cases hx; exact ⟨g4.alive, g4.plnV⟩
    · cases hx
  rw [List.getElem?_set] at hx
  split at hx
  · split at hx
    · cases hx; exact ⟨g3.one, g3.plnV⟩
    · cases hx
  rename_i n33 n10
  rw [List.getElem?_map] at hx
  cases hd : ms[k]? with
  | none => rw [hd] at hx; cases hx
  | some y =>
    rw [hd] at hx
    simp only [Option.map_some, Option.some.injEq] at hx
    subst hx
    exact ⟨one_d (List.all_eq_true.1 g1.one y (List.mem_of_getElem? hd)), g1.pln k y (fun e => n10 e.symm) (fun e => n33 e.symm) hd⟩
theorem OM.all_one (h : OM σ lo hi cells ms) : cells.all (one σ) = true := List.all_eq_true.2 fun x hx => by
  obtain ⟨k, hk⟩ := List.getElem?_of_mem hx
  exact (h.at k x hk).1
theorem OM.pln (h : OM σ lo hi cells ms) : plnVs cells = true := plnVs_all fun x hx => by
  obtain ⟨k, hk⟩ := List.getElem?_of_mem hx
  exact (h.at k x hk).2
theorem OM.read (h : OM σ lo hi cells ms) : ReadV σ (.agg cells) (.agg ms) := by
  have hl := h.len
  obtain ⟨ents, lk, vE, vK, g1, rfl, g3, g4⟩ := h
  refine .agg (.of_get (by rw [hl, g1.len]) fun k x y hx hy => ?_)
  rw [List.getElem?_set] at hx
  split at hx
  · rename_i q; subst q
    rw [g1.link] at hy; cases hy
    split at hx
    · cases hx; exact g4.read
    · cases hx
  rw [List.getElem?_set] at hx
  split at hx
  · rename_i q; subst q
    rw [g1.ents_] at hy; cases hy
    split at hx
    · cases hx; exact g3.read
    · cases hx
  rw [List.getElem?_map, hy] at hx
  simp only [Option.map_some, Option.some.injEq] at hx
  subst hx
  exact .d σ y
end

/-! ### under other names -/
theorem renVs_set (g : Nat → Option Nat) (x : V) : ∀ (cs : List V) (k : Nat), renVs g (cs.set k x) = (renVs g cs).set k (renV g x)
  | [], k => by simp [renVs]
  | c :: cs, 0 => by simp [renVs]
  | c :: cs, k + 1 => by simp only [List.set_cons_succ, renVs, renVs_set g x cs k]
theorem renVs_append (g : Nat → Option Nat) : ∀ (a b : List V), renVs g (a ++ b) = renVs g a ++ renVs g b
  | [], b => rfl
  | x :: a, b => by simp only [List.cons_append, renVs, renVs_append g a b]

section
variable {τ σ : List Ob} {lo hi : Nat}
theorem LstO.emb {sz : Nat} {v : V} {l : List D} (h : LstO σ lo hi sz v l) : LstO (τ ++ σ.map (embO [] τ.length)) (τ.length + lo) (τ.length + hi) sz (embV [] τ.length v) l := by
  obtain ⟨o, rfl, h1, h2, h3⟩ := h
  refine ⟨τ.length + o, by simp [embV, renV, Am.emb], ?_, by omega, by omega⟩
  rw [List.getElem?_append_right (by omega), Nat.add_sub_cancel_left, List.getElem?_map, h1]
  rfl
theorem EntO.emb {c : List V} {e : D} (h : EntO σ lo hi c e) : EntO (τ ++ σ.map (embO [] τ.length)) (τ.length + lo) (τ.length + hi) (embVs [] τ.length c) e := by
  obtain ⟨ds, to, wr, tod, a, b, d, g1, rfl, g3, g4, g5⟩ := h
  refine ⟨ds, to, wr, tod, _, _, _, g1, ?_, g3.emb, g4.emb, g5.emb⟩
  simp only [embVs, renVs_set, renVs_d, embV]
theorem EntsO.emb : ∀ {es : List D} {cs : List V}, EntsO σ lo hi cs es → EntsO (τ ++ σ.map (embO [] τ.length)) (τ.length + lo) (τ.length + hi) (embVs [] τ.length cs) es
  | [], cs, h => by simp only [EntsO] at h ⊢; subst h; rfl
  | e :: es, cs, h => by
    obtain ⟨c, r, rfl, g1, g2⟩ := h
    exact ⟨_, _, by simp only [embVs, renVs_append], g1.emb, g2.emb⟩
theorem EvO.emb {v : V} {es : List D} (h : EvO σ lo hi v es) : EvO (τ ++ σ.map (embO [] τ.length)) (τ.length + lo) (τ.length + hi) (embV [] τ.length v) es := by
  rcases h with ⟨rfl, h⟩ | ⟨hn, o, cs, rfl, h2, h3, h4, h5⟩
  · exact .inl ⟨rfl, h.emb⟩
  · refine .inr ⟨hn, τ.length + o, _, by simp [embV, renV, Am.emb], ?_, by omega, by omega, h5.emb⟩
    rw [List.getElem?_append_right (by omega), Nat.add_sub_cancel_left, List.getElem?_map, h2]
    rfl
theorem OM.emb {cells : List V} {ms : List D} (h : OM σ lo hi cells ms) : OM (τ ++ σ.map (embO [] τ.length)) (τ.length + lo) (τ.length + hi) (embVs [] τ.length cells) ms := by
  obtain ⟨ents, lk, vE, vK, g1, rfl, g3, g4⟩ := h
  refine ⟨ents, lk, _, _, g1, ?_, g3.emb, g4.emb⟩
  simp only [embVs, renVs_set, renVs_d, embV]
end

/-- A message in memory of its own, made new, beside other things. -/
def NewM (ms : List D) (r : V) (σ : List Ob) : Prop := ∃ cells, r = .agg cells ∧ OM σ 0 σ.length cells ms ∧ ∀ x ∈ σ, plnO x = true

theorem NewM.pln {ms : List D} {r : V} {σ : List Ob} (h : NewM ms r σ) : plnV r = true ∧ ∀ x ∈ σ, plnO x = true := by
  obtain ⟨cells, rfl, h1, h2⟩ := h
  exact ⟨by simpa [plnV] using h1.pln, h2⟩

/-- Such a call, anywhere, on a message wherever it lies. -/
theorem NewM.at {f : FuncId} {ms : List D} (h : callA Try.prog f [.agg (ms.map .d)] [] (NewM ms)) {τ : List Ob} {x : V} (hr : ReadV τ x (.agg ms)) :
    callA Try.prog f [x] τ fun r τ' => ∃ cells, r = .agg cells ∧ OM τ' τ.length τ'.length cells ms ∧ Keeps (fun _ => False) τ τ' := by
  have h' : callA Try.prog f ([D.agg ms].map .d) [] (NewM ms) := callA_le (ys := [.agg (ms.map .d)]) (xs := [.d (.agg ms)]) (by
    refine ⟨_, _, rfl, fun I w l v q => ?_, rfl⟩
    simp only [VR, DR] at q ⊢
    obtain ⟨vs, e1, e2⟩ := q
    exact ⟨vs, e1, VRs_map_d.2 e2⟩) h
  refine callA_mono (callA_thaw h' (fun r σ' q => q.pln) (.cons hr (.nil τ))) fun r τ' q => ?_
  obtain ⟨r0, σ0, ⟨cells, rfl, q1, q2⟩, rfl, rfl⟩ := q
  have e : storeBack τ [] σ0 = τ ++ σ0.map (embO [] τ.length) := by
    unfold storeBack
    cases σ0 <;> rfl
  rw [e]
  refine ⟨embVs [] τ.length cells, rfl, ?_, Keeps.app _ _ _⟩
  have := q1.emb (τ := τ)
  simpa using this

theorem clone50o (es : List D) (hl : es.length ≤ 1048576) : callA Try.prog 50 [.d (.lst 1 es)] [] fun r σ' => r = .sl 0 0 es.length ∧ σ' = [.arr 1 false es] := by
  refine w50.go fun K hK => ?_
  simp only [e50, c50, p50, Try.f50, codeOf, comp, opsOf, stOf, cop, cstp, copAt, planFor, List.find?, List.find?_nil, Option.map_none, Option.getD_none, List.any_cons, List.any_nil, Stp.idx, Bool.or_false, Nat.reduceBEq, ↓RP, RS, W50]
  refine BinK_eqln rfl rfl (by simp only [W50]) fun b hb => ?_
  cases b with
  | true =>
    have := hb rfl; subst this
    simp only [↓RP, RS, W50]
    exact hK.fin rfl (Fin.nil 1 (by simp)) ⟨rfl, rfl⟩
  | false =>
    rcases es with _ | ⟨x, es⟩
    · simp only [↓RP, RS, W50, ↓reduceIte, Nat.reduceMul, Nat.reduceAdd, Nat.reduceSub, Nat.reduceLeDiff, Nat.reduceLT, Nat.reduceEqDiff, decide_true, decide_false, buildSliceF, buildF, fillV, inOrder, toDs, toD, flatOk, appE, appendInF, appendF, srcD, notSame, storeF, loadF, takeV, takeD, cellsV, boxE, allocE, undE, tupE, fieldAddrF, fieldF, indexAddrF, sliceF, optNat, natOf, cutD, makeF, makeSliceF, makeVecF]
      exact hK.ret rfl ⟨rfl, rfl⟩
    · have hb : (es.length + 1) * 16 ≤ 70368744177664 := by simp only [List.length_cons] at hl; omega
      simp only [↓RP, RS, hb, W50, ↓reduceIte, Nat.reduceMul, Nat.reduceAdd, Nat.reduceSub, Nat.reduceLeDiff, Nat.reduceLT, Nat.reduceEqDiff, decide_true, decide_false, buildSliceF, buildF, fillV, inOrder, toDs, toD, flatOk, appE, appendInF, appendF, srcD, notSame, storeF, loadF, takeV, takeD, cellsV, boxE, allocE, undE, tupE, fieldAddrF, fieldF, indexAddrF, sliceF, optNat, natOf, cutD, makeF, makeSliceF, makeVecF]
      refine hK.fin rfl (Fin.keep [1] (by simp) (by simp) (by simp)) ⟨?_, ?_⟩
      · rfl
      · rfl

theorem clone51o (es : List D) (hl : es.length ≤ 1048576) : callA Try.prog 51 [.d (.lst 5 es)] [] fun r σ' => r = .sl 0 0 es.length ∧ σ' = [.arr 5 false es] := by
  refine w51.go fun K hK => ?_
  simp only [e51, c51, p51, Try.f51, codeOf, comp, opsOf, stOf, cop, cstp, copAt, planFor, List.find?, List.find?_nil, Option.map_none, Option.getD_none, List.any_cons, List.any_nil, Stp.idx, Bool.or_false, Nat.reduceBEq, ↓RP, RS, W51]
  refine BinK_eqln rfl rfl (by simp only [W51]) fun b hb => ?_
  cases b with
  | true =>
    have := hb rfl; subst this
    simp only [↓RP, RS, W51]
    exact hK.fin rfl (Fin.nil 5 (by simp)) ⟨rfl, rfl⟩
  | false =>
    rcases es with _ | ⟨x, es⟩
    · simp only [↓RP, RS, W51, ↓reduceIte, Nat.reduceMul, Nat.reduceAdd, Nat.reduceSub, Nat.reduceLeDiff, Nat.reduceLT, Nat.reduceEqDiff, decide_true, decide_false, buildSliceF, buildF, fillV, inOrder, toDs, toD, flatOk, appE, appendInF, appendF, srcD, notSame, storeF, loadF, takeV, takeD, cellsV, boxE, allocE, undE, tupE, fieldAddrF, fieldF, indexAddrF, sliceF, optNat, natOf, cutD, makeF, makeSliceF, makeVecF]
      exact hK.ret rfl ⟨rfl, rfl⟩
    · have hb : (es.length + 1) * 64 ≤ 70368744177664 := by simp only [List.length_cons] at hl; omega
      simp only [↓RP, RS, hb, W51, ↓reduceIte, Nat.reduceMul, Nat.reduceAdd, Nat.reduceSub, Nat.reduceLeDiff, Nat.reduceLT, Nat.reduceEqDiff, decide_true, decide_false, buildSliceF, buildF, fillV, inOrder, toDs, toD, flatOk, appE, appendInF, appendF, srcD, notSame, storeF, loadF, takeV, takeD, cellsV, boxE, allocE, undE, tupE, fieldAddrF, fieldF, indexAddrF, sliceF, optNat, natOf, cutD, makeF, makeSliceF, makeVecF]
      refine hK.fin rfl (Fin.keep [1] (by simp) (by simp) (by simp)) ⟨?_, ?_⟩
      · rfl
      · rfl

theorem EntP.csz {e : D} (h : EntP e) : e.csz = some 50 := by
  obtain ⟨ds, to, wr, tod, h⟩ := h
  rw [h.eq, D.csz, h.len]

theorem clone49v (es : List D) (hl : es.length ≤ 1048576) (hn : es ≠ []) (he : ∀ e ∈ es, EntP e) : callA Try.prog 49 [.d (.lst 50 es)] [] fun r σ' => r = .sl 0 0 es.length ∧ σ' = [.vec 50 (rowsV es)] := by
  refine callA_res (callA_mono (clone49o es hl) fun r σ' q => ?_)
  obtain ⟨rfl, rfl⟩ := q
  exact ⟨_, _, Fin.vec (o := 0) rfl hn fun e h => (he e h).csz, rfl, rfl⟩

theorem rowsV_cons {e : D} {es : List D} {ds : List D} (h : e = .agg ds) : rowsV (e :: es) = ds.map .d ++ rowsV es := by subst h; rfl
theorem rowsV_len : ∀ {es : List D}, (∀ e ∈ es, EntP e) → (rowsV es).length = es.length * 50
  | [], _ => by simp [rowsV]
  | e :: es, h => by
    obtain ⟨ds, to, wr, tod, g⟩ := h e (by simp)
    rw [rowsV_cons g.eq, List.length_append, List.length_map, g.len, rowsV_len fun e he => h e (by simp [he]), List.length_cons, Nat.add_mul]; omega

/-- The message's cells with its two lists elsewhere. -/
abbrev cellsM (ms : List D) (vE vK : V) : List V := ((ms.map V.d).set 10 vE).set 33 vK

theorem LstO.lst {σ τ : List Ob} {sz : Nat} {l : List D} (lo : Nat) (hlo : lo ≤ τ.length) (h : σ = τ ++ [.arr sz false l]) : LstO σ lo σ.length sz (.sl τ.length 0 l.length) l := by
  subst h
  exact ⟨τ.length, rfl, by simp, hlo, by simp⟩

theorem plnO_arr {sz : Nat} {mk : Bool} {es : List D} (h : plnDs es = true) : plnO (.arr sz mk es) = true := by simpa [plnO] using h

set_option maxHeartbeats 1000000 in
theorem copy46v {ms : List D} {ents lk : List D} (h : MsgIs ms ents lk) (hn : ents ≠ []) : callA Try.prog 46 [.agg (ms.map .d)] [] (NewM ms) := by
  refine w46.go fun K hK => ?_
  have l1 : ∀ τ, loadF Try.prog 33 (Ob.box (ms.map .d) :: τ) (.ptr 0 0 10) = some (.d (.lst 50 ents)) := fun τ => load_box rfl (d_get h.ents_) (by simp only [W46]) (by simp only [W46])
  simp only [e46, c46, p46, Try.f46, codeOf, comp, opsOf, stOf, cop, cstp, copAt, planFor, List.find?, List.find?_nil, Option.map_none, Option.getD_none, List.any_cons, List.any_nil, Stp.idx, Bool.or_false, Nat.reduceBEq, ↓RP, RS, W46, boxE, allocE, fieldAddrF, cellsV, l1, ↓reduceIte, Nat.reduceAdd, Nat.reduceLT, alive]
  refine CallK_use (callA_at (clone49v ents h.few hn h.ent) _ rfl) fun v σ' ⟨r0, σ0, ⟨q1, q2⟩, e1, e2⟩ => ⟨trivial, ?_⟩
  subst q1; subst q2
  obtain rfl : v = .sl 2 0 ents.length := e1
  obtain rfl : σ' = [.box (ms.map .d), .box z42, .vec 50 (rowsV ents)] := by
    rw [e2]
    have : renVs (fun o => some (emb [] 2 o)) (rowsV ents) = rowsV ents := by
      simp only [rowsV]
      rw [← List.map_flatMap]
      exact renVs_d _ _
    show _ = _
    simp only [List.cons_append, List.nil_append, List.map_cons, List.map_nil, embO, renO, List.length_cons, List.length_nil, Nat.reduceAdd, this]
  have s1 := store_box (P := Try.prog) (t := 33) (σ := [.box (ms.map .d), .box z42, .vec 50 (rowsV ents)]) (o := 0) (k := 10) (x := .sl 2 0 ents.length) rfl rfl (by simp [h.len]) (by simp only [W46])
  have l2 : ∀ τ, loadF Try.prog 33 (Ob.box ((ms.map .d).set 10 (.sl 2 0 ents.length)) :: τ) (.ptr 0 0 10) = some (.sl 2 0 ents.length) := fun τ => load_box rfl (by simp [h.len]) (by simp only [W46]) (by simp only [W46])
  simp only [↓RP, RS, W46, fieldAddrF, ↓reduceIte, Nat.reduceAdd, Nat.reduceLT, alive, s1, l2, undE]
  generalize hM : (ms.map V.d).set 10 (.sl 2 0 ents.length) = M at *
  refine Loop_k [1, 2, 14, 15] (fun y : Nat × List V × List Ob => fr 0 62 [(1, .ptr 0 0 0), (2, .ptr 1 0 0), (14, .d (.int .i64 ents.length)), (15, .d (.int .i64 y.1))])
    (fun y => Ob.box M :: Ob.box z42 :: Ob.vec 50 (y.2.1 ++ rowsV (ents.drop y.1)) :: y.2.2)
    (fun y => y.1 ≤ ents.length ∧ y.2.1.length = y.1 * 50 ∧ EntsO (Ob.box M :: Ob.box z42 :: Ob.vec 50 (y.2.1 ++ rowsV (ents.drop y.1)) :: y.2.2) 3 (y.2.2.length + 3) y.2.1 (ents.take y.1) ∧ ∀ x ∈ y.2.2, plnO x = true)
    (fun y => ents.length - y.1) (0, [], []) (by kernel_rfl) rfl ⟨Nat.zero_le _, rfl, rfl, by simp⟩ fun ⟨i, done, τ⟩ hi => ?_
  obtain ⟨hi, hdl, hde, hpl⟩ := hi
  simp only at hi hdl hde hpl ⊢
  have hw : IntKind.i64.wrap ((i : Int) + 1) = ((i + 1 : Nat) : Int) := by have := h.few; rw [IntWalk.i64_in _ (by omega)]; rfl
  by_cases hlt : i < ents.length
  · have hd : decide ((i : Int) < ents.length) = true := by simpa using hlt
    obtain ⟨es, to, wr, tod, he⟩ := h.ent ents[i] (by simp)
    have hdr : ents.drop i = ents[i] :: ents.drop (i + 1) := List.drop_eq_getElem_cons hlt
    have hrow : rowsV (ents.drop i) = es.map V.d ++ rowsV (ents.drop (i + 1)) := by rw [hdr, rowsV_cons he.eq]
    rw [hrow] at hde ⊢
    have hel : (es.map V.d).length = 50 := by simp [he.len]
    generalize hR : rowsV (ents.drop (i + 1)) = R at *
    have x1 : ∀ (a b : Ob) (cs : List V) (ρ : List Ob), indexAddrF Try.prog 33 (a :: b :: Ob.vec 50 cs :: ρ) (.sl 2 0 ents.length) (.d (.int .i64 (i : Int))) = some (.ptr 2 i 0) := fun a b cs ρ => by
      have := index_vec (P := Try.prog) (t := 33) (kd := .i64) (σ := a :: b :: Ob.vec 50 cs :: ρ) (o := 2) (off := 0) (e := 96) rfl (by simp only [W46]) (by simp only [W46]) (by decide) hlt
      rwa [Nat.zero_add] at this
    have a1 : ∀ (a b : Ob) (ρ : List Ob), loadF Try.prog 38 (a :: b :: Ob.vec 50 (done ++ (es.map V.d ++ R)) :: ρ) (.ptr 2 i 11) = some (.d (.lst 1 to)) := fun a b ρ =>
      load_vec (P := Try.prog) (t := 38) (σ := a :: b :: Ob.vec 50 (done ++ (es.map V.d ++ R)) :: ρ) (o := 2) (i := i) (k := 11) rfl (by rw [mid_get hdl (by omega)]; exact d_get he.h11) (by simp only [W46]) (by simp only [W46])
    have b1 : ∀ (a b : Ob) (ρ : List Ob) (p len : Nat), alive (a :: b :: Ob.vec 50 (done ++ (es.map V.d ++ R)) :: ρ) p = true → storeF Try.prog 38 (a :: b :: Ob.vec 50 (done ++ (es.map V.d ++ R)) :: ρ) (.ptr 2 i 11) (.sl p 0 len) = some (a :: b :: Ob.vec 50 (done ++ ((es.map V.d).set 11 (.sl p 0 len) ++ R)) :: ρ) := fun a b ρ p len ha => by
      rw [store_vec (P := Try.prog) (t := 38) (σ := a :: b :: Ob.vec 50 (done ++ (es.map V.d ++ R)) :: ρ) (o := 2) (i := i) (k := 11) rfl (one_sl ha) (by simp only [List.length_append, List.length_map, List.length_set, hdl, he.len]; omega) (by simp only [W46]), mid_set hdl (by omega)]
      rfl
    have a2 : ∀ (a b : Ob) (ρ : List Ob) (v : V), loadF Try.prog 84 (a :: b :: Ob.vec 50 (done ++ ((es.map V.d).set 11 v ++ R)) :: ρ) (.ptr 2 i 17) = some (.d (.lst 5 wr)) := fun a b ρ v =>
      load_vec (P := Try.prog) (t := 84) (σ := a :: b :: Ob.vec 50 (done ++ ((es.map V.d).set 11 v ++ R)) :: ρ) (o := 2) (i := i) (k := 17) rfl (by rw [mid_get hdl (by simp [he.len]), List.getElem?_set_ne (by decide)]; exact d_get he.h17) (by simp only [W46]) (by simp only [W46])
    have b2 : ∀ (a b : Ob) (ρ : List Ob) (v : V) (p len : Nat), alive (a :: b :: Ob.vec 50 (done ++ ((es.map V.d).set 11 v ++ R)) :: ρ) p = true → storeF Try.prog 84 (a :: b :: Ob.vec 50 (done ++ ((es.map V.d).set 11 v ++ R)) :: ρ) (.ptr 2 i 17) (.sl p 0 len) = some (a :: b :: Ob.vec 50 (done ++ (((es.map V.d).set 11 v).set 17 (.sl p 0 len) ++ R)) :: ρ) := fun a b ρ v p len ha => by
      rw [store_vec (P := Try.prog) (t := 84) (σ := a :: b :: Ob.vec 50 (done ++ ((es.map V.d).set 11 v ++ R)) :: ρ) (o := 2) (i := i) (k := 17) rfl (one_sl ha) (by simp only [List.length_append, List.length_map, List.length_set, hdl, he.len]; omega) (by simp only [W46]), mid_set hdl (by simp [he.len])]
      rfl
    have a3 : ∀ (a b : Ob) (ρ : List Ob) (v u : V), loadF Try.prog 38 (a :: b :: Ob.vec 50 (done ++ (((es.map V.d).set 11 v).set 17 u ++ R)) :: ρ) (.ptr 2 i 44) = some (.d (.lst 1 tod)) := fun a b ρ v u =>
      load_vec (P := Try.prog) (t := 38) (σ := a :: b :: Ob.vec 50 (done ++ (((es.map V.d).set 11 v).set 17 u ++ R)) :: ρ) (o := 2) (i := i) (k := 44) rfl (by rw [mid_get hdl (by simp [he.len]), List.getElem?_set_ne (by decide), List.getElem?_set_ne (by decide)]; exact d_get he.h44) (by simp only [W46]) (by simp only [W46])
    have b3 : ∀ (a b : Ob) (ρ : List Ob) (v u : V) (p len : Nat), alive (a :: b :: Ob.vec 50 (done ++ (((es.map V.d).set 11 v).set 17 u ++ R)) :: ρ) p = true → storeF Try.prog 38 (a :: b :: Ob.vec 50 (done ++ (((es.map V.d).set 11 v).set 17 u ++ R)) :: ρ) (.ptr 2 i 44) (.sl p 0 len) = some (a :: b :: Ob.vec 50 (done ++ ((((es.map V.d).set 11 v).set 17 u).set 44 (.sl p 0 len) ++ R)) :: ρ) := fun a b ρ v u p len ha => by
      rw [store_vec (P := Try.prog) (t := 38) (σ := a :: b :: Ob.vec 50 (done ++ (((es.map V.d).set 11 v).set 17 u ++ R)) :: ρ) (o := 2) (i := i) (k := 44) rfl (one_sl ha) (by simp only [List.length_append, List.length_map, List.length_set, hdl, he.len]; omega) (by simp only [W46]), mid_set hdl (by simp [he.len])]
      rfl
    have av : ∀ (a b : Ob) (cs : List V) (ρ : List Ob), alive (a :: b :: Ob.vec 50 cs :: ρ) 2 = true := fun _ _ _ _ => rfl
    have al : ∀ (a b c x : Ob) (ρ : List Ob), (x ≠ .dead) → alive (a :: b :: c :: (ρ ++ [x])) (ρ.length + 3) = true := fun a b c x ρ hx => alive_of (x := x) (by simp) hx
    simp only [fr, ↓RP, RS, W46, fieldAddrF, ↓reduceIte, Nat.reduceAdd, Nat.reduceLT, Nat.reduceEqDiff, alive, l2, undE, hd, x1, a1, av]
    refine CallK_use' (callA_at (clone50o to he.l1) _ rfl) fun v σ' ⟨r0, σ0, ⟨q1, q2⟩, e1, e2⟩ => ?_
    subst q1; subst q2
    obtain rfl : v = .sl (τ.length + 3) 0 to.length := by rw [e1]; simp [embV, renV, emb]
    obtain rfl : σ' = Ob.box M :: Ob.box z42 :: Ob.vec 50 (done ++ (es.map V.d ++ R)) :: (τ ++ [.arr 1 false to]) := by rw [e2]; rfl
    simp only [↓RP, RS, W46, fieldAddrF, ↓reduceIte, Nat.reduceAdd, Nat.reduceLT, Nat.reduceEqDiff, alive, l2, undE, av, a1, a2, b1 _ _ _ _ _ (al _ _ _ (.arr 1 false to) τ (by simp))]
    refine CallK_use' (callA_at (clone51o wr he.l2) _ rfl) fun v σ' ⟨r0, σ0, ⟨q1, q2⟩, e1, e2⟩ => ?_
    subst q1; subst q2
    obtain rfl : v = .sl ((τ ++ [Ob.arr 1 false to]).length + 3) 0 wr.length := by rw [e1]; simp [embV, renV, emb]
    obtain rfl : σ' = Ob.box M :: Ob.box z42 :: Ob.vec 50 (done ++ ((es.map V.d).set 11 (.sl (τ.length + 3) 0 to.length) ++ R)) :: ((τ ++ [.arr 1 false to]) ++ [.arr 5 false wr]) := by rw [e2]; rfl
    simp only [↓RP, RS, W46, fieldAddrF, ↓reduceIte, Nat.reduceAdd, Nat.reduceLT, Nat.reduceEqDiff, alive, l2, undE, av, a3, b2 _ _ _ _ _ _ (al _ _ _ (.arr 5 false wr) (τ ++ [Ob.arr 1 false to]) (by simp))]
    refine CallK_use' (callA_at (clone50o tod he.l3) _ rfl) fun v σ' ⟨r0, σ0, ⟨q1, q2⟩, e1, e2⟩ => ?_
    subst q1; subst q2
    obtain rfl : v = .sl (((τ ++ [Ob.arr 1 false to]) ++ [Ob.arr 5 false wr]).length + 3) 0 tod.length := by rw [e1]; simp [embV, renV, emb]
    obtain rfl : σ' = Ob.box M :: Ob.box z42 :: Ob.vec 50 (done ++ (((es.map V.d).set 11 (.sl (τ.length + 3) 0 to.length)).set 17 (.sl ((τ ++ [Ob.arr 1 false to]).length + 3) 0 wr.length) ++ R)) :: (((τ ++ [.arr 1 false to]) ++ [.arr 5 false wr]) ++ [.arr 1 false tod]) := by rw [e2]; rfl
    simp only [↓RP, RS, W46, fieldAddrF, ↓reduceIte, Nat.reduceAdd, Nat.reduceLT, Nat.reduceEqDiff, alive, l2, undE, av, b3 _ _ _ _ _ _ _ (al _ _ _ (.arr 1 false tod) ((τ ++ [Ob.arr 1 false to]) ++ [Ob.arr 5 false wr]) (by simp)), hw]
    refine seqK_n ⟨(i + 1, done ++ ((((es.map V.d).set 11 (.sl (τ.length + 3) 0 to.length)).set 17 (.sl ((τ ++ [Ob.arr 1 false to]).length + 3) 0 wr.length)).set 44 (.sl (((τ ++ [Ob.arr 1 false to]) ++ [Ob.arr 5 false wr]).length + 3) 0 tod.length)), ((τ ++ [.arr 1 false to]) ++ [.arr 5 false wr]) ++ [.arr 1 false tod]), ⟨by omega, by simp only [List.length_append, List.length_map, List.length_set, hdl, he.len]; omega, ?_, ?_⟩, by simp only; omega, by kernel_rfl, ?_⟩
    · simp only
      rw [List.take_succ_eq_append_getElem hlt]
      refine EntsO.snoc ⟨es, to, wr, tod, _, _, _, he, rfl, ⟨_, rfl, ?_, by omega, by simp⟩, ⟨_, rfl, ?_, by omega, by simp⟩, ⟨_, rfl, ?_, by omega, by simp⟩⟩ (hde.keep (fun o x h1 h2 ho => ?_) (Nat.le_refl _) (by simp only [List.length_append, List.length_singleton]; omega))
      · simp [List.append_assoc]
      · simp [List.append_assoc]
      · simp [List.append_assoc]
      · obtain ⟨o, rfl⟩ : ∃ k, o = k + 3 := ⟨o - 3, by omega⟩
        simp only [List.getElem?_cons_succ] at ho ⊢
        rw [List.append_assoc, List.append_assoc, List.getElem?_append_left (by omega)]
        exact ho
    · intro x hx
      simp only [List.append_assoc, List.mem_append, List.mem_singleton] at hx
      rcases hx with hx | rfl | rfl | rfl
      · exact hpl x hx
      · exact plnO_arr he.p1
      · exact plnO_arr he.p2
      · exact plnO_arr he.p3
    · simp only [hR, List.append_assoc]
  · have hd : decide ((i : Int) < ents.length) = false := by simpa using hlt
    obtain rfl : i = ents.length := by omega
    rw [List.drop_length, show rowsV [] = ([] : List V) from rfl, List.append_nil, List.take_length] at *
    have hlen : M.length = 34 := by rw [← hM]; simp [h.len]
    simp only [fr, ↓RP, RS, W46, fieldAddrF, ↓reduceIte, Nat.reduceAdd, Nat.reduceLT, Nat.reduceEqDiff, alive, l2, undE, hd]
    have l3 : ∀ ρ, loadF Try.prog 38 (Ob.box M :: ρ) (.ptr 0 0 33) = some (.d (.lst 1 lk)) := fun ρ => load_box (P := Try.prog) (t := 38) (o := 0) (k := 33) (x := .d (.lst 1 lk)) rfl (by rw [← hM]; simp [h.link]) (by simp only [W46]) (by simp only [W46])
    simp only [↓RP, RS, W46, l3]
    refine CallK_use' (callA_at (clone50o lk h.fewl) _ rfl) fun v σ' ⟨r0, σ0, ⟨q1, q2⟩, e1, e2⟩ => ?_
    subst q1; subst q2
    obtain rfl : v = .sl (τ.length + 3) 0 lk.length := by rw [e1]; simp [embV, renV, emb]
    obtain rfl : σ' = Ob.box M :: Ob.box z42 :: Ob.vec 50 done :: (τ ++ [.arr 1 false lk]) := by rw [e2]; rfl
    have al : alive (Ob.box M :: Ob.box z42 :: Ob.vec 50 done :: (τ ++ [.arr 1 false lk])) (τ.length + 3) = true := alive_of (x := .arr 1 false lk) (by simp) (by simp)
    have s3 := store_box (P := Try.prog) (t := 38) (σ := Ob.box M :: Ob.box z42 :: Ob.vec 50 done :: (τ ++ [.arr 1 false lk])) (o := 0) (k := 33) (x := .sl (τ.length + 3) 0 lk.length) rfl (one_sl al) (by omega) (by simp only [W46])
    generalize hM' : M.set 33 (.sl (τ.length + 3) 0 lk.length) = M' at *
    have hlen' : M'.length = 34 := by rw [← hM']; simp [hlen]
    have s3 : storeF Try.prog 38 (Ob.box M :: Ob.box z42 :: Ob.vec 50 done :: (τ ++ [.arr 1 false lk])) (.ptr 0 0 33) (.sl (τ.length + 3) 0 lk.length) = some (Ob.box M' :: Ob.box z42 :: Ob.vec 50 done :: (τ ++ [.arr 1 false lk])) := s3
    have l4 := load_all (P := Try.prog) (t := 42) (σ := Ob.box M' :: Ob.box z42 :: Ob.vec 50 done :: (τ ++ [.arr 1 false lk])) (o := 0) rfl (by simp [hlen', W46]) (by simp only [W46]) (by simp [W46])
    -- what is made
    have hSM : ∀ (a b : Ob), OM (a :: b :: Ob.vec 50 done :: (τ ++ [.arr 1 false lk])) 0 (τ.length + 4) M' ms := fun a b => by
      refine ⟨ents, lk, .sl 2 0 ents.length, .sl (τ.length + 3) 0 lk.length, h, by rw [← hM', ← hM], .inr ⟨hn, 2, done, rfl, rfl, by omega, by omega, hde.keep (fun o x h1 h2 ho => ?_) (by omega) (by omega)⟩, ⟨_, rfl, by simp, by omega, by omega⟩⟩
      obtain ⟨o, rfl⟩ : ∃ k, o = k + 3 := ⟨o - 3, by omega⟩
      simp only [List.getElem?_cons_succ] at ho ⊢
      rw [List.getElem?_append_left (by omega)]
      exact ho
    have s4 := store_agg (P := Try.prog) (t := 42) (σ := Ob.box M' :: Ob.box z42 :: Ob.vec 50 done :: (τ ++ [.arr 1 false lk])) (o := 1) (k := 0) (xs := M') rfl (hSM _ _).all_one (by simp [hlen', W46]) (by simp [hlen', W46]) (by simp [W46])
    rw [setAt_all (by simp [hlen', W46])] at s4
    have s4 : storeF Try.prog 42 (Ob.box M' :: Ob.box z42 :: Ob.vec 50 done :: (τ ++ [.arr 1 false lk])) (.ptr 1 0 0) (.agg M') = some (Ob.box M' :: Ob.box M' :: Ob.vec 50 done :: (τ ++ [.arr 1 false lk])) := s4
    simp only [↓RP, RS, W46, fieldAddrF, ↓reduceIte, Nat.reduceAdd, Nat.reduceLT, Nat.reduceEqDiff, alive, s3, l4, s4, undE]
    have l5 := load_all (P := Try.prog) (t := 42) (σ := Ob.box M' :: Ob.box M' :: Ob.vec 50 done :: (τ ++ [.arr 1 false lk])) (o := 1) rfl (by simp [hlen', W46]) (by simp only [W46]) (by simp [W46])
    refine hK.ret (r := .agg M') (by simp only [resF, resAll, resOne, e46, RS, l5]) ⟨M', rfl, ?_, fun x hx => ?_⟩
    · have := hSM (Ob.box M') (Ob.box M')
      simpa using this
    · have hMp := (hSM (Ob.box M') (Ob.box M')).pln
      simp only [List.mem_cons, List.mem_append, List.mem_singleton, List.not_mem_nil, or_false] at hx
      rcases hx with rfl | rfl | rfl | hx | rfl
      · simpa [plnO] using hMp
      · simpa [plnO] using hMp
      · simp only [plnO]
        exact plnVs_all fun x hx => (hde.at x hx).2
      · exact hpl x hx
      · exact plnO_arr h.p1
end Go.Proofs.Ytadddaafajennaa.Am
