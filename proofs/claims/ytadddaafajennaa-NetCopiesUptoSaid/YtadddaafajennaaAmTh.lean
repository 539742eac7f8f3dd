/- The engine's thaw: what holds of a call whose arguments are data that nothing changes holds where they lie in memory that is owned, if what it hands back shares nothing with them. -/
import Derived.Test.YtadddaafajennaaAmA
set_option linter.unusedSimpArgs false
set_option linter.unusedVariables false
namespace Go.Proofs.Ytadddaafajennaa.Am
open Go

mutual
/-- Data without lists. -/
def plnD : D → Bool
  | .lst _ _ => false
  | .agg cs => plnDs cs
  | .ifc _ d => plnD d
  | _ => true
def plnDs : List D → Bool
  | [] => true
  | d :: r => plnD d && plnDs r
end
mutual
def plnV : V → Bool
  | .d x => plnD x
  | .ipt _ => false
  | .fn _ cs => plnVs cs
  | .bm _ cs => plnVs cs
  | .agg cs => plnVs cs
  | .tup cs => plnVs cs
  | _ => true
def plnVs : List V → Bool
  | [] => true
  | x :: r => plnV x && plnVs r
end
def plnO : Ob → Bool
  | .dead => true
  | .box cs => plnVs cs
  | .vec _ cs => plnVs cs
  | .arr _ _ es => plnDs es
  | .sit _ _ => true
  | _ => false

mutual
theorem DR_pln {I J : Im} : ∀ (d : D) (v : Value), plnD d = true → DR I d v → DR J d v
  | .int _ _, _, _, r | .bool _, _, _, r | .str _, _, _, r | .nils, _, _, r | .nilp, _, _, r | .nilm, _, _, r | .nilf, _, _, r | .nili, _, _, r => by simpa [DR] using r
  | .any, _, _, _ => by simp [DR]
  | .lst sz es, v, h, r => by simp [plnD] at h
  | .agg cs, v, h, r => by
    simp only [DR] at r ⊢
    obtain ⟨vs, h1, h2⟩ := r
    exact ⟨vs, h1, DRs_pln cs vs (by simpa [plnD] using h) h2⟩
  | .ifc t d, v, h, r => by
    simp only [DR] at r ⊢
    obtain ⟨x, h1, h2⟩ := r
    exact ⟨x, h1, DR_pln d x (by simpa [plnD] using h) h2⟩
theorem DRs_pln {I J : Im} : ∀ (ds : List D) (vs : List Value), plnDs ds = true → DRs I ds vs → DRs J ds vs
  | [], vs, _, r => by simpa [DRs] using r
  | d :: ds, vs, h, r => by
    simp only [DRs] at r ⊢
    simp only [plnDs, Bool.and_eq_true] at h
    obtain ⟨v, t, h1, h2, h3⟩ := r
    exact ⟨v, t, h1, DR_pln d v h.1 h2, DRs_pln ds t h.2 h3⟩
end
theorem RowsR_pln {I J : Im} : ∀ (ds : List D) (b off sz : Nat), plnDs ds = true → (∀ o, J.cell b o = I.cell b o) → RowsR I ds b off sz → RowsR J ds b off sz
  | [], _, _, _, _, _, _ => by simp [RowsR]
  | d :: ds, b, off, sz, h, hb, r => by
    simp only [RowsR] at r ⊢
    simp only [plnDs, Bool.and_eq_true] at h
    obtain ⟨⟨v, h1, h2, h3⟩, h4⟩ := r
    exact ⟨⟨v, DR_pln d v h.1 h1, h2, fun j hj => by rw [hb]; exact h3 j hj⟩, RowsR_pln ds b (off + sz) sz h.2 hb h4⟩

mutual
theorem VR_pln {I J : Im} {w : World} {l : Nat → Loc} : ∀ (x : V) (v : Value), plnV x = true → VR I w l x v → VR J w l x v
  | .d x, v, h, r => by simp only [VR] at r ⊢; exact DR_pln x v (by simpa [plnV] using h) r
  | .ptr o i k, v, _, r => by simpa only [VR] using r
  | .ipt cs, v, h, r => by simp [plnV] at h
  | .sl o off len, v, _, r => by simpa only [VR] using r
  | .mp o, v, _, r => by simpa only [VR] using r
  | .fn f caps, v, h, r => by
    simp only [VR] at r ⊢
    obtain ⟨vs, h1, h2⟩ := r
    exact ⟨vs, h1, VRs_pln caps vs (by simpa [plnV] using h) h2⟩
  | .bm f caps, v, h, r => by
    simp only [VR] at r ⊢
    obtain ⟨vs, h1, h2⟩ := r
    exact ⟨vs, h1, VRs_pln caps vs (by simpa [plnV] using h) h2⟩
  | .agg cs, v, h, r => by
    simp only [VR] at r ⊢
    obtain ⟨vs, h1, h2⟩ := r
    exact ⟨vs, h1, VRs_pln cs vs (by simpa [plnV] using h) h2⟩
  | .tup cs, v, h, r => by
    simp only [VR] at r ⊢
    obtain ⟨vs, h1, h2⟩ := r
    exact ⟨vs, h1, VRs_pln cs vs (by simpa [plnV] using h) h2⟩
  | .undef, _, _, _ => by simp [VR]
theorem VRs_pln {I J : Im} {w : World} {l : Nat → Loc} : ∀ (xs : List V) (vs : List Value), plnVs xs = true → VRs I w l xs vs → VRs J w l xs vs
  | [], vs, _, r => by simpa [VRs] using r
  | x :: xs, vs, h, r => by
    simp only [VRs] at r ⊢
    simp only [plnVs, Bool.and_eq_true] at h
    obtain ⟨v, t, h1, h2, h3⟩ := r
    exact ⟨v, t, h1, VR_pln x v h.1 h2, VRs_pln xs t h.2 h3⟩
end

theorem OR_pln {c c' : Cx} (hw : c'.w = c.w) (hl : c'.loc = c.loc) {l : Loc} {x : Ob} (hf : plnO x = true) (r : OR c l x) : OR c' l x := by
  have hv : ∀ (xs : List V) (vs : List Value), plnVs xs = true → c.vrs xs vs → c'.vrs xs vs := fun xs vs h q => by
    have := VRs_pln (J := c'.im) xs vs h q
    show VRs c'.im c'.w c'.loc xs vs
    rw [hw, hl]; exact this
  cases x with
  | dead => exact r
  | box cs =>
    obtain ⟨b, bs, h0, arr, e, f, h1, h2, us, rest, hu, h3⟩ := r
    exact ⟨b, bs, h0, arr, e, f, by rw [hw]; exact h1, h2, us, rest, hu, hv _ _ (by simpa [plnO] using hf) h3⟩
  | vec sz cs =>
    obtain ⟨b, bs, h0, h0', arr, e, f, h1, h2, us, hle, hat, h3⟩ := r
    exact ⟨b, bs, h0, h0', arr, e, f, by rw [hw]; exact h1, h2, us, hle, hat, hv _ _ (by simpa [plnO] using hf) h3⟩
  | arr sz mk es =>
    rcases r with r | ⟨b, base, h0, h1, arr, e, f, h2, h3, h4, h5⟩
    · exact .inl r
    · exact .inr ⟨b, base, h0, h1, arr, e, f, by rw [hw]; exact h2, h3, h4, RowsR_pln es b base sz (by simpa [plnO] using hf) (fun o => by simp [Cx.im, hw]) h5⟩
  | map es clk => simp [plnO] at hf
  | mit m since seen last => simp [plnO] at hf
  | sit s pos =>
    obtain ⟨b, h0, h1⟩ := r
    exact ⟨b, h0, by rw [hw]; exact h1⟩

/-- Memory that no call put away, owned or not. -/
def openI (c : Cx) : Im := { cell := fun b o => c.w.cell? ⟨b, o, none⟩, ok := fun b => b < c.w.heap.size ∧ ¬ c.hid.blk b }
theorem openI_le (c : Cx) : c.im.Le (openI c) := fun b hb => ⟨⟨hb.1, hb.2.2⟩, fun _ => rfl⟩

/-- The value is read as the datum, wherever it lies. -/
def ReadV (τ : List Ob) (x : V) (d : D) : Prop := ∀ (c : Cx) (v : Value), SR c τ → c.vr x v → DR (openI c) d v
def ReadVs (τ : List Ob) (xs : List V) (ds : List D) : Prop := ∀ (c : Cx) (vs : List Value), SR c τ → c.vrs xs vs → DRs (openI c) ds vs

theorem ReadV.d (τ : List Ob) (d : D) : ReadV τ (.d d) d := fun c v hs h => by
  simp only [Cx.vr, VR] at h
  exact DR_mono (openI_le c) d v h
theorem ReadVs.nil (τ : List Ob) : ReadVs τ [] [] := fun c vs _ h => by simpa [Cx.vrs, VRs, DRs] using h
theorem ReadVs.cons {τ : List Ob} {x : V} {d : D} {xs : List V} {ds : List D} (h : ReadV τ x d) (g : ReadVs τ xs ds) : ReadVs τ (x :: xs) (d :: ds) := fun c vs hs q => by
  simp only [Cx.vrs, VRs] at q
  obtain ⟨v, r, rfl, q1, q2⟩ := q
  simp only [DRs]
  exact ⟨v, r, rfl, h c v hs q1, g c r hs q2⟩
theorem ReadVs.of_get {τ : List Ob} : ∀ {xs : List V} {ds : List D}, xs.length = ds.length → (∀ (i : Nat) (x : V) (d : D), xs[i]? = some x → ds[i]? = some d → ReadV τ x d) → ReadVs τ xs ds
  | [], [], _, _ => .nil τ
  | x :: xs, d :: ds, hl, h => .cons (h 0 x d rfl rfl) (.of_get (by simpa using hl) fun i x d q1 q2 => h (i + 1) x d (by simpa using q1) (by simpa using q2))
  | [], _ :: _, hl, _ => by simp at hl
  | _ :: _, [], hl, _ => by simp at hl
theorem ReadVs.append {τ : List Ob} {xs ys : List V} {ds es : List D} (h : ReadVs τ xs ds) (g : ReadVs τ ys es) : ReadVs τ (xs ++ ys) (ds ++ es) := fun c vs hs q => by
  have hl := VRs_length q
  obtain ⟨q1, q2⟩ : c.vrs xs (vs.take xs.length) ∧ c.vrs ys (vs.drop xs.length) := by
    constructor
    · have := VRs_take q xs.length
      rwa [List.take_left] at this
    · have := VRs_drop q xs.length
      rwa [List.drop_left] at this
  have := DRs_append (h c _ hs q1) (g c _ hs q2)
  rwa [List.take_append_drop] at this
theorem ReadV.agg {τ : List Ob} {xs : List V} {ds : List D} (h : ReadVs τ xs ds) : ReadV τ (.agg xs) (.agg ds) := fun c v hs q => by
  simp only [Cx.vr, VR] at q
  obtain ⟨vs, rfl, q⟩ := q
  simp only [DR]
  exact ⟨vs, rfl, h c vs hs q⟩
theorem ReadV.arr {τ : List Ob} {o sz len : Nat} {mk : Bool} {es : List D} (ho : τ[o]? = some (.arr sz mk es)) (hl : len = es.length) : ReadV τ (.sl o 0 len) (.lst sz es) := fun c v hs q => by
  subst hl
  rcases vr_sl hs ho q with ⟨_, rfl, _, h2, h3⟩ | ⟨b, base, a, cap, arr, e, f, hl, rfl, g1, g2, g3, g4, g5, g6, g7, g8⟩
  · subst h3
    simp only [DR]
    exact ⟨none, 0, rfl, Nat.le_refl _, .inl trivial⟩
  · simp only [DR]
    refine ⟨_, cap, rfl, g1, ?_⟩
    rcases Nat.eq_zero_or_pos es.length with q0 | q0
    · exact .inl (List.eq_nil_of_length_eq_zero q0)
    · right
      have ha := g2 (by omega)
      simp only [Nat.zero_mul, Nat.add_zero] at ha
      subst ha
      exact ⟨b, _, rfl, g3, ⟨(Array.getElem?_eq_some_iff.1 g4).1, fun q => (hs.hid b q).2 ⟨o, _, sz, hl⟩⟩, RowsR_mono (openI_le c) es b _ sz (fun _ => rfl) g8⟩

/-- Rows of a row of cells. -/
def Rows50 (τ : List Ob) (sz : Nat) : List V → List D → Prop
  | cs, [] => cs = []
  | cs, d :: ds => ∃ x r es, cs = x ++ r ∧ d = .agg es ∧ x.length = sz ∧ ReadVs τ x es ∧ Rows50 τ sz r ds

theorem Rows50.len {τ : List Ob} {sz : Nat} : ∀ {ds : List D} {cs : List V}, Rows50 τ sz cs ds → cs.length = ds.length * sz
  | [], cs, h => by simp only [Rows50] at h; subst h; simp
  | d :: ds, cs, h => by
    simp only [Rows50] at h
    obtain ⟨x, r, es, rfl, rfl, hx, _, h⟩ := h
    rw [List.length_append, hx, h.len, List.length_cons, Nat.add_mul]; omega

theorem Rows50.rows {τ : List Ob} {sz : Nat} {c : Cx} (hs : SR c τ) {b : Nat} {arr : Array Value} {e : TypeId} {f : Nat × Nat} (hb : c.w.heap[b]? = some (.cells arr e f)) : ∀ {ds : List D} {cs : List V} {us : List Value} {base : Nat}, Rows50 τ sz cs ds → c.vrs cs us → (∀ u ∈ us, u.oneCell' = true) →
    (∀ j, j < us.length → arr[base + j]? = us[j]?) → RowsR (openI c) ds b base sz
  | [], _, _, _, _, _, _, _ => by simp [RowsR]
  | d :: ds, cs, us, base, h, hv, h1, hat => by
    simp only [Rows50] at h
    obtain ⟨x, r, es, rfl, rfl, hx, hr, h⟩ := h
    have q1 : c.vrs x (us.take x.length) := by have := VRs_take hv x.length; rwa [List.take_left] at this
    have q2 : c.vrs r (us.drop x.length) := by have := VRs_drop hv x.length; rwa [List.drop_left] at this
    have hl := VRs_length hv
    rw [List.length_append] at hl
    have hd := hr c _ hs q1
    simp only [RowsR]
    refine ⟨⟨.agg (us.take x.length).toArray, by simp only [DR]; exact ⟨_, rfl, hd⟩, ⟨by simp [Value.cells]; omega, fun u hu => h1 u (by simp [Value.cells] at hu; exact List.mem_of_mem_take hu)⟩, fun j hj => ?_⟩, ?_⟩
    · show c.w.cell? ⟨b, base + j, none⟩ = _
      rw [cell?_cells hb, hat j (by omega)]
      simp [Value.cells, List.getElem?_take, hx, hj]
    · refine Rows50.rows hs hb h q2 (fun u hu => h1 u (List.mem_of_mem_drop hu)) fun j hj => ?_
      rw [List.length_drop] at hj
      rw [List.getElem?_drop, ← hat _ (by omega)]
      congr 1; omega

theorem ReadV.vec {τ : List Ob} {o sz len : Nat} {cs : List V} {ds : List D} (ho : τ[o]? = some (.vec sz cs)) (hr : Rows50 τ sz cs ds) (h1 : cs.all (one τ) = true) (hl : len = ds.length) : ReadV τ (.sl o 0 len) (.lst sz ds) := fun c v hs q => by
  subst hl
  obtain ⟨b, base, hl, h0, arr, e, f, hb, h2, us, hle, hat, h3⟩ := hs.get ho
  simp only [Cx.vr, VR, hl] at q
  obtain ⟨a, cap, rfl, g1, g2, _⟩ := q
  simp only [DR]
  refine ⟨_, cap, rfl, g1, ?_⟩
  rcases Nat.eq_zero_or_pos ds.length with q0 | q0
  · exact .inl (List.eq_nil_of_length_eq_zero q0)
  · right
    have ha := g2 (by omega)
    simp only [Nat.zero_mul, Nat.add_zero] at ha
    subst ha
    exact ⟨b, _, rfl, h0, ⟨(Array.getElem?_eq_some_iff.1 hb).1, fun q => (hs.hid b q).2 ⟨o, _, sz, hl⟩⟩, hr.rows hs hb h3 (vrs_one hs h3 h1) hat⟩

/-- THE THAW. -/
theorem callA_thaw {P : Program} {f : FuncId} {ds : List D} {K : V → List Ob → Prop} (h : callA P f (ds.map .d) [] K) (hK : ∀ r σ', K r σ' → plnV r = true ∧ ∀ x ∈ σ', plnO x = true) {τ : List Ob} {args : List V} (hr : ReadVs τ args ds) :
    callA P f args τ fun r τ' => ∃ r0 σ0, K r0 σ0 ∧ r = embV [] τ.length r0 ∧ τ' = storeBack τ [] σ0 := by
  refine ⟨h.1, fun c vals hs hv => ?_⟩
  have hun : ∀ o, (frameC c [] τ.length).loc o = .unborn := fun o => by
    show c.loc (emb [] τ.length o) = _
    exact hs.unborn (by simp [emb])
  have hown : ∀ b, ¬ (frameC c [] τ.length).own b := by
    rintro b ⟨o, base, sz, q⟩
    rw [hun o] at q; cases q
  let c0 : Cx := ⟨c.w, (frameC c [] τ.length).loc, ⟨c.hid.blk, []⟩⟩
  have hown0 : ∀ b, ¬ c0.own b := hown
  have hS0 : SR c0 [] := by
    refine ⟨fun o => ?_, fun {o o' b base sz base' sz'} q => ?_, fun b hb => ⟨(hs.hid b hb).1, hown0 b⟩, ?_⟩
    · show ORo c0 ((frameC c [] τ.length).loc o) ([] : List Ob)[o]?
      rw [hun o]; simp [ORo]
    · change (frameC c [] τ.length).loc o = _ at q
      rw [hun o] at q; cases q
    · exact Glob.le (c := c) (c' := c0) (fun b hb => ⟨⟨hb.1, hown0 b, hb.2.2⟩, fun _ => rfl⟩) hs.gl
  have hhid : ∀ b, (frameC c [] τ.length).hid.blk b → b < c.w.heap.size := by
    rintro b (q | ⟨o, base, sz, _, q⟩)
    · exact (hs.hid b q).1
    · exact hs.lt q
  have him : c.im.Le (frameC c [] τ.length).im := fun b hb => ⟨⟨hb.1, hown b, fun q => by
    rcases q with q | ⟨o, base, sz, _, q⟩
    · exact hb.2.2 q
    · exact hb.2.1 ⟨o, base, sz, q⟩⟩, fun _ => rfl⟩
  have hgf : Glob (frameC c [] τ.length) := Glob.le (c := c) (c' := frameC c [] τ.length) him hs.gl
  have hSf : SR (frameC c [] τ.length) [] := by
    refine ⟨fun o => ?_, fun {o o' b base sz base' sz'} q => ?_, fun b hb => ⟨hhid b hb, hown b⟩, hgf⟩
    · rw [hun o]; simp [ORo]
    · rw [hun o] at q; cases q
  have hv0 : c0.vrs (ds.map .d) vals := VRs_map_d.2 (DRs_mono (J := c0.im) (I := openI c) (fun b hb => ⟨⟨hb.1, hown0 b, hb.2⟩, fun _ => rfl⟩) ds vals (hr c vals hs hv))
  refine (h.2 c0 vals hS0 hv0).mono fun e w' hp => frame_post hs (ρ := []) List.nodup_nil rfl (fun i hi => by simp at hi) hSf ?_
  cases e with
  | outgrown => exact hp
  | panicked _ => exact hp
  | returned v =>
    obtain ⟨loc', σ', r, k1, k2, k3, k4⟩ := hp
    obtain ⟨f1, f2⟩ := hK r σ' k4
    have hE : Ext (frameC c [] τ.length) ⟨w', loc', (frameC c [] τ.length).hid⟩ := ⟨rfl, k2.size, k2.cells, fun b hb _ => k2.frame b hb (hown0 b), fun o => k2.loc o, k2.io⟩
    refine ⟨loc', σ', r, ⟨fun o => ?_, fun q q' => k1.inj q q', fun b hb => ⟨?_, ?_⟩, hE.glob hgf⟩, hE, VR_pln r v f1 k3, k4⟩
    · have q := k1.obj o
      show ORo _ (loc' o) _
      cases hx : σ'[o]? with
      | none => rw [hx] at q; exact q
      | some x =>
        rw [hx] at q
        exact OR_pln (c := ⟨w', loc', c0.hid⟩) (c' := ⟨w', loc', (frameC c [] τ.length).hid⟩) rfl rfl (f2 x (List.mem_of_getElem? hx)) q
    · exact Nat.lt_of_lt_of_le (hhid b hb) k2.size
    · exact (k2.frame b (hhid b hb) (hown0 b)).2

/-! ### a row of data turned into a row of cells -/
def rowsV (es : List D) : List V := es.flatMap fun e => e.cells.map .d

theorem Weak.vec {n : Nat} {s : List V} {σ : List Ob} {o sz : Nat} {mk : Bool} {es : List D} (hx : σ[o]? = some (.arr sz mk es)) (hn : es ≠ []) (hc : ∀ e ∈ es, e.csz = some sz) : Weak n s σ s (σ.set o (.vec sz (rowsV es))) := fun c vs h1 h2 => by
  rcases h1.get hx with ⟨_, q⟩ | ⟨b, base, hl, h0, arr, e, f, hb, hu, hle, hr⟩
  · exact absurd q hn
  have key : ∀ (es : List D) (base : Nat), (∀ e ∈ es, e.csz = some sz) → base + es.length * sz ≤ arr.size → RowsR c.im es b base sz → ∃ us : List Value, us.length = es.length * sz ∧ (∀ j, j < us.length → arr[base + j]? = us[j]?) ∧ c.vrs (rowsV es) us := by
    intro es
    induction es with
    | nil => intro base _ _ _; exact ⟨[], by simp, fun j hj => by simp at hj, by simp [rowsV, Cx.vrs, VRs]⟩
    | cons e es ih =>
      intro base hc hle hr
      simp only [RowsR] at hr
      obtain ⟨⟨v, d1, d2, d3⟩, hr⟩ := hr
      rw [List.length_cons, Nat.add_mul] at hle
      obtain ⟨us, g1, g2, g3⟩ := ih (base + sz) (fun e he => hc e (by simp [he])) (by omega) hr
      obtain ⟨q1, q2, q3⟩ := DR_csz d1 (hc e (by simp))
      have hvl : v.cells.toList.length = sz := by simpa using q1
      refine ⟨v.cells.toList ++ us, by rw [List.length_append, g1, hvl, List.length_cons, Nat.add_mul]; omega, fun j hj => ?_, ?_⟩
      · rw [List.length_append, g1, hvl] at hj
        by_cases hj' : j < sz
        · have := d3 j hj'
          change c.w.cell? ⟨b, base + j, none⟩ = _ at this
          rw [cell?_cells hb] at this
          rw [this, List.getElem?_append_left (by omega), Array.getElem?_toList]
        · rw [List.getElem?_append_right (by omega), hvl, ← g2 _ (by omega)]
          congr 1; omega
      · simp only [rowsV, List.flatMap_cons]
        exact vrs_append (VRs_map_d.2 q3) g3
  obtain ⟨us, g1, g2, g3⟩ := key es base hc hle hr
  have hS := SR.write h1 hl c.w rfl (fun _ _ => rfl) (fun cs e f h => ⟨cs, f, h, rfl⟩) (.vec sz (rowsV es)) ⟨b, base, rfl, h0, arr, e, f, hb, ⟨hu.1, fun j hj => hu.2 j (by split <;> omega)⟩, us, by omega, g2, g3⟩ ⟨rfl, rfl, rfl⟩
  exact ⟨c.loc, hS, h2, (Ext.refl c).toN n⟩

theorem Fin.vec {n : Nat} {r : V} {σ : List Ob} {o sz : Nat} {mk : Bool} {es : List D} (hx : σ[o]? = some (.arr sz mk es)) (hn : es ≠ []) (hc : ∀ e ∈ es, e.csz = some sz) : Fin n r σ r (σ.set o (.vec sz (rowsV es))) := Weak.vec hx hn hc
end Go.Proofs.Ytadddaafajennaa.Am
