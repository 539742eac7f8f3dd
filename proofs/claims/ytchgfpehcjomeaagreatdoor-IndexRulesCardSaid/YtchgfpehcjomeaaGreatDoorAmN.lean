/- The engine's functions and loops. -/
import Derived.Test.YtchgfpehcjomeaaGreatDoorAmM
set_option linter.unusedSimpArgs false
set_option linter.unusedVariables false
namespace Go.Proofs.YtchgfpehcjomeaaGreatDoor.Am
open Go

/-! ### to say less of a state -/

/-- Whatever fits the first state fits the second one, under other names of the objects from n on. -/
def Weak (n : Nat) (s : List V) (σ : List Ob) (s' : List V) (σ' : List Ob) : Prop :=
  ∀ (c : Cx) (vs : List Value), SR c σ → c.vrs s vs → ∃ loc', SR ⟨c.w, loc', c.hid⟩ σ' ∧ Cx.vrs ⟨c.w, loc', c.hid⟩ s' vs ∧ ExtN n c ⟨c.w, loc', c.hid⟩

theorem Weak.refl (n : Nat) (s : List V) (σ : List Ob) : Weak n s σ s σ := fun c vs h1 h2 => ⟨c.loc, h1, h2, ExtN.refl n c⟩

theorem Weak.trans {n : Nat} {s s' s'' : List V} {σ σ' σ'' : List Ob} (h : Weak n s σ s' σ') (g : Weak n s' σ' s'' σ'') : Weak n s σ s'' σ'' := fun c vs h1 h2 => by
  obtain ⟨l', a1, a2, a3⟩ := h c vs h1 h2
  obtain ⟨l'', b1, b2, b3⟩ := g ⟨c.w, l', c.hid⟩ vs a1 a2
  exact ⟨l'', b1, b2, a3.trans b3⟩

theorem WP_weak {P : Program} {n : Nat} {code : Code} {s s' : List V} {σ σ' : List Ob} {K : Ex → List V → List Ob → Prop} (h : Weak n s σ s' σ') (g : WP P n code s' σ' K) : WP P n code s σ K := by
  intro c a hr
  obtain ⟨l', a1, a2, a3⟩ := h c a.tmps.toList hr.sr hr.sl
  exact wp_mono (g ⟨c.w, l', c.hid⟩ a ⟨a1, a2, hr.df⟩) fun e a' w' hp => Post.back a3 rfl hp

/-- One value says less than another. -/
def VLe (x y : V) : Prop := ∀ (I : Im) (w : World) (l : Nat → Loc) (v : Value), VR I w l x v → VR I w l y v

def VLes : List V → List V → Prop
  | [], ys => ys = []
  | x :: xs, ys => ∃ y r, ys = y :: r ∧ VLe x y ∧ VLes xs r

theorem VLe.refl (x : V) : VLe x x := fun _ _ _ _ h => h
theorem VLe.undef (x : V) : VLe x .undef := fun _ _ _ _ _ => by simp [VR]
theorem VLe.agg (ds : List D) : VLe (.agg (ds.map .d)) (.d (.agg ds)) := fun I w l v h => by
  simp only [VR, DR] at h ⊢
  obtain ⟨vs, h1, h2⟩ := h
  exact ⟨vs, h1, VRs_map_d.1 h2⟩
theorem VLe.agg' (ds : List D) : VLe (.d (.agg ds)) (.agg (ds.map .d)) := fun I w l v h => by
  simp only [VR, DR] at h ⊢
  obtain ⟨vs, h1, h2⟩ := h
  exact ⟨vs, h1, VRs_map_d.2 h2⟩
theorem VLe.nils (sz : Nat) : VLe (.d .nils) (.d (.lst sz [])) := fun I w l v h => by
  simp only [VR, DR] at h ⊢
  exact ⟨none, 0, by simpa using h, by simp, .inl (by trivial)⟩

theorem VLes.vrs {I : Im} {w : World} {l : Nat → Loc} : ∀ {xs ys : List V} {vs : List Value}, VLes xs ys → VRs I w l xs vs → VRs I w l ys vs
  | [], ys, vs, h, r => by simp only [VLes] at h; subst h; exact r
  | x :: xs, ys, vs, h, r => by
    simp only [VLes] at h
    obtain ⟨y, t, rfl, h1, h2⟩ := h
    simp only [VRs] at r ⊢
    obtain ⟨v, q, rfl, r1, r2⟩ := r
    exact ⟨v, q, rfl, h1 _ _ _ _ r1, VLes.vrs h2 r2⟩

theorem VLes.refl : ∀ xs : List V, VLes xs xs
  | [] => by simp [VLes]
  | x :: xs => by simp only [VLes]; exact ⟨x, xs, rfl, VLe.refl x, VLes.refl xs⟩

theorem Weak.slots {n : Nat} {s s' : List V} {σ : List Ob} (h : VLes s s') : Weak n s σ s' σ := fun c vs h1 h2 => ⟨c.loc, h1, h.vrs h2, ExtN.refl n c⟩

/-- The objects that are kept, in their new order. -/
def keepG (keep : List Nat) : Nat → Option Nat := fun o => keep.idxOf? o
def keepσ (keep : List Nat) (σ : List Ob) : List Ob := keep.map fun o => renO (keepG keep) (σ.getD o .dead)

theorem keepG_some {keep : List Nat} {o j : Nat} (h : keepG keep o = some j) : keep[j]? = some o := by
  unfold keepG at h
  rw [List.idxOf?_eq_some_iff] at h
  obtain ⟨hj, h1, _⟩ := h
  rw [List.getElem?_eq_getElem hj]
  congr 1

theorem keep_sr {n : Nat} {keep : List Nat} {σ : List Ob} (hn : keep.Nodup) (hlt : ∀ o ∈ keep, o < σ.length) (hfix : ∀ i, i < n → keep[i]? = some i) {c : Cx} (h : SR c σ) :
    let loc' : Nat → Loc := fun j => match keep[j]? with | some o => c.loc o | none => .unborn
    SR ⟨c.w, loc', c.hid⟩ (keepσ keep σ) ∧ ExtN n c ⟨c.w, loc', c.hid⟩ ∧ c.im.Le (Cx.im ⟨c.w, loc', c.hid⟩) ∧ ∀ o j, keepG keep o = some j → loc' j = c.loc o := by
  intro loc'
  have hsome : ∀ {j b base sz}, loc' j = .here b base sz → ∃ o, keep[j]? = some o ∧ c.loc o = .here b base sz := by
    intro j b base sz e
    simp only [loc'] at e
    cases hk : keep[j]? with
    | none => rw [hk] at e; cases e
    | some o => rw [hk] at e; exact ⟨o, rfl, e⟩
  have hown : ∀ b, Cx.own ⟨c.w, loc', c.hid⟩ b → c.own b := by
    rintro b ⟨j, base, sz, e⟩
    obtain ⟨o, _, e'⟩ := hsome e
    exact ⟨o, base, sz, e'⟩
  have him : c.im.Le (Cx.im ⟨c.w, loc', c.hid⟩) := fun b hb => ⟨⟨hb.1, fun q => hb.2.1 (hown b q), hb.2.2⟩, fun o => rfl⟩
  have hg : ∀ o j, keepG keep o = some j → loc' j = c.loc o := by
    intro o j e
    simp only [loc', keepG_some e]
  refine ⟨⟨fun j => ?_, ?_, fun b hb => ⟨(h.hid b hb).1, fun q => (h.hid b hb).2 (hown b q)⟩, h.gl.le him⟩, ?_, him, hg⟩
  · show ORo _ (loc' j) (keepσ keep σ)[j]?
    simp only [keepσ, List.getElem?_map, loc']
    cases hk : keep[j]? with
    | none => rfl
    | some o =>
      simp only [Option.map_some]
      have ho := hlt o (List.mem_of_getElem? hk)
      have : σ[o]? = some (σ.getD o .dead) := by rw [List.getD_eq_getElem?_getD, List.getElem?_eq_getElem ho]; rfl
      exact OR_ren (c := c) (c' := ⟨c.w, loc', c.hid⟩) rfl him hg (h.get this)
  · intro j j' b base sz base' sz' e e'
    obtain ⟨o, h1, h2⟩ := hsome e
    obtain ⟨o', h1', h2'⟩ := hsome e'
    have := h.inj h2 h2'
    subst this
    obtain ⟨k1, k2⟩ := List.getElem?_eq_some_iff.1 h1
    obtain ⟨k1', k2'⟩ := List.getElem?_eq_some_iff.1 h1'
    exact (List.getElem_inj hn).1 (k2.trans k2'.symm)
  · refine ⟨rfl, Nat.le_refl _, fun _ cs _ f hb => ⟨cs, f, hb, rfl⟩, fun b hb ho => ⟨rfl, fun q => ho (hown b q)⟩, fun o ho => ?_, rfl, rfl, rfl⟩
    left
    show loc' o = c.loc o
    simp only [loc', hfix o ho]

theorem Weak.keep {n : Nat} {s : List V} {σ : List Ob} (keep : List Nat) (hn : keep.Nodup) (hlt : ∀ o ∈ keep, o < σ.length) (hfix : ∀ i, i < n → keep[i]? = some i) : Weak n s σ (renVs (keepG keep) s) (keepσ keep σ) := fun c vs h1 h2 => by
  obtain ⟨k1, k2, k3, k4⟩ := keep_sr hn hlt hfix h1
  refine ⟨_, k1, ?_, k2⟩
  have : VRs (Cx.im ⟨c.w, _, c.hid⟩) c.w c.loc s vs := VRs_mono k3 (fun o => .inl rfl) (fun b cs e f h => ⟨cs, f, h, rfl⟩) s vs h2
  exact VRs_ren k4 s vs this

/-- A nil slice becomes an object of its own. -/
theorem Weak.nil {n : Nat} {s : List V} {σ : List Ob} (i sz : Nat) (hi : s[i]? = some (.d .nils)) (hn : n ≤ σ.length) : Weak n s σ (s.set i (.sl σ.length 0 0)) (σ ++ [.arr sz false []]) := fun c vs h1 h2 => by
  obtain ⟨k1, k2, k3⟩ := new_nil h1 sz false
  refine ⟨_, k1, ?_, k2.toN n⟩
  obtain ⟨v, q1, q2⟩ := VRs_get h2 i hi
  simp only [VR, DR] at q2; subst q2
  have := vrs_set (k2.vrs h2) i k3
  have e : vs.set i (.slice none 0 0) = vs := by
    apply List.ext_getElem?
    intro j
    rw [List.getElem?_set]
    split
    · rename_i e; subst e
      rw [q1]
      have := (List.getElem?_eq_some_iff.1 q1).1
      simp [this]
    · rfl
  rw [e] at this
  exact this

/-! ### freezing: an owned slice becomes data -/
mutual
def frzV (o sz : Nat) (es : List D) : V → V
  | .ptr o' i k => if o' = o then .undef else .ptr o' i k
  | .sl o' off len => if o' = o then (if off + len ≤ es.length then .d (.lst sz ((es.drop off).take len)) else .undef) else .sl o' off len
  | .mp o' => if o' = o then .undef else .mp o'
  | .fn f caps => .fn f (frzVs o sz es caps)
  | .bm f caps => .bm f (frzVs o sz es caps)
  | .agg cs => .agg (frzVs o sz es cs)
  | .tup cs => .tup (frzVs o sz es cs)
  | x => x
def frzVs (o sz : Nat) (es : List D) : List V → List V
  | [] => []
  | x :: r => frzV o sz es x :: frzVs o sz es r
end

def frzO (o sz : Nat) (es : List D) : Ob → Ob
  | .box cs => .box (frzVs o sz es cs)
  | .vec s' cs => .vec s' (frzVs o sz es cs)
  | .map m clk => .map (m.map fun e => (e.1, frzV o sz es e.2.1, e.2.2)) clk
  | .mit m since seen last => .mit (frzV o sz es m) since seen last
  | x => x

def frzσ (o sz : Nat) (es : List D) (σ : List Ob) : List Ob := (σ.set o .dead).map (frzO o sz es)

@[simp] theorem frzVs_length (o sz : Nat) (es : List D) : ∀ xs : List V, (frzVs o sz es xs).length = xs.length
  | [] => rfl
  | x :: r => by simp [frzVs, frzVs_length o sz es r]

section
variable {c : Cx} {σ : List Ob} {o sz : Nat} {mk : Bool} {es : List D}

theorem frz_sl (h : SR c σ) (hx : σ[o]? = some (.arr sz mk es)) {off len : Nat} (hl : off + len ≤ es.length) {v : Value} (r : c.vr (.sl o off len) v) :
    DR (Cx.im ⟨c.w, upd c.loc o .dead, c.hid⟩) (.lst sz ((es.drop off).take len)) v := by
  have hE := Ext.kill c o
  have hlen : ((es.drop off).take len).length = len := by rw [List.length_take, List.length_drop]; omega
  simp only [DR, hlen]
  rcases vr_sl h hx r with ⟨hl', rfl, rfl, rfl, rfl⟩ | ⟨b, base, a, cap, arr, ty, f, hl', rfl, g1, g2, g3, g4, g5, g6, g7, g8⟩
  · exact ⟨none, 0, rfl, by simp, .inl (by simp)⟩
  · refine ⟨_, cap, rfl, g1, ?_⟩
    by_cases hz : len = 0
    · exact .inl (by simp [hz])
    · refine .inr ⟨b, a, rfl, g3, ⟨(Array.getElem?_eq_some_iff.1 g4).1, ?_, fun q => (h.hid b q).2 ⟨o, base, sz, hl'⟩⟩, ?_⟩
      · rintro ⟨o', ba, s, e⟩
        dsimp only at e
        by_cases g : o' = o
        · subst g; simp at e
        · rw [upd_other _ _ g] at e
          exact g (h.inj e hl')
      · rw [g2 (by omega)]
        exact RowsR_mono hE.im _ b _ sz (fun _ => rfl) (RowsR_take (RowsR_drop g8 off) len)

mutual
theorem frzV_sound (h : SR c σ) (hx : σ[o]? = some (.arr sz mk es)) : ∀ (x : V) (v : Value), c.vr x v → Cx.vr ⟨c.w, upd c.loc o .dead, c.hid⟩ (frzV o sz es x) v
  | .d x, v, r => by simp only [frzV]; exact (Ext.kill c o).vr r
  | .ptr o' i k, v, r => by
    simp only [frzV]
    split
    · simp [Cx.vr, VR]
    · exact (Ext.kill c o).vr r
  | .ipt cs, v, r => by simp only [frzV]; exact (Ext.kill c o).vr r
  | .sl o' off len, v, r => by
    simp only [frzV]
    split
    · rename_i e; subst e
      split
      · rename_i hl
        simp only [Cx.vr, VR]
        exact frz_sl h hx hl r
      · simp [Cx.vr, VR]
    · exact (Ext.kill c o).vr r
  | .mp o', v, r => by
    simp only [frzV]
    split
    · simp [Cx.vr, VR]
    · exact (Ext.kill c o).vr r
  | .fn f caps, v, r => by
    simp only [Cx.vr, frzV, VR] at r ⊢
    obtain ⟨vs, h1, h2⟩ := r
    exact ⟨vs, h1, frzVs_sound h hx caps vs h2⟩
  | .bm f caps, v, r => by
    simp only [Cx.vr, frzV, VR] at r ⊢
    obtain ⟨vs, h1, h2⟩ := r
    exact ⟨vs, h1, frzVs_sound h hx caps vs h2⟩
  | .agg cs, v, r => by
    simp only [Cx.vr, frzV, VR] at r ⊢
    obtain ⟨vs, h1, h2⟩ := r
    exact ⟨vs, h1, frzVs_sound h hx cs vs h2⟩
  | .tup cs, v, r => by
    simp only [Cx.vr, frzV, VR] at r ⊢
    obtain ⟨vs, h1, h2⟩ := r
    exact ⟨vs, h1, frzVs_sound h hx cs vs h2⟩
  | .undef, _, _ => by simp [Cx.vr, frzV, VR]
theorem frzVs_sound (h : SR c σ) (hx : σ[o]? = some (.arr sz mk es)) : ∀ (xs : List V) (vs : List Value), c.vrs xs vs → Cx.vrs ⟨c.w, upd c.loc o .dead, c.hid⟩ (frzVs o sz es xs) vs
  | [], vs, r => by simpa [Cx.vrs, frzVs, VRs] using r
  | x :: xs, vs, r => by
    simp only [Cx.vrs, frzVs, VRs] at r ⊢
    obtain ⟨v, t, h1, h2, h3⟩ := r
    exact ⟨v, t, h1, frzV_sound h hx x v h2, frzVs_sound h hx xs t h3⟩
end

theorem frzσ_sound (h : SR c σ) (hx : σ[o]? = some (.arr sz mk es)) : SR ⟨c.w, upd c.loc o .dead, c.hid⟩ (frzσ o sz es σ) := by
  have hlt := (List.getElem?_eq_some_iff.1 hx).1
  have hS := SR.kill h hlt
  refine ⟨fun o' => ?_, hS.inj, hS.hid, hS.gl⟩
  have r := hS.obj o'
  simp only [frzσ, List.getElem?_map]
  cases hx' : (σ.set o .dead)[o']? with
  | none => rw [hx'] at r; exact r
  | some y =>
    rw [hx'] at r
    simp only [Option.map_some]
    cases y with
    | box cs =>
      by_cases g : o' = o
      · subst g; rw [List.getElem?_set_self hlt] at hx'; cases hx'
      · rw [List.getElem?_set_ne (fun e => g e.symm)] at hx'
        obtain ⟨b, bs, h0, arr, e, f, h1, h2, us, rest, hu, h3⟩ := h.get hx'
        refine ⟨b, bs, ?_, arr, e, f, h1, h2, us, rest, hu, frzVs_sound h hx cs _ h3⟩
        show upd c.loc o .dead o' = _
        rw [upd_other _ _ g, h0]
    | vec s' cs =>
      by_cases g : o' = o
      · subst g; rw [List.getElem?_set_self hlt] at hx'; cases hx'
      · rw [List.getElem?_set_ne (fun e => g e.symm)] at hx'
        obtain ⟨b, bs, h0, h0', arr, e, f, h1, h2, us, hle, hat, h3⟩ := h.get hx'
        refine ⟨b, bs, ?_, h0', arr, e, f, h1, h2, us, hle, hat, frzVs_sound h hx cs _ h3⟩
        show upd c.loc o .dead o' = _
        rw [upd_other _ _ g, h0]
    | map m clk =>
      by_cases g : o' = o
      · subst g; rw [List.getElem?_set_self hlt] at hx'; cases hx'
      · rw [List.getElem?_set_ne (fun e => g e.symm)] at hx'
        obtain ⟨b, h0, ents, h1, h2, h3, h4⟩ := h.get hx'
        refine ⟨b, ?_, ents, h1, ?_, by simpa [List.map_map, Function.comp_def] using h3, fun e he => ?_⟩
        · show upd c.loc o .dead o' = _
          rw [upd_other _ _ g, h0]
        · exact MapR.ren (Ext.kill c o).im (fun x v q => frzV_sound h hx x v q) h2
        · obtain ⟨e', he', rfl⟩ := List.mem_map.1 he
          exact h4 e' he'
    | mit m since seen last =>
      by_cases g : o' = o
      · subst g; rw [List.getElem?_set_self hlt] at hx'; cases hx'
      · rw [List.getElem?_set_ne (fun e => g e.symm)] at hx'
        obtain ⟨b, h0, q, h1, h2⟩ := h.get hx'
        refine ⟨b, ?_, q, h1, frzV_sound h hx m _ h2⟩
        show upd c.loc o .dead o' = _
        rw [upd_other _ _ g, h0]
    | _ => exact r
end

theorem Weak.freeze {n : Nat} {s : List V} {σ : List Ob} {o sz : Nat} {mk : Bool} {es : List D} (hx : σ[o]? = some (.arr sz mk es)) : Weak n s σ (frzVs o sz es s) (frzσ o sz es σ) :=
  fun c vs h1 h2 => ⟨_, frzσ_sound h1 hx, frzVs_sound h1 hx s vs h2, (Ext.kill c o).toN n⟩

/-! ### functions -/
def resOne (P : Program) (s : List V) (σ : List Ob) : ResultVar → Option V
  | .tmp t => some (s.getD t .undef)
  | .cell a t => loadF P t σ (s.getD a .undef)

def resAll (P : Program) (s : List V) (σ : List Ob) : List ResultVar → Option (List V)
  | [] => some []
  | r :: rs => match resOne P s σ r, resAll P s σ rs with | some x, some xs => some (x :: xs) | _, _ => none

def resF (P : Program) (s : List V) (σ : List Ob) (rs : List ResultVar) : Option V :=
  match resAll P s σ rs with
  | some [x] => some x
  | some xs => some (.tup xs)
  | none => none

theorem resOne_sound {P : Program} {c : Cx} {s : List V} {σ : List Ob} {a : Act} (hr : Rel P c s σ a) {r : ResultVar} {x : V} (e : resOne P s σ r = some x) :
    ∃ v, (match r with | .tmp t => pure (a.tmps.getD t undef) | .cell ad t => do loadVar t (← asAddr (a.tmps.getD ad undef)) : Sem Value).run P c.w = .ok v c.w ∧ c.vr x v := by
  cases r with
  | tmp t =>
    simp only [resOne, Option.some.injEq] at e; subst e
    exact ⟨_, rfl, vr_get hr.sr.gl hr.sl (.tmp t)⟩
  | cell ad t =>
    simp only [resOne] at e
    have hv := vr_get hr.sr.gl hr.sl (.tmp ad)
    obtain ⟨v, h1, h2⟩ := loadF_sound hr.sr e hv
    refine ⟨v, ?_, h2⟩
    show ((do loadVar t (← asAddr (a.eval (.tmp ad)))) : Sem Value).run P c.w = _
    have key : ∀ u : Value, (∃ p, u = .pointer (some p)) → (Instr.loadAt t u).run P c.w = .ok v c.w → (do loadVar t (← asAddr u) : Sem Value).run P c.w = .ok v c.w := by
      rintro u ⟨p, rfl⟩ h
      simpa [Instr.loadAt, Instr.sureAddr, asAddr] using h
    refine key _ ?_ h1
    have e' : loadF P t σ (get s (.tmp ad)) = some x := e
    unfold loadF at e'
    split at e'
    · rename_i o i k hg
      rw [hg] at hv
      have hal : alive σ o = true := by
        unfold alive
        split at e'
        · rename_i q; rw [q]
        · rename_i q; rw [q]
        · rename_i q; rw [q]
        · cases e'
      obtain ⟨b, base, sz, _, hp⟩ := vr_ptr hr.sr hal hv
      exact ⟨_, hp⟩
    · rename_i cs hg
      rw [hg] at hv
      simp only [Cx.vr, VR] at hv
      obtain ⟨b, off, vs, hp, _⟩ := hv
      exact ⟨_, hp⟩
    · cases e'

theorem resAll_sound {P : Program} {c : Cx} {s : List V} {σ : List Ob} {a : Act} (hr : Rel P c s σ a) : ∀ (rs : List ResultVar) {xs : List V}, resAll P s σ rs = some xs → ∀ acc : List Value,
    ∃ vs, (rs.foldlM (fun (bs : Array Value) (r : ResultVar) => Functor.map bs.push (match r with | .tmp t => pure (a.tmps.getD t undef) | .cell ad t => do loadVar t (← asAddr (a.tmps.getD ad undef)) : Sem Value)) acc.toArray).run P c.w = .ok (acc ++ vs).toArray c.w ∧ c.vrs xs vs
  | [], xs, e, acc => by simp [resAll] at e; subst e; exact ⟨[], by simp, by simp [Cx.vrs, VRs]⟩
  | r :: rs, xs, e, acc => by
    simp only [resAll] at e
    split at e
    · rename_i x ys h1 h2
      simp only [Option.some.injEq] at e; subst e
      obtain ⟨v, g1, g2⟩ := resOne_sound hr h1
      obtain ⟨vs, k1, k2⟩ := resAll_sound hr rs h2 (acc ++ [v])
      refine ⟨v :: vs, ?_, by simp only [Cx.vrs, VRs]; exact ⟨v, vs, rfl, g2, k2⟩⟩
      rw [List.foldlM_cons]
      simp only [Sem.run_bind, Sem.run_map, g1, Result.andThen_ok, Sem.run_pure]
      simpa using k1
    · cases e

theorem resF_sound {P : Program} {c : Cx} {s : List V} {σ : List Ob} {a : Act} (hr : Rel P c s σ a) {fn : Func} {x : V} (e : resF P s σ fn.results.toList = some x) : ∃ v, (results fn a.tmps).run P c.w = .ok v c.w ∧ c.vr x v := by
  unfold resF at e
  have run : ∀ xs, resAll P s σ fn.results.toList = some xs → ∃ vs : List Value, (results fn a.tmps).run P c.w = .ok (if h : vs.toArray.size = 1 then vs.toArray[0] else .tuple vs.toArray) c.w ∧ c.vrs xs vs := by
    intro xs hx
    obtain ⟨vs, h1, h2⟩ := resAll_sound hr fn.results.toList hx []
    refine ⟨vs, ?_, h2⟩
    unfold results
    rw [Sem.run_bind, Array.mapM_eq_foldlM, ← Array.foldlM_toList]
    have h1' := h1
    simp only [List.nil_append] at h1'
    erw [h1']
    rfl
  split at e
  · rename_i y hy
    simp only [Option.some.injEq] at e; subst e
    obtain ⟨vs, h1, h2⟩ := run _ hy
    simp only [Cx.vrs, VRs] at h2
    obtain ⟨v, r, rfl, h3, rfl⟩ := h2
    exact ⟨v, by simpa using h1, h3⟩
  · rename_i xs hne hxs
    simp only [Option.some.injEq] at e; subst e
    obtain ⟨vs, h1, h2⟩ := run _ hxs
    have hl := VRs_length h2
    have h1' : vs.length ≠ 1 := by
      intro q
      rw [hl] at q
      match xs, q with
      | [y], _ => exact hne y rfl
    refine ⟨.tuple vs.toArray, ?_, by simp only [Cx.vr, VR]; exact ⟨vs, rfl, h2⟩⟩
    rw [h1]
    simp [h1']
  · cases e

/-- What a function hands back may be said in other words. -/
def Fin (n : Nat) (r : V) (σ : List Ob) (r' : V) (σ' : List Ob) : Prop := Weak n [r] σ [r'] σ'

theorem Fin.refl (n : Nat) (r : V) (σ : List Ob) : Fin n r σ r σ := Weak.refl n [r] σ
theorem Fin.keep {n : Nat} {r : V} {σ : List Ob} (keep : List Nat) (hn : keep.Nodup) (hlt : ∀ o ∈ keep, o < σ.length) (hfix : ∀ i, i < n → keep[i]? = some i) : Fin n r σ (renV (keepG keep) r) (keepσ keep σ) := by
  have := Weak.keep (n := n) (s := [r]) (σ := σ) keep hn hlt hfix
  simpa [renVs, Fin] using this
theorem Fin.trans {n : Nat} {r r' r'' : V} {σ σ' σ'' : List Ob} (h : Fin n r σ r' σ') (g : Fin n r' σ' r'' σ'') : Fin n r σ r'' σ'' := Weak.trans h g
theorem Fin.freeze {n : Nat} {r : V} {σ : List Ob} {o sz : Nat} {mk : Bool} {es : List D} (hx : σ[o]? = some (.arr sz mk es)) : Fin n r σ (frzV o sz es r) (frzσ o sz es σ) := by
  have := Weak.freeze (n := n) (s := [r]) hx
  simpa [frzVs, Fin] using this
theorem Fin.le {n : Nat} {r r' : V} {σ : List Ob} (h : VLe r r') : Fin n r σ r' σ := Weak.slots (by simp only [VLes]; exact ⟨r', [], rfl, h, rfl⟩)

/-- The end of a function. -/
def EndK (P : Program) (n : Nat) (rs : List ResultVar) (K : V → List Ob → Prop) : Ex → List V → List Ob → Prop
  | .exit _, _, _ => False
  | _, s, σ => ∃ r, resF P s σ rs = some r ∧ ∃ r' σ', Fin n r σ r' σ' ∧ K r' σ'

theorem callA_intro {P : Program} {f : FuncId} {fn : Func} {code : Code} (hf : P.funcs[f]? = some fn) (hname : (fn.name == "runtime.NumGoroutine") = false) (hb : fn.body = some code) {args : List V} {σ : List Ob} {K : V → List Ob → Prop}
    (h : WP P σ.length code (args ++ List.replicate (fn.ntmps - args.length) .undef) σ (EndK P σ.length fn.results.toList K)) : callA P f args σ K := by
  refine ⟨⟨fn, hf, hname, by rw [hb]; rfl⟩, fun c vals hs hv => ?_⟩
  have hl := VRs_length hv
  let c0 : Cx := ⟨c.w, c.loc, ⟨c.hid.blk, []⟩⟩
  have hs0 : SR c0 σ := SR.re (h := c.hid) (h' := c0.hid) rfl hs
  refine calls_of_wp_defers hf hb (wp_mono (h c0 { tmps := vals.toArray ++ Array.replicate (fn.ntmps - vals.toArray.size) undef, defers := [] } ⟨hs0, ?_, DfOk.refl P []⟩) fun e a' w' hp => ?_)
  · simp only [Array.toList_append, Array.toList_replicate, List.size_toArray]
    rw [hl]
    refine VRs_of_get (by simp [hl]) fun i x v e f' => ?_
    rw [List.getElem?_append] at e f'
    split at e
    · rename_i hi
      rw [if_pos (by omega)] at f'
      obtain ⟨u, q1, q2⟩ := VRs_get hv i e
      have : vals[i]? = some v := by simpa using f'
      rw [q1] at this; simp at this; subst this; exact q2
    · rw [List.getElem?_replicate] at e
      split at e
      · simp at e; subst e; simp [VR]
      · cases e
  · rcases hp with hp | ⟨x, loc', s', σ', h1, h2, h3, h4⟩
    · exact hp.elim
    · cases x with
      | exit id => exact h4.elim
      | normal =>
        obtain ⟨r, h5, r', σ'', h6, h7⟩ := h4
        cases e <;> simp only [exOf] at h1 <;> (try (cases h1; done))
        refine leaves_quiet _ ⟨w', loc', c0.hid⟩ σ' h2.sr (fun w'' hS2 hE2 => ?_) h2.df.quiet
        obtain ⟨v, g1, g2⟩ := resF_sound (h2.ext hE2 hS2) h5
        obtain ⟨l'', k1, k2, k3⟩ := h6 ⟨w'', loc', c0.hid⟩ [v] hS2 (by simp only [Cx.vrs, VRs]; exact ⟨v, [], rfl, g2, rfl⟩)
        have hE := ((h3.trans (hE2.toN _)).trans k3).toExt hs0 (Nat.le_refl _)
        simp only [Cx.vrs, VRs] at k2
        obtain ⟨v', t, e1, k2, e2⟩ := k2
        simp only [List.cons.injEq] at e1
        obtain ⟨rfl, rfl⟩ := e1
        have hR : CallPost c K (.returned v) w'' := ⟨l'', σ'', r', SR.re (h := c0.hid) (h' := c.hid) rfl k1, Ext.re (h := c0.hid) (h' := c.hid) rfl hE, k2, h7⟩
        exact ⟨v, g1, hR⟩
      | ret =>
        obtain ⟨r, h5, r', σ'', h6, h7⟩ := h4
        cases e <;> simp only [exOf] at h1 <;> (try (cases h1; done))
        refine leaves_quiet _ ⟨w', loc', c0.hid⟩ σ' h2.sr (fun w'' hS2 hE2 => ?_) h2.df.quiet
        obtain ⟨v, g1, g2⟩ := resF_sound (h2.ext hE2 hS2) h5
        obtain ⟨l'', k1, k2, k3⟩ := h6 ⟨w'', loc', c0.hid⟩ [v] hS2 (by simp only [Cx.vrs, VRs]; exact ⟨v, [], rfl, g2, rfl⟩)
        have hE := ((h3.trans (hE2.toN _)).trans k3).toExt hs0 (Nat.le_refl _)
        simp only [Cx.vrs, VRs] at k2
        obtain ⟨v', t, e1, k2, e2⟩ := k2
        simp only [List.cons.injEq] at e1
        obtain ⟨rfl, rfl⟩ := e1
        have hR : CallPost c K (.returned v) w'' := ⟨l'', σ'', r', SR.re (h := c0.hid) (h' := c.hid) rfl k1, Ext.re (h := c0.hid) (h' := c.hid) rfl hE, k2, h7⟩
        exact ⟨v, g1, hR⟩

/-! ### loops -/

/-- A loop by its states: from each, one round comes to a later one, or leaves. -/
theorem WP_loop {P : Program} {n : Nat} {body : Code} {α : Type} (S : α → List V) (T : α → List Ob) (I : α → Prop) (μ : α → Nat) {K : Ex → List V → List Ob → Prop}
    (round : ∀ x, I x → WP P n body (S x) (T x) (seqK (fun s' σ' => ∃ y, I y ∧ μ y < μ x ∧ Weak n s' σ' (S y) (T y)) K)) (x : α) (hx : I x) : WP P n (.loop body) (S x) (T x) K := by
  have key : ∀ m x, μ x = m → I x → ∀ (c : Cx) (a : Act), Rel P c (S x) (T x) a → ∀ (b : Frame) (k : List Item) (cs : List Frame),
      ∃ e a' w', Post P n c K e a' w' ∧ Arrives P (lone (b.at a (.code body :: .inLoop body :: k)) cs c.w) b k cs e a' w' := by
    intro m
    induction m using Nat.strongRecOn with
    | _ m ih =>
      intro x hm hI c a hr b k cs
      obtain ⟨e, a₁, w₁, hq, harr⟩ := round x hI c a hr b (.inLoop body :: k) cs
      rcases hq with hq | ⟨ex, loc', s', σ', h1, h2, h3, h4⟩
      · exact hq.elim
      · cases e <;> simp only [exOf] at h1 <;> (try (cases h1; done)) <;> simp only [Option.some.injEq] at h1 <;> subst h1
        · obtain ⟨y, hIy, hlt, hw⟩ := h4
          obtain ⟨l', k1, k2, k3⟩ := hw ⟨w₁, loc', c.hid⟩ a₁.tmps.toList h2.sr h2.sl
          obtain ⟨e₂, a₂, w₂, hq₂, harr₂⟩ := ih (μ y) (hm ▸ hlt) y rfl hIy ⟨w₁, l', c.hid⟩ a₁ ⟨k1, k2, h2.df⟩ b k cs
          exact ⟨e₂, a₂, w₂, Post.back (h3.trans k3) rfl hq₂, .of_steps (Steps.trans harr (.one step_inLoop)) harr₂⟩
        · exact ⟨_, a₁, w₁, .inr ⟨_, loc', s', σ', rfl, h2, h3, h4⟩, .pass (x := .inLoop body) rfl (fun _ _ => .inl (by simp)) harr⟩
        · exact ⟨_, a₁, w₁, .inr ⟨_, loc', s', σ', rfl, h2, h3, h4⟩, .pass (x := .inLoop body) rfl (fun _ _ => .inl (by simp)) harr⟩
  intro c a hr b k cs
  obtain ⟨e, a', w', hq, harr⟩ := key _ x rfl hx c a hr b k cs
  exact ⟨e, a', w', hq, .of_steps (.one step_loop) harr⟩
end Go.Proofs.YtchgfpehcjomeaaGreatDoor.Am
