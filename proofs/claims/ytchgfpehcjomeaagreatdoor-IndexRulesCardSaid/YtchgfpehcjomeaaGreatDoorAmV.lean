/- The engine's quiet operations, all of them in one function, and its soundness. -/
import Derived.Test.YtchgfpehcjomeaaGreatDoorAmU
set_option linter.unusedSimpArgs false
set_option linter.unusedVariables false
namespace Go.Proofs.YtchgfpehcjomeaaGreatDoor.Am
open Go

/-! ### maps -/
def keyEq0 : D → D → Option Bool
  | .str a, .str b => some (a == b)
  | .int k a, .int k' b => if k = k' then some (a == b) else none
  | .bool a, .bool b => some (a == b)
  | _, _ => none

def keysEq : List D → List D → Option Bool
  | [], [] => some true
  | a :: as, b :: bs => match keyEq0 a b, keysEq as bs with
    | some x, some y => some (x && y)
    | _, _ => none
  | _, _ => none

def keyEq : D → D → Option Bool
  | .str a, .str b => some (a == b)
  | .int k a, .int k' b => if k = k' then some (a == b) else none
  | .bool a, .bool b => some (a == b)
  | .agg as, .agg bs => keysEq as bs
  | _, _ => none

def findD (k : D) : List (D × V × Nat) → Nat → Option (Option (Nat × V))
  | [], _ => some none
  | (k', x, _) :: es, i => match keyEq k k' with
    | some true => some (some (i, x))
    | some false => findD k es (i + 1)
    | none => none

def fitK : List SK → List D → Bool
  | [], [] => true
  | .int :: ks, .int _ _ :: xs => fitK ks xs
  | .bool :: ks, .bool _ :: xs => fitK ks xs
  | .str :: ks, .str _ :: xs => fitK ks xs
  | _, _ => false

def keyOk (P : Program) (kt : TypeId) : D → Bool
  | .str _ => isStrT P kt
  | .int _ _ => (intT P kt).isSome
  | .bool _ => isBoolT P kt
  | .agg as => match flatT P 8 kt with | some ks => aggT P kt && fitK ks as | none => false
  | _ => false

/-- A key, as data. -/
def keyV : V → Option D
  | .d k => some k
  | x => x.ds.map D.agg

theorem keyV_dr {c : Cx} {x : V} {k : D} (h : keyV x = some k) {v : Value} (r : c.vr x v) : DR c.im k v := by
  unfold keyV at h
  split at h
  · simp only [Option.some.injEq] at h; subst h
    simpa [Cx.vr, VR] using r
  · cases hd : x.ds with
    | none => rw [hd] at h; cases h
    | some ds =>
      rw [hd] at h; simp only [Option.map_some, Option.some.injEq] at h; subst h
      obtain ⟨vs, rfl, g⟩ := vr_ds hd r
      simp only [DR]
      exact ⟨vs, rfl, g⟩

def mapT (P : Program) (t : TypeId) : Option (TypeId × TypeId) := match P.underlying t with | some (.map k e) => some (k, e) | _ => none
def zeroV (P : Program) (t : TypeId) : Option V := match P.info? t with | some i => i.zero.map ofConst | none => none

theorem mapT_some {P : Program} {t k e : TypeId} (h : mapT P t = some (k, e)) : P.underlying t = some (.map k e) := by
  unfold mapT at h
  split at h
  · simp at h; obtain ⟨rfl, rfl⟩ := h; assumption
  · cases h

theorem zeroV_some {P : Program} {t : TypeId} {x : V} (h : zeroV P t = some x) (w : World) : ∃ z, (zeroValue t).run P w = .ok z w ∧ x = ofConst z ∧ ∃ i, P.info? t = some i ∧ i.zero = some z := by
  unfold zeroV at h
  split at h
  · rename_i i hi
    cases hz : i.zero with
    | none => rw [hz] at h; cases h
    | some z =>
      rw [hz] at h; simp at h
      exact ⟨z, by simp [zeroValue, typeInfo, hi, hz], h.symm, i, hi, hz⟩
  · cases h

theorem keysEq_flat : ∀ (ks : List SK) (as bs : List D) (r : Bool), fitK ks as = true → keysEq as bs = some r → flatD ks as bs = some r
  | [], [], bs, r, hf, h => by cases bs <;> simp [keysEq] at h ⊢; simp [flatD, h]
  | [], _ :: _, bs, r, hf, h => by simp [fitK] at hf
  | k :: ks, [], bs, r, hf, h => by cases k <;> simp [fitK] at hf
  | k :: ks, a :: as, [], r, hf, h => by simp [keysEq] at h
  | k :: ks, a :: as, b :: bs, r, hf, h => by
    simp only [keysEq] at h
    cases h0 : keyEq0 a b with
    | none => rw [h0] at h; cases h
    | some x =>
      cases h1 : keysEq as bs with
      | none => rw [h0, h1] at h; cases h
      | some y =>
        rw [h0, h1] at h
        simp only [Option.some.injEq] at h; subst h
        cases k <;> cases a <;> (try (simp [fitK] at hf; done)) <;> cases b <;> (try (simp [keyEq0] at h0; done)) <;> simp only [fitK] at hf <;> simp only [keyEq0] at h0 <;> have ih := keysEq_flat ks as bs y hf h1
        · split at h0
          · rename_i q; subst q
            simp only [Option.some.injEq] at h0; subst h0
            simp [flatD, ih]
          · cases h0
        all_goals
          simp only [Option.some.injEq] at h0; subst h0
          simp [flatD, ih]

theorem fitK_append : ∀ (ks ls : List SK) (xs : List D), fitK (ks ++ ls) xs = true → fitK ks (xs.take ks.length) = true ∧ fitK ls (xs.drop ks.length) = true ∧ xs.length = ks.length + ls.length
  | [], ls, xs, h => by
    refine ⟨by simp [fitK], by simpa using h, ?_⟩
    have : ∀ (ls : List SK) (xs : List D), fitK ls xs = true → xs.length = ls.length := by
      intro ls
      induction ls with
      | nil => intro xs h; cases xs with | nil => rfl | cons x xs => simp [fitK] at h
      | cons k ls ih =>
        intro xs h
        cases xs with
        | nil => cases k <;> simp [fitK] at h
        | cons x xs => cases k <;> cases x <;> (try (simp [fitK] at h; done)) <;> simp only [fitK] at h <;> simp [ih xs h]
    simpa using this ls xs h
  | k :: ks, ls, [], h => by cases k <;> simp [fitK] at h
  | k :: ks, ls, x :: xs, h => by
    cases k <;> cases x <;> (try (simp [fitK] at h; done)) <;> simp only [List.cons_append, fitK] at h <;> obtain ⟨h1, h2, h3⟩ := fitK_append ks ls xs h <;>
      exact ⟨by simpa [fitK] using h1, by simpa using h2, by simp [h3]; omega⟩

theorem aggT_some {P : Program} {t : TypeId} (h : aggT P t = true) : ∃ d, P.underlying t = some d := by
  unfold aggT at h
  cases hu : P.underlying t with
  | none => rw [hu] at h; cases h
  | some d => exact ⟨d, rfl⟩

theorem check_flat (P : Program) (I : Im) (b : Bool) : ∀ (n : Nat) (t : TypeId) (ks : List SK), flatT P n t = some ks → ∀ (m : Nat), n ≤ m → ∀ (as : List D) (xs : List Value) (w : World), fitK ks as = true → DRs I as xs →
    (∃ e, P.underlying t = some e) ∧ (Instr.checkKey b m t (valOf P t xs)).run P w = .ok () w
  | 0, t, ks, h, m, hm, as, xs, w, hf, hx => by simp [flatT] at h
  | n + 1, t, ks, h, 0, hm, as, xs, w, hf, hx => by omega
  | n + 1, t, ks, h, m + 1, hm, as, xs, w, hf, hx => by
    unfold flatT at h
    split at h
    · rename_i k hu
      exact ⟨⟨_, hu⟩, by simp [Instr.checkKey, run_underlying hu]⟩
    · rename_i hu
      exact ⟨⟨_, hu⟩, by simp [Instr.checkKey, run_underlying hu]⟩
    · rename_i hu
      exact ⟨⟨_, hu⟩, by simp [Instr.checkKey, run_underlying hu]⟩
    · rename_i fs hu
      refine ⟨⟨_, hu⟩, ?_⟩
      have ha : aggT P t = true := by simp [aggT, hu]
      split at h
      · rename_i hst
        simp only [valOf, ha, if_true]
        rw [Instr.checkKey]
        simp only [Sem.run_bind, run_underlying hu, Result.andThen_ok]
        rw [← Array.forIn_toList]
        have key : ∀ (l : List Field) (off : Nat) (ks : List SK), flatFields (flatT P n) (szOf P) l off = some ks → fitK ks (as.drop off) = true →
            (forIn l PUnit.unit fun f (r : PUnit) => (do
              if f.name ≠ "_" then do
                let x ← part f.type xs.toArray f.offset
                Instr.checkKey b m f.type x
                pure (ForInStep.yield PUnit.unit)
              else pure (ForInStep.yield PUnit.unit) : Sem (ForInStep PUnit))).run P w = .ok PUnit.unit w := by
          intro l
          induction l with
          | nil => intro off ks h hf; simp
          | cons f l ih =>
            intro off ks h hf
            simp only [flatFields] at h
            split at h
            · rename_i hn
              obtain ⟨hn, ho⟩ := hn
              split at h
              · rename_i k1 hk1
                split at h
                · rename_i hs
                  obtain ⟨hs, h0⟩ := hs
                  split at h
                  · rename_i ls hls
                    simp only [Option.some.injEq] at h; subst h
                    obtain ⟨g1, g2, g3⟩ := fitK_append k1 ls _ hf
                    have lx := DRs_length hx
                    obtain ⟨⟨e, he⟩, hrec⟩ := check_flat P I b n f.type k1 hk1 m (by omega) _ ((xs.drop off).take k1.length) w g1 (DRs_take (DRs_drop hx off) _)
                    have ih' := ih (off + k1.length) ls hls (by rw [← List.drop_drop]; exact g2)
                    have p1 := run_part he (by omega) xs f.offset (by rw [ho, ← hs]; rw [List.length_drop] at g3; omega) w
                    rw [ho, ← hs] at p1
                    simp only [List.forIn_cons, Sem.run_bind, hn, ne_eq, not_false_eq_true, if_true, ho, Result.andThen_ok, p1, hrec, Sem.run_pure]
                    exact ih'
                  · cases h
                · cases h
              · cases h
            · cases h
        rw [key fs.toList 0 ks h (by simpa using hf)]
        rfl
      · cases h
    · cases h

theorem keyOk_some {P : Program} {kt : TypeId} {k : D} (h : keyOk P kt k = true) : ∃ d, P.underlying kt = some d := by
  cases k <;> simp only [keyOk] at h <;> (try (cases h; done))
  · obtain ⟨q, hq⟩ := Option.isSome_iff_exists.1 h
    exact ⟨_, intT_some hq⟩
  · exact ⟨_, isBoolT_some h⟩
  · exact ⟨_, isStrT_some h⟩
  · split at h
    · simp only [Bool.and_eq_true] at h
      exact aggT_some h.1
    · cases h

theorem keyOk_checks {P : Program} {kt : TypeId} {k : D} (h : keyOk P kt k = true) {I : Im} {v : Value} (r : DR I k v) (b : Bool) (w : World) : (Instr.checkKey b 10000 kt v).run P w = .ok () w := by
  have key : ∀ n, (∀ as, k ≠ .agg as) → (Instr.checkKey b (n + 1) kt v).run P w = .ok () w := by
    intro n hna
    cases k <;> simp only [keyOk] at h <;> (try (cases h; done)) <;> (try (exact absurd rfl (hna _))) <;> simp only [DR] at r <;> subst r
    · obtain ⟨k, hk⟩ := Option.isSome_iff_exists.1 h
      simp [Instr.checkKey, run_underlying (intT_some hk)]
    · simp [Instr.checkKey, run_underlying (isBoolT_some h)]
    · simp [Instr.checkKey, run_underlying (isStrT_some h)]
  cases k with
  | agg as =>
    simp only [keyOk] at h
    split at h
    · rename_i ks hk
      simp only [Bool.and_eq_true] at h
      simp only [DR] at r
      obtain ⟨xs, rfl, hx⟩ := r
      have := (check_flat P I b 8 kt ks hk 10000 (by omega) as xs w h.2 hx).2
      simpa only [valOf, h.1, if_true] using this
    · cases h
  | _ => exact key 9999 (fun as q => by cases q)

/-- What is asked of two keys: '==' of them, and the short way for plain ones. -/
def KeyCmp (P : Program) (kt : TypeId) (v v' : Value) (b : Bool) : Prop :=
  (∀ w, (Op.equal kt v v').run P w = .ok b w) ∧ ∀ d, P.underlying kt = some d → Instr.sameNow d v v' = some b ∨ Instr.sameNow d v v' = none

theorem keyCmp {P : Program} {kt : TypeId} {I : Im} {k k' : D} {v v' : Value} {r : Bool} (h : keyOk P kt k = true) (hk : DR I k v) (hk' : DR I k' v') (e : keyEq k k' = some r) : KeyCmp P kt v v' r := by
  cases k <;> simp only [keyOk] at h <;> (try (cases h; done)) <;> cases k' <;> simp only [keyEq] at e <;> (try (cases e; done))
  · simp only [DR] at hk hk'; subst hk; subst hk'
    obtain ⟨k, hq⟩ := Option.isSome_iff_exists.1 h
    have hu := intT_some hq
    split at e
    · rename_i q
      simp only [Option.some.injEq] at e; subst e; subst q
      exact ⟨fun w => run_equalIn_int w 9999 kt _ _ _ _ hu, fun d hd => .inl (by rw [hu] at hd; simp at hd; subst hd; simp [Instr.sameNow])⟩
    · cases e
  · simp only [DR] at hk hk'; subst hk; subst hk'
    have hu := isBoolT_some h
    simp only [Option.some.injEq] at e; subst e
    exact ⟨fun w => run_equalIn_bool' w 9999 kt _ _ hu, fun d hd => .inl (by rw [hu] at hd; simp at hd; subst hd; simp [Instr.sameNow])⟩
  · simp only [DR] at hk hk'; subst hk; subst hk'
    have hu := isStrT_some h
    simp only [Option.some.injEq] at e; subst e
    refine ⟨fun w => ?_, fun d hd => .inl (by rw [hu] at hd; simp at hd; subst hd; simp only [Instr.sameNow, beq_toListBytes, toList_mk])⟩
    show (Op.equalIn 10000 kt _ _).run P w = _
    rw [run_equalIn_string w 9999 kt _ _ hu, toList_mk, toList_mk]
  · split at h
    · rename_i ks hks
      simp only [Bool.and_eq_true] at h
      simp only [DR] at hk hk'
      obtain ⟨xs, rfl, hx⟩ := hk
      obtain ⟨ys, rfl, hy⟩ := hk'
      have hfd := keysEq_flat ks _ _ r h.2 e
      refine ⟨fun w => ?_, fun d hd => .inr (by cases d <;> rfl)⟩
      have := (flat_eq P w I 8 kt ks hks 10000 (by omega) _ _ xs ys r hfd hx hy).2
      simp only [valOf, h.1, if_true] at this
      exact this
    · cases h

/-- What a look for a key finds. -/
inductive Fd (P : Program) (kt : TypeId) (v : Value) : List MapEntry → Nat → Option (Nat × Value) → Prop
  | nil (i : Nat) : Fd P kt v [] i none
  | hit {e : MapEntry} {l : List MapEntry} {i : Nat} (h : KeyCmp P kt v e.key true) : Fd P kt v (e :: l) i (some (i, e.val))
  | miss {e : MapEntry} {l : List MapEntry} {i : Nat} {r : Option (Nat × Value)} (h : KeyCmp P kt v e.key false) (t : Fd P kt v l (i + 1) r) : Fd P kt v (e :: l) i r

theorem Fd.run {P : Program} {kt : TypeId} {v : Value} {l : List MapEntry} {r : Option (Nat × Value)} {d : TypeDesc} (hd : P.underlying kt = some d) (h : Fd P kt v l 0 r) (w : World) : (Instr.findKey kt v l).run P w = .ok r w := by
  have ask : ∀ {l : List MapEntry} {i : Nat} {r : Option (Nat × Value)}, Fd P kt v l i r → (Instr.findAsking kt v l i).run P w = .ok r w := by
    intro l i r h
    induction h with
    | nil i => simp [Instr.findAsking]
    | hit h => simp [Instr.findAsking, h.1 w]
    | miss h t ih => simp [Instr.findAsking, h.1 w, ih]
  have now : ∀ {l : List MapEntry} {i : Nat} {r : Option (Nat × Value)}, Fd P kt v l i r → Instr.findNow d v l i = some r ∨ Instr.findNow d v l i = none := by
    intro l i r h
    induction h with
    | nil i => exact .inl rfl
    | hit h => rcases h.2 d hd with q | q <;> simp [Instr.findNow, q]
    | miss h t ih => rcases h.2 d hd with q | q <;> simp [Instr.findNow, q, ih]
  rcases now h with q | q
  · simp [Instr.findKey, run_underlying hd, q]
  · simp [Instr.findKey, run_underlying hd, q, ask h]

theorem Fd_findD {P : Program} {kt : TypeId} {I : Im} {w : World} {loc : Nat → Loc} {k : D} {v : Value} (h : keyOk P kt k = true) (hk : DR I k v) :
    ∀ {es : List (D × V × Nat)} {l : List MapEntry} (m : MapR I w loc es l) (i : Nat) {r : Option (Nat × V)}, findD k es i = some r →
      ∃ r', Fd P kt v l i r' ∧ (match r, r' with | some (j, x), some (j', u) => j = j' ∧ VR I w loc x u ∧ i ≤ j ∧ ∃ k' n, es[j - i]? = some (k', x, n) ∧ keyEq k k' = some true | none, none => True | _, _ => False) := by
  intro es l m
  induction m with
  | nil => intro i r e; simp [findD] at e; subst e; exact ⟨none, .nil _, trivial⟩
  | @cons k0 x0 n0 ent es l h1 h2 h3 m ih =>
    intro i r e
    simp only [findD] at e
    split at e
    · rename_i hq
      simp only [Option.some.injEq] at e; subst e
      exact ⟨some (i, ent.val), .hit (keyCmp h hk h1 hq), rfl, h2, Nat.le_refl _, k0, n0, by simp, hq⟩
    · rename_i hq
      obtain ⟨r', g1, g2⟩ := ih (i + 1) e
      refine ⟨r', .miss (keyCmp h hk h1 hq) g1, ?_⟩
      cases r with
      | none => cases r' with
        | none => trivial
        | some q => exact g2
      | some q =>
        cases r' with
        | none => exact g2
        | some q' =>
          obtain ⟨j, x⟩ := q
          obtain ⟨j', u⟩ := q'
          obtain ⟨a1, a2, a3, k', n', a4, a5⟩ := g2
          refine ⟨a1, a2, by omega, k', n', ?_, a5⟩
          have : j - i = (j - (i + 1)) + 1 := by omega
          rw [this]; simpa using a4
    · cases e

def lookupRes (ok : Bool) (x : V) (b : Bool) : V := if ok then .tup [x, .d (.bool b)] else x

def lookupF (P : Program) (t : TypeId) (σ : List Ob) (x k : V) (ok : Bool) : Option V :=
  match mapT P t, keyV k with
  | some (kt, et), some k => if keyOk P kt k then
      match x with
      | .mp o => match σ[o]? with
        | some (.map es _) => match findD k es 0 with
          | some (some (_, x)) => some (lookupRes ok x true)
          | some none => (zeroV P et).map fun z => lookupRes ok z false
          | none => none
        | _ => none
      | .d .nilm => (zeroV P et).map fun z => lookupRes ok z false
      | _ => none
    else none
  | _, _ => none

theorem lookupF_sound {P : Program} {t : TypeId} {c : Cx} {σ : List Ob} (h : SR c σ) {x k r : V} {ok : Bool} {vx vk : Value} (e : lookupF P t σ x k ok = some r) (hx : c.vr x vx) (hk : c.vr k vk) :
    ∃ v, (Instr.lookup t vx vk ok).run P c.w = .ok v c.w ∧ c.vr r v := by
  unfold lookupF at e
  split at e
  · rename_i kt et k hm hkv
    have hu := mapT_some hm
    have hk := keyV_dr hkv hk
    split at e
    · rename_i hko
      have fin : ∀ (x : V) (u : Value) (b : Bool), c.vr x u → c.vr (lookupRes ok x b) (if ok then .tuple #[u, .bool b] else u) := by
        intro x u b hu
        cases ok with
        | false => simpa [lookupRes] using hu
        | true =>
          simp only [lookupRes, if_true, Cx.vr, VR, VRs]
          exact ⟨[u, .bool b], rfl, u, [.bool b], rfl, hu, .bool b, [], rfl, by simp [DR], rfl⟩
      obtain ⟨d, hd⟩ := keyOk_some hko
      split at e
      · rename_i o
        split at e
        · rename_i es clk hes
          obtain ⟨b, ents, hl, rfl, h1, h2, _⟩ := map_at h hes hx
          split at e
          · rename_i j y hf
            simp only [Option.some.injEq] at e; subst e
            obtain ⟨r', g1, g2⟩ := Fd_findD (P := P) hko hk h2 0 hf
            cases r' with
            | none => exact g2.elim
            | some q =>
              obtain ⟨j', u⟩ := q
              refine ⟨_, ?_, fin _ u true g2.2.1⟩
              simp only [Instr.lookup, Sem.run_bind, run_underlying hu, Result.andThen_ok, run_getObj_map h1, Sem.run_pure, keyOk_checks hko hk, g1.run hd]
          · rename_i hf
            cases hz : zeroV P et with
            | none => rw [hz] at e; cases e
            | some z =>
              rw [hz] at e; simp at e; subst e
              obtain ⟨zv, z1, rfl, _⟩ := zeroV_some hz c.w
              obtain ⟨r', g1, g2⟩ := Fd_findD (P := P) hko hk h2 0 hf
              cases r' with
              | some q => exact g2.elim
              | none =>
                refine ⟨_, ?_, fin _ zv false (VR_ofConst _ _ _ _)⟩
                simp only [Instr.lookup, Sem.run_bind, run_underlying hu, Result.andThen_ok, run_getObj_map h1, Sem.run_pure, keyOk_checks hko hk, g1.run hd, z1]
          · cases e
        · cases e
      · cases hz : zeroV P et with
        | none => rw [hz] at e; cases e
        | some z =>
          rw [hz] at e; simp at e; subst e
          obtain ⟨zv, z1, rfl, _⟩ := zeroV_some hz c.w
          simp only [Cx.vr, VR, DR] at hx; subst hx
          refine ⟨_, ?_, fin _ zv false (VR_ofConst _ _ _ _)⟩
          have := (Fd.nil (P := P) (kt := kt) (v := vk) 0).run hd c.w
          simp only [Instr.lookup, Sem.run_bind, run_underlying hu, Result.andThen_ok, Sem.run_pure, keyOk_checks hko hk, this, z1]
      · cases e
    · cases e
  · cases e

/-! ### the rest -/
def indexF (P : Program) (t : TypeId) (x ix : V) : Option V :=
  match x, ix with
  | .d (.str s), .d (.int _ i) => if isStrT P t = true ∧ 0 ≤ i then match s[i.toNat]? with
      | some b => some (.d (.int .u8 b.toNat))
      | none => none
    else none
  | .d (.agg cs), .d (.int _ i) => match arrT P t with
    | some (n, e) => if 0 < szOf P e ∧ 0 ≤ i ∧ i < n then takeD P e (cs.drop (i.toNat * szOf P e)) else none
    | none => none
  | .agg cs, .d (.int _ i) => match arrT P t with
    | some (n, e) => if 0 < szOf P e ∧ 0 ≤ i ∧ i < n then takeV P e (cs.drop (i.toNat * szOf P e)) else none
    | none => none
  | _, _ => none

theorem indexF_sound {P : Program} {t : TypeId} {c : Cx} {x ix r : V} {vx vi : Value} (e : indexF P t x ix = some r) (hx : c.vr x vx) (hi : c.vr ix vi) : ∃ v, (Instr.index t vx vi).run P c.w = .ok v c.w ∧ c.vr r v := by
  unfold indexF at e
  split at e
  · rename_i s k i
    split at e
    · rename_i ht
      split at e
      · rename_i b hb
        simp only [Option.some.injEq] at e; subst e
        simp only [Cx.vr, VR, DR] at hx hi; subst hx; subst hi
        have hg : (⟨s.toArray⟩ : ByteArray)[i.toNat]? = some b := by
          have hlt := (List.getElem?_eq_some_iff.1 hb).1
          rw [getElem?_pos (⟨s.toArray⟩ : ByteArray) i.toNat (by rw [size_mk]; exact hlt)]
          congr 1
          have := (List.getElem?_eq_some_iff.1 hb).2
          rw [← this]
          rfl
        exact ⟨.int .u8 b.toNat, by simp [Instr.index, asIntOf, run_underlying (isStrT_some ht.1), ht.2, hg], by simp [Cx.vr, VR, DR]⟩
      · cases e
    · cases e
  · rename_i cs k i
    split at e
    · rename_i n el ha
      split at e
      · rename_i hb
        simp only [Cx.vr, VR, DR] at hx hi
        obtain ⟨vs, rfl, hv⟩ := hx
        subst hi
        obtain ⟨v, g1, g2⟩ := takeD_part e hv c.w c.loc
        exact ⟨v, by simp only [Instr.index, asIntOf, Sem.run_bind, Sem.run_pure, run_underlying (arrT_some ha), Result.andThen_ok, hb.2, and_self, if_true, run_sizeOf' hb.1, g1], g2⟩
      · cases e
    · cases e
  · rename_i cs k i
    split at e
    · rename_i n el ha
      split at e
      · rename_i hb
        simp only [Cx.vr, VR, DR] at hx hi
        obtain ⟨vs, rfl, hv⟩ := hx
        subst hi
        obtain ⟨v, g1, g2⟩ := takeV_part e hv
        exact ⟨v, by simp only [Instr.index, asIntOf, Sem.run_bind, Sem.run_pure, run_underlying (arrT_some ha), Result.andThen_ok, hb.2, and_self, if_true, run_sizeOf' hb.1, g1], g2⟩
      · cases e
    · cases e
  · cases e

def foldMM (f : Int → Int → Int) : Int → List V → Option Int
  | a, [] => some a
  | a, .d (.int _ b) :: r => foldMM f (f a b) r
  | _, _ => none

def minMaxF (f : Int → Int → Int) : List V → Option V
  | .d (.int k a) :: r => (foldMM f a r).map fun n => .d (.int k n)
  | _ => none

theorem max_if (a b : Int) : (if b > a then b else a) = max a b := by omega
theorem min_if (a b : Int) : (if b < a then b else a) = min a b := by omega

theorem foldMM_sound {P : Program} {c : Cx} (g : Value → Value → Sem Value) (f : Int → Int → Int) (hg : ∀ k a k' b, g (.int k a) (.int k' b) = pure (.int k (f a b))) (k : IntKind) :
    ∀ (xs : List V) (vs : List Value), c.vrs xs vs → ∀ a n, foldMM f a xs = some n → (vs.foldlM g (.int k a)).run P c.w = .ok (.int k n) c.w
  | [], vs, h, a, n, e => by
    simp [Cx.vrs, VRs] at h; subst h
    simp [foldMM] at e; subst e
    simp
  | x :: xs, vs, h, a, n, e => by
    simp only [Cx.vrs, VRs] at h
    obtain ⟨v, r, rfl, h1, h2⟩ := h
    unfold foldMM at e
    split at e
    · cases ‹_ :: _ = []›
    · rename_i k' b r' heq
      simp only [List.cons.injEq] at heq
      obtain ⟨rfl, rfl⟩ := heq
      simp only [VR, DR] at h1; subst h1
      simp only [List.foldlM_cons, hg, pure_bind]
      exact foldMM_sound g f hg k xs r h2 _ n e
    · cases e

def argsOf (s : List V) (args : Array Operand) : List V := args.toList.map (get s)

theorem vrs_args {c : Cx} {s : List V} {a : Act} (hG : Glob c) (h : c.vrs s a.tmps.toList) : ∀ (xs : List Operand), c.vrs (xs.map (get s)) (xs.map a.eval)
  | [] => by simp [Cx.vrs, VRs]
  | x :: xs => by simp only [List.map_cons, Cx.vrs, VRs]; exact ⟨_, _, rfl, vr_get hG h x, vrs_args hG h xs⟩

def builtinF (P : Program) (b : Builtin) (ts : List TypeId) (σ : List Ob) (xs : List V) : Option V :=
  match b with
  | .len => match ts, xs with | [t], [x] => lenF P t σ x | _, _ => none
  | .min => minMaxF min xs
  | .max => minMaxF max xs
  | _ => none

theorem builtinF_sound {P : Program} {b : Builtin} {ts : Array TypeId} {ty : TypeId} {cs : Array Bool} {c : Cx} {σ : List Ob} (h : SR c σ) {xs : List V} {vs : List Value} {r : V} (e : builtinF P b ts.toList σ xs = some r) (hx : c.vrs xs vs) :
    ∃ v, (builtin b ts ty cs vs.toArray).run P c.w = .ok (.value v) c.w ∧ c.vr r v := by
  unfold builtinF at e
  split at e
  · split at e
    · rename_i t x ht
      simp only [Cx.vrs, VRs] at hx
      obtain ⟨v, r', rfl, h1, rfl⟩ := hx
      obtain ⟨u, g1, g2⟩ := lenF_sound (ty := ty) h e h1
      have : ts = #[t] := by apply Array.ext'; simp [ht]
      subst this
      exact ⟨u, by simp [builtin, g1], g2⟩
    · cases e
  · unfold minMaxF at e
    split at e
    · rename_i k a r'
      cases hf : foldMM min a r' with
      | none => rw [hf] at e; cases e
      | some n =>
        rw [hf] at e; simp at e; subst e
        simp only [Cx.vrs, VRs, VR, DR] at hx
        obtain ⟨v, t, rfl, rfl, h2⟩ := hx
        have := foldMM_sound (P := P) (c := c) Builtin.min2 min (by intro k a k' b; simp only [Builtin.min2, min_if]) k r' t h2 a n hf
        exact ⟨_, by simp [builtin, Builtin.min_, this]; rfl, by simp [Cx.vr, VR, DR]⟩
    · cases e
  · unfold minMaxF at e
    split at e
    · rename_i k a r'
      cases hf : foldMM max a r' with
      | none => rw [hf] at e; cases e
      | some n =>
        rw [hf] at e; simp at e; subst e
        simp only [Cx.vrs, VRs, VR, DR] at hx
        obtain ⟨v, t, rfl, rfl, h2⟩ := hx
        have := foldMM_sound (P := P) (c := c) Builtin.max2 max (by intro k a k' b; simp only [Builtin.max2, max_if]) k r' t h2 a n hf
        exact ⟨_, by simp [builtin, Builtin.max_, this]; rfl, by simp [Cx.vr, VR, DR]⟩
    · cases e
  · cases e

/-- A type assertion of nothing. -/
def assertF (P : Program) (t : TypeId) (ok : Bool) : V → Option V
  | .d .nili => if ok = true ∧ (P.underlying t).isSome = true then (zeroV P t).map fun z => .tup [z, .d (.bool false)] else none
  | _ => none

theorem assertF_sound {P : Program} {t : TypeId} {ok : Bool} {c : Cx} {x r : V} {vx : Value} (e : assertF P t ok x = some r) (hx : c.vr x vx) (xT : TypeId) : ∃ v, (Instr.typeAssert vx xT t ok).run P c.w = .ok v c.w ∧ c.vr r v := by
  unfold assertF at e
  split at e
  · split at e
    · rename_i hq
      obtain ⟨rfl, hu⟩ := hq
      obtain ⟨d, hd⟩ := Option.isSome_iff_exists.1 hu
      simp only [Cx.vr, VR, DR] at hx; subst hx
      cases hz : zeroV P t with
      | none => rw [hz] at e; cases e
      | some z =>
        rw [hz] at e; simp only [Option.map_some, Option.some.injEq] at e; subst e
        obtain ⟨zv, z1, rfl, _⟩ := zeroV_some hz c.w
        refine ⟨.tuple #[zv, .bool false], ?_, ?_⟩
        · cases d <;> simp [Instr.typeAssert, run_underlying hd, z1]
        · simp only [Cx.vr, VR, VRs]
          exact ⟨[zv, .bool false], rfl, zv, _, rfl, VR_ofConst _ _ _ _, _, [], rfl, by simp [DR], rfl⟩
    · cases e
  · cases e

def quietF (P : Program) (s : List V) (σ : List Ob) : Op → Option V
  | .move x => some (get s x)
  | .assign x => some (get s x)
  | .pick c a b => match get s c with | .d (.bool t) => some (match t with | true => get s a | false => get s b) | _ => none
  | .nilCheck x => match get s x with
    | .ptr o i k => if alive σ o then some (.ptr o i k) else none
    | .ipt cs => some (.ipt cs)
    | _ => none
  | .binOp op t x y _ => binF P op t σ (get s x) (get s y)
  | .unOp op _ x => unF op (get s x)
  | .convert src dst x => convF P src dst σ (get s x)
  | .fieldAddr t x f => fieldAddrF P t f σ (get s x)
  | .field t x f => fieldF P t f (get s x)
  | .load t x => loadF P t σ (get s x)
  | .indexAddr t x ix => indexAddrF P t σ (get s x) (get s ix)
  | .index t x ix => indexF P t (get s x) (get s ix)
  | .slice t x lo hi mx => sliceF P t σ (get s x) (lo.map (get s)) (hi.map (get s)) (mx.map (get s))
  | .extract x i => match get s x with | .tup vs => vs[i]? | _ => none
  | .makeFunc (.func f) first caps => if first = #[] then some (.fn f (argsOf s caps)) else if caps = #[] then some (.bm f (argsOf s first)) else none
  | .typeAssert x _ t ok => assertF P t ok (get s x)
  | .lookup t x k ok => lookupF P t σ (get s x) (get s k) ok
  | .call { callee := .builtin b, args, argTypes } => builtinF P b argTypes.toList σ (argsOf s args)
  | _ => none

theorem run_value {P : Program} {w w' : World} {x : Sem Value} {v : Value} (h : x.run P w = .ok v w') : (do pure (.value (← x)) : Sem Next).run P w = .ok (.value v) w' := by
  simp [h]

theorem quiet_sound {P : Program} {o : Oper} {a : Act} {c : Cx} {s : List V} {σ : List Ob} (h : SR c σ) (hs : c.vrs s a.tmps.toList) {r : V} (e : quietF P s σ o.op = some r) :
    ∃ v, (execOp a.eval o).run P c.w = .ok (.value v) c.w ∧ c.vr r v := by
  unfold execOp
  generalize o.op = op at e ⊢
  unfold quietF at e
  split at e
  · simp only [Option.some.injEq] at e; subst e
    exact ⟨_, rfl, vr_get h.gl hs _⟩
  · simp only [Option.some.injEq] at e; subst e
    exact ⟨_, rfl, vr_get h.gl hs _⟩
  · rename_i x y z
    split at e
    · rename_i t ht
      simp only [Option.some.injEq] at e; subst e
      have := vr_get h.gl hs x
      rw [ht] at this
      simp only [Cx.vr, VR, DR] at this
      cases t with
      | false => exact ⟨a.eval z, by simp [this, asBool], vr_get h.gl hs _⟩
      | true => exact ⟨a.eval y, by simp [this, asBool], vr_get h.gl hs _⟩
    · cases e
  · rename_i x
    have hv := vr_get h.gl hs x
    split at e
    · rename_i o i k hg
      split at e
      · rename_i ha
        simp only [Option.some.injEq] at e; subst e
        rw [hg] at hv
        obtain ⟨b, base, sz, hl, hp⟩ := vr_ptr h ha hv
        exact ⟨_, by simp [hp]; rfl, by simpa [hp] using hv⟩
      · cases e
    · rename_i cs hg
      simp only [Option.some.injEq] at e; subst e
      rw [hg] at hv
      have hv' := hv
      simp only [Cx.vr, VR] at hv'
      obtain ⟨b, off, vs, hp, _⟩ := hv'
      exact ⟨_, by simp [hp]; rfl, by simpa [hp] using hv⟩
    · cases e
  · obtain ⟨v, h1, h2⟩ := binF_sound h e (vr_get h.gl hs _) (vr_get h.gl hs _) _ _
    exact ⟨v, run_value h1, h2⟩
  · obtain ⟨v, h1, h2⟩ := unF_sound (P := P) e (vr_get h.gl hs _)
    exact ⟨v, run_value h1, h2⟩
  · obtain ⟨v, h1, h2⟩ := convF_sound h e (vr_get h.gl hs _)
    exact ⟨v, run_value h1, h2⟩
  · obtain ⟨v, h1, h2⟩ := fieldAddrF_sound h e (vr_get h.gl hs _)
    exact ⟨v, run_value h1, h2⟩
  · obtain ⟨v, h1, h2⟩ := fieldF_sound e (vr_get h.gl hs _)
    exact ⟨v, run_value h1, h2⟩
  · obtain ⟨v, h1, h2⟩ := loadF_sound h e (vr_get h.gl hs _)
    exact ⟨v, run_value h1, h2⟩
  · obtain ⟨v, h1, h2⟩ := indexAddrF_sound h e (vr_get h.gl hs _) (vr_get h.gl hs _)
    exact ⟨v, run_value h1, h2⟩
  · obtain ⟨v, h1, h2⟩ := indexF_sound (P := P) e (vr_get h.gl hs _) (vr_get h.gl hs _)
    exact ⟨v, run_value h1, h2⟩
  · have ov : ∀ x : Option Operand, ovr c (x.map (get s)) (x.map a.eval) := by
      intro x
      cases x with
      | none => trivial
      | some x => exact vr_get h.gl hs x
    obtain ⟨v, h1, h2⟩ := sliceF_sound h e (vr_get h.gl hs _) (ov _) (ov _) (ov _)
    exact ⟨v, run_value h1, h2⟩
  · rename_i x i
    split at e
    · rename_i vs hg
      have hv := vr_get h.gl hs x
      rw [hg] at hv
      simp only [Cx.vr, VR] at hv
      obtain ⟨us, hu, hv⟩ := hv
      obtain ⟨v, h1, h2⟩ := VRs_get hv i e
      refine ⟨v, run_value ?_, h2⟩
      rw [hu]
      have : us.toArray[i]? = some v := by simpa using h1
      simp [Instr.extract, this]
    · cases e
  · rename_i f first caps
    split at e
    · rename_i hf
      simp only [Option.some.injEq] at e; subst e; subst hf
      refine ⟨_, rfl, ?_⟩
      simp only [Cx.vr, VR, argsOf]
      refine ⟨caps.toList.map a.eval, ?_, vrs_args h.gl hs caps.toList⟩
      have ea : (List.map a.eval caps.toList).toArray = caps.map a.eval := by apply Array.ext'; simp
      rw [ea]; simp
    · split at e
      · rename_i hf
        simp only [Option.some.injEq] at e; subst e; subst hf
        refine ⟨_, rfl, ?_⟩
        simp only [Cx.vr, VR, argsOf]
        refine ⟨first.toList.map a.eval, ?_, vrs_args h.gl hs first.toList⟩
        have ea : (List.map a.eval first.toList).toArray = first.map a.eval := by apply Array.ext'; simp
        rw [ea]; simp
      · cases e
  · obtain ⟨v, h1, h2⟩ := assertF_sound (P := P) e (vr_get h.gl hs _) _
    exact ⟨v, run_value h1, h2⟩
  · obtain ⟨v, h1, h2⟩ := lookupF_sound h e (vr_get h.gl hs _) (vr_get h.gl hs _)
    exact ⟨v, run_value h1, h2⟩
  · rename_i b args ts
    obtain ⟨v, h1, h2⟩ := builtinF_sound (P := P) (ts := ts) (ty := o.type) (cs := args.map fun | .const _ => true | _ => false) h e (vrs_args h.gl hs args.toList)
    refine ⟨v, ?_, h2⟩
    simp only [resolve, Sem.run_bind, Sem.run_pure, Result.andThen_ok, invoke]
    have ea : (List.map a.eval args.toList).toArray = args.map a.eval := by apply Array.ext'; simp
    rw [ea] at h1
    exact h1
  · cases e
end Go.Proofs.YtchgfpehcjomeaaGreatDoor.Am
