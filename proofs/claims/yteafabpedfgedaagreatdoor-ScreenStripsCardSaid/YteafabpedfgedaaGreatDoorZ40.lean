/- The engine's reading: arguments that can be read as data are data of the engine. -/
import Derived.Test.YteafabpedfgedaaGreatDoorZ26
import Derived.Test.YteafabpedfgedaaGreatDoorRows
import Derived.ChangeArms
set_option linter.unusedSimpArgs false
set_option linter.unusedVariables false
namespace Go.Proofs.YteafabpedfgedaaGreatDoor.Am
open Go Go.RowKit Go.WideShapes Go.ChangeShapes

/-- What a cell holds, by its type. -/
inductive Sh where
  | int (k : IntKind)
  | bool
  | str
  | lst (sz : Nat) (ag : Bool) (es : List Sh)

mutual
/-- Such a datum, in which nothing is longer than B. -/
def Fit (B : Nat) : Sh → D → Prop
  | .int k, d => ∃ n, d = .int k n ∧ k.min ≤ n ∧ n ≤ k.max
  | .bool, d => ∃ b, d = .bool b
  | .str, d => ∃ s, d = .str s ∧ s.length ≤ B
  | .lst sz ag shs, d => ∃ es, d = .lst sz es ∧ es.length ≤ B ∧ ∀ e ∈ es, match ag with | true => ∃ cs, e = .agg cs ∧ Fits B shs cs | false => Fits B shs [e]
def Fits (B : Nat) : List Sh → List D → Prop
  | [], ds => ds = []
  | s :: r, ds => ∃ d t, ds = d :: t ∧ Fit B s d ∧ Fits B r t
end

theorem Fits.length {B : Nat} : ∀ {shs : List Sh} {ds : List D}, Fits B shs ds → ds.length = shs.length
  | [], ds, h => by simp only [Fits] at h; simp [h]
  | s :: r, ds, h => by
    simp only [Fits] at h
    obtain ⟨d, t, rfl, _, h⟩ := h
    simp [Fits.length h]

theorem Fits.append {B : Nat} : ∀ {a b : List Sh} {ds es : List D}, Fits B a ds → Fits B b es → Fits B (a ++ b) (ds ++ es)
  | [], b, ds, es, h, g => by simp only [Fits] at h; subst h; exact g
  | s :: r, b, ds, es, h, g => by
    simp only [Fits] at h
    obtain ⟨d, t, rfl, h1, h2⟩ := h
    exact ⟨d, t ++ es, rfl, h1, Fits.append h2 g⟩

theorem Fit.one1 {B : Nat} {s : Sh} {d : D} (h : Fit B s d) : one1 d = true := by
  cases s <;> simp only [Fit] at h
  · obtain ⟨n, rfl, _⟩ := h; rfl
  · obtain ⟨b, rfl⟩ := h; rfl
  · obtain ⟨s, rfl, _⟩ := h; rfl
  · obtain ⟨es, rfl, _⟩ := h; rfl

theorem Fits.one1 {B : Nat} : ∀ {shs : List Sh} {ds : List D}, Fits B shs ds → ds.all one1 = true
  | [], ds, h => by simp only [Fits] at h; subst h; rfl
  | s :: r, ds, h => by
    simp only [Fits] at h
    obtain ⟨d, t, rfl, h1, h2⟩ := h
    simp [h1.one1, Fits.one1 h2]

theorem Fits.get {B : Nat} : ∀ {shs : List Sh} {ds : List D}, Fits B shs ds → ∀ (i : Nat) {s : Sh}, shs[i]? = some s → ∃ d, ds[i]? = some d ∧ Fit B s d
  | [], ds, h, i, s, e => by simp at e
  | s :: r, ds, h, i, s', e => by
    simp only [Fits] at h
    obtain ⟨d, t, rfl, h1, h2⟩ := h
    cases i with
    | zero => simp at e; subst e; exact ⟨d, rfl, h1⟩
    | succ i => simpa using Fits.get h2 i (by simpa using e)

/-! ### the shapes of a type's cells -/
def shapesF (f : TypeId → Option (List Sh)) (szf : TypeId → Nat) : List Field → Nat → Option (List Sh)
  | [], _ => some []
  | x :: r, off => if x.offset = off then
      match f x.type with
      | some l => if l.length = szf x.type then match shapesF f szf r (off + l.length) with | some ls => some (l ++ ls) | none => none else none
      | none => none
    else none

def shapes (P : Program) : Nat → TypeId → Option (List Sh)
  | 0, _ => none
  | n + 1, t => match P.underlying t with
    | some (.int k) => some [.int k]
    | some .bool => some [.bool]
    | some .string => some [.str]
    | some (.slice e) => match shapes P n e with
      | some l => if l.length = szOf P e ∧ 0 < l.length ∧ (aggT P e = false → l.length = 1) then some [.lst l.length (aggT P e) l] else none
      | none => none
    | some (.struct fs) => match shapesF (shapes P n) (szOf P) fs.toList 0 with
      | some l => if l.length = szOf P t then some l else none
      | none => none
    | _ => none

theorem flat_of {I : Im} {B : Nat} : ∀ {shs : List Sh} {ds : List D} {vs : List Value}, Fits B shs ds → DRs I ds vs → ∀ v ∈ vs, v.oneCell' = true
  | [], ds, vs, h, g, v, hv => by
    simp only [Fits] at h; subst h
    simp only [DRs] at g; subst g
    simp at hv
  | s :: r, ds, vs, h, g, v, hv => by
    simp only [Fits] at h
    obtain ⟨d, t, rfl, h1, h2⟩ := h
    simp only [DRs] at g
    obtain ⟨u, us, rfl, g1, g2⟩ := g
    rcases List.mem_cons.1 hv with rfl | hv
    · cases s <;> simp only [Fit] at h1
      · obtain ⟨n, rfl, _⟩ := h1; simp only [DR] at g1; subst g1; rfl
      · obtain ⟨b, rfl⟩ := h1; simp only [DR] at g1; subst g1; rfl
      · obtain ⟨s, rfl, _⟩ := h1; simp only [DR] at g1; subst g1; rfl
      · obtain ⟨es, rfl, _⟩ := h1; simp only [DR] at g1; obtain ⟨a, cap, rfl, _⟩ := g1; rfl
    · exact flat_of h2 g2 v hv

theorem exists_list {α : Type} [Inhabited α] {Q : Nat → α → Prop} : ∀ {n : Nat}, (∀ i, i < n → ∃ d, Q i d) → ∃ es : List α, es.length = n ∧ ∀ (i : Nat) (d : α), es[i]? = some d → Q i d
  | 0, _ => ⟨[], rfl, fun i d h => by simp at h⟩
  | n + 1, h => by
    obtain ⟨es, h1, h2⟩ := exists_list (n := n) fun i hi => h i (by omega)
    obtain ⟨d, hd⟩ := h n (by omega)
    refine ⟨es ++ [d], by simp [h1], fun i d' e => ?_⟩
    rw [List.getElem?_append] at e
    split at e
    · exact h2 i d' e
    · have : i = n := by
        have := (List.getElem?_eq_some_iff.1 e).1
        simp at this; omega
      subst this
      simp [h1] at e; subst e; exact hd

theorem uptoBulk_pos {H : Type} (d : DataW H) : 1 ≤ Rows.uptoBulk d := by
  cases d with
  | lit l => cases l <;> simp [Rows.uptoBulk]
  | _ => simp [Rows.uptoBulk]
theorem uptoBulk_mem {H : Type} : ∀ {l : List (DataW H)} {d : DataW H}, d ∈ l → Rows.uptoBulk d ≤ Rows.uptoBulkAll l
  | x :: r, d, h => by
    simp only [Rows.uptoBulkAll]
    rcases List.mem_cons.1 h with rfl | h
    · omega
    · have := uptoBulk_mem h; omega
theorem uptoBulk_len {H : Type} : ∀ l : List (DataW H), l.length ≤ Rows.uptoBulkAll l
  | [] => by simp
  | x :: r => by
    have := uptoBulk_pos x
    have := uptoBulk_len r
    simp only [Rows.uptoBulkAll, List.length_cons]; omega

theorem mapM_get {α β : Type} {f : α → Option β} : ∀ {l : List α} {ys : List β}, l.mapM f = some ys → ys.length = l.length ∧ ∀ (i : Nat) (x : α), l[i]? = some x → ∃ y, ys[i]? = some y ∧ f x = some y
  | [], ys, h => by simp at h; subst h; exact ⟨rfl, fun i x e => by simp at e⟩
  | a :: l, ys, h => by
    simp only [List.mapM_cons, Option.bind_eq_bind] at h
    cases hf : f a with
    | none => rw [hf] at h; simp at h
    | some y =>
      rw [hf] at h
      cases hm : l.mapM f with
      | none => rw [hm] at h; simp at h
      | some zs =>
        rw [hm] at h; simp at h; subst h
        obtain ⟨h1, h2⟩ := mapM_get hm
        refine ⟨by simp [h1], fun i x e => ?_⟩
        cases i with
        | zero => simp at e; subst e; exact ⟨y, rfl, hf⟩
        | succ i => simpa using h2 i x (by simpa using e)

theorem add_none {a : Addr} (h : a.spot = none) (k : Nat) : a.add k = ⟨a.block, a.off + k, none⟩ := by
  obtain ⟨b, o, s⟩ := a
  simp only at h
  subst h
  unfold Addr.add
  split <;> simp_all

section
variable {H : Type} {enc : TypeId × Value → H} {P : Program} {W : World}

/-- READING: what can be read of ints, bools, strings, slices and structs is data of the engine. -/
theorem trod_fit {sp : Nat → Bool} {hd : Bool} {B : Nat} : ∀ (fuel n : Nat) (t : TypeId) (cs : List Value) (x : DataW H × List MemPlace) (shs : List Sh), DataW.trod enc P W 0 sp hd fuel t cs = some x → shapes P n t = some shs → (maxLen ≤ B ∨ Rows.uptoBulk x.1 ≤ B) →
    ∃ ds, DRs (cx0 W).im ds cs ∧ Fits B shs ds := by
  intro fuel
  induction fuel with
  | zero => intro n t cs x shs h; simp [DataW.trod] at h
  | succ fuel ih =>
    intro n t cs x shs h hs hB
    cases n with
    | zero => simp [shapes] at hs
    | succ n =>
      simp only [shapes] at hs
      split at hs
      · rename_i k hu
        cases hs
        obtain ⟨m, rfl, rfl, hw⟩ := DataW.trod_int hu h
        simp only [Lit.wf, Bool.and_eq_true, decide_eq_true_eq] at hw
        exact ⟨[.int k m], by simp [DRs, DR], _, [], rfl, ⟨m, rfl, hw.1, hw.2⟩, rfl⟩
      · rename_i hu
        cases hs
        obtain ⟨b, rfl, rfl⟩ := DataW.trod_bool hu h
        exact ⟨[.bool b], by simp [DRs, DR], _, [], rfl, ⟨b, rfl⟩, rfl⟩
      · rename_i hu
        cases hs
        obtain ⟨s, rfl, rfl, hl⟩ := DataW.trod_string hu h
        refine ⟨[.str s.data.toList], ⟨_, [], rfl, ?_, rfl⟩, _, [], rfl, ⟨_, rfl, ?_⟩, rfl⟩
        · simp only [DR]
        have e : s.data.toList.length = s.size := Array.length_toList
        rcases hB with hB | hB
        · omega
        · simp only [Rows.uptoBulk] at hB; omega
      · rename_i e hu
        cases hl : shapes P n e with
        | none => rw [hl] at hs; cases hs
        | some l =>
          rw [hl] at hs
          simp only at hs
          split at hs
          · rename_i hc
            cases hs
            obtain ⟨hc1, hc2, hc3⟩ := hc
            rcases DataW.trod_slice hu h with ⟨rfl, rfl⟩ | ⟨a, len, cap, elems, rest, m, hfu, rfl, rfl, hb, hlc, hcm, hlen, hel, _, _⟩
            · exact ⟨[.lst l.length []], by simp [DRs, DR], _, [], rfl, ⟨[], rfl, Nat.zero_le _, fun e he => absurd he (List.not_mem_nil)⟩, rfl⟩
            · have hm : m = fuel := by omega
              subst hm
              have hsz : P.cellsOf e = l.length := hc1.symm
              have spot0 : 0 < len → a.spot = none := by
                intro h0
                have h1 := hel 0 h0
                rw [List.getElem?_eq_getElem (by omega)] at h1
                obtain ⟨ci, h2, _⟩ := Option.bind_eq_some_iff.1 h1
                unfold World.cells? at h2
                rw [if_pos (Nat.zero_le _)] at h2
                obtain ⟨_, k2⟩ := mapM_get h2
                obtain ⟨y, _, q2⟩ := k2 0 0 (by rw [hsz]; simp [hc2])
                have := World.cell?_spot q2
                rw [Nat.zero_mul] at this
                simpa [Addr.add] using this
              have key : ∀ i, i < len → ∃ d : D, (∃ v, DR (cx0 W).im d v ∧ Flat v l.length ∧ ∀ j, j < l.length → W.cell? ⟨a.block, a.off + i * l.length + j, none⟩ = v.cells[j]?) ∧ (match aggT P e with | true => ∃ cs, d = .agg cs ∧ Fits B l cs | false => Fits B l [d]) ∧ a.spot = none := by
                intro i hi
                have h1 := hel i hi
                rw [List.getElem?_eq_getElem (by omega)] at h1
                obtain ⟨ci, h2, h3⟩ := Option.bind_eq_some_iff.1 h1
                rw [hsz] at h2
                have hB' : maxLen ≤ B ∨ Rows.uptoBulk (elems[i]'(by omega)).1 ≤ B := by
                  rcases hB with hB | hB
                  · exact .inl hB
                  · right
                    have := uptoBulk_mem (l := elems.map (·.1)) (d := (elems[i]'(by omega)).1) (by simp only [List.mem_map]; exact ⟨_, by simp, rfl⟩)
                    simp only [Rows.uptoBulk] at hB; omega
                obtain ⟨ds, g1, g2⟩ := ih n e ci _ l h3 hl hB'
                have gl := g2.length
                have gv := DRs_length g1
                unfold World.cells? at h2
                rw [if_pos (Nat.zero_le _)] at h2
                obtain ⟨k1, k2⟩ := mapM_get h2
                have hc : ∀ j, j < l.length → W.cell? ((a.add (i * l.length)).add j) = ci[j]? := by
                  intro j hj
                  obtain ⟨y, q1, q2⟩ := k2 j j (by simp [hj])
                  rw [q1, q2]
                have spot := spot0 (by omega)
                have hc' : ∀ j, j < l.length → W.cell? ⟨a.block, a.off + i * l.length + j, none⟩ = ci[j]? := by
                  intro j hj
                  rw [← hc j hj, add_none spot, add_none rfl]
                cases hag : aggT P e with
                | true =>
                  refine ⟨.agg ds, ⟨.agg ci.toArray, ⟨ci, rfl, g1⟩, ⟨by simp [Value.cells]; omega, fun u hu => flat_of g2 g1 u (by simpa [Value.cells] using hu)⟩, fun j hj => ?_⟩, ⟨ds, rfl, g2⟩, spot⟩
                  rw [hc' j hj]; simp [Value.cells]
                | false =>
                  have h1 := hc3 hag
                  obtain ⟨d, rfl⟩ : ∃ d, ds = [d] := List.length_eq_one_iff.1 (by omega)
                  simp only [DRs] at g1
                  obtain ⟨v, r, rfl, g3, rfl⟩ := g1
                  have ho : v.oneCell' = true := flat_of g2 (by simp only [DRs]; exact ⟨v, [], rfl, g3, rfl⟩) v (by simp)
                  have hcells : v.cells = #[v] := by
                    cases v <;> first | rfl | (simp [Value.oneCell'] at ho)
                  refine ⟨d, ⟨v, g3, ⟨by rw [hcells, h1]; rfl, fun u hu => ?_⟩, fun j hj => ?_⟩, g2, spot⟩
                  · rw [hcells] at hu; simp at hu; subst hu; exact ho
                  · rw [hc' j hj, hcells]
                    simp
              obtain ⟨es, e1, e2⟩ := exists_list key
              refine ⟨[.lst l.length es], ?_, _, [], rfl, ⟨es, rfl, ?_, fun d hd => ?_⟩, rfl⟩
              · simp only [DRs, DR]
                refine ⟨_, [], rfl, ⟨some a, cap, by rw [e1], by omega, ?_⟩, rfl⟩
                by_cases h0 : len = 0
                · left; exact List.eq_nil_of_length_eq_zero (by omega)
                · right
                  have hp : 0 < len := by omega
                  have e3 := e2 0 (es[0]'(by omega)) (List.getElem?_eq_getElem (by omega))
                  have spot := e3.2.2
                  refine ⟨a.block, a.off, by rw [← spot], hc2, ⟨?_, cx0_own W _, fun q => q⟩, RowsR_of_get fun i d hd => ?_⟩
                  · obtain ⟨⟨v, _, q2, q3⟩, _⟩ := e3
                    have := q3 0 hc2
                    rcases Nat.lt_or_ge a.block W.heap.size with g | g
                    · exact g
                    · exfalso
                      have hv : v.cells[0]? ≠ none := by rw [ne_eq, Array.getElem?_eq_none_iff, q2.1]; omega
                      apply hv
                      rw [← this]
                      simp [World.cell?, Array.getElem?_eq_none g]
                  · have := e2 i d hd
                    exact this.1
              · rcases hB with hB | hB
                · omega
                · have := uptoBulk_len (elems.map (·.1))
                  simp only [Rows.uptoBulk] at hB
                  simp at this
                  omega
              · obtain ⟨i, hi, rfl⟩ := List.mem_iff_getElem.1 hd
                exact (e2 i _ (List.getElem?_eq_getElem hi)).2.1
          · cases hs
      · rename_i fs hu
        cases hl : shapesF (shapes P n) (szOf P) fs.toList 0 with
        | none => rw [hl] at hs; cases hs
        | some l =>
          rw [hl] at hs
          simp only at hs
          split at hs
          · rename_i hc
            cases hs
            obtain ⟨xs, m, hfu, rfl, hcl, hxl, hx⟩ := DataW.trod_struct hu h
            have hm : m = fuel := by omega
            subst hm
            have hsz : cs.length = shs.length := by rw [hcl]; exact hc.symm
            -- field by field
            have go : ∀ (r : List Field) (k off : Nat) (lr : List Sh), fs.toList.drop k = r → shapesF (shapes P n) (szOf P) r off = some lr → ∃ ds, DRs (cx0 W).im ds ((cs.drop off).take lr.length) ∧ Fits B lr ds := by
              intro r
              induction r with
              | nil => intro k off lr _ hr; simp [shapesF] at hr; subst hr; exact ⟨[], by simp [DRs], rfl⟩
              | cons f r ihr =>
                intro k off lr hk hr
                simp only [shapesF] at hr
                split at hr
                · rename_i hoff
                  cases hf : shapes P n f.type with
                  | none => rw [hf] at hr; cases hr
                  | some lf =>
                    rw [hf] at hr
                    simp only at hr
                    split at hr
                    · rename_i hlf
                      cases hrr : shapesF (shapes P n) (szOf P) r (off + lf.length) with
                      | none => rw [hrr] at hr; cases hr
                      | some ls =>
                        rw [hrr] at hr
                        cases hr
                        have hfk : fs[k]? = some f := by
                          have := congrArg (·[0]?) hk
                          simpa using this
                        have hk' : fs.toList.drop (k + 1) = r := by
                          have := congrArg (List.drop 1) hk
                          rw [List.drop_drop] at this
                          simpa [Nat.add_comm] using this
                        have hkx : k < xs.length := by rw [hxl]; exact (Array.getElem?_eq_some_iff.1 hfk).1
                        have h1 := hx k f hfk
                        rw [List.getElem?_eq_getElem hkx] at h1
                        have hB' : maxLen ≤ B ∨ Rows.uptoBulk xs[k].1 ≤ B := by
                          rcases hB with hB | hB
                          · exact .inl hB
                          · right
                            have := uptoBulk_mem (l := xs.map (·.1)) (d := xs[k].1) (by simp only [List.mem_map]; exact ⟨_, by simp, rfl⟩)
                            simp only [Rows.uptoBulk] at hB; omega
                        obtain ⟨d1, g1, g2⟩ := ih n f.type _ _ lf h1 hf hB'
                        obtain ⟨d2, g3, g4⟩ := ihr (k + 1) (off + lf.length) ls hk' hrr
                        have hz : P.cellsOf f.type = lf.length := hlf.symm
                        rw [hoff, hz] at g1
                        refine ⟨d1 ++ d2, ?_, g2.append g4⟩
                        have := DRs_append g1 g3
                        have e : (cs.drop off).take lf.length ++ (cs.drop (off + lf.length)).take ls.length = (cs.drop off).take (lf ++ ls).length := by
                          rw [List.length_append, List.take_add, List.drop_drop]
                        rw [e] at this
                        exact this
                    · cases hr
                · cases hr
            obtain ⟨ds, g1, g2⟩ := go fs.toList 0 0 shs rfl hl
            refine ⟨ds, ?_, g2⟩
            rw [List.drop_zero, List.take_of_length_le (by omega)] at g1
            exact g1
          · cases hs
      · cases hs
end

/-! ### a law's arguments -/
def ArgFit (P : Program) (B : Nat) (t : TypeId) (x : D) : Prop := ∃ shs, shapes P 12 t = some shs ∧ match aggT P t with | true => ∃ cs, x = .agg cs ∧ Fits B shs cs | false => Fits B shs [x]
def ArgsFit (P : Program) (B : Nat) : List TypeId → List D → Prop
  | [], xs => xs = []
  | t :: ts, xs => ∃ x r, xs = x :: r ∧ ArgFit P B t x ∧ ArgsFit P B ts r

section
variable {H : Type} {enc : TypeId × Value → H} {P : Program} {W : World}

theorem trod_arg {sp : Nat → Bool} {hd : Bool} {B b0 : Nat} {t : TypeId} {v : Value} {d : DataW H} {ps : List MemPlace} {rc : Reach} (h : DataW.Trod enc P W 0 sp hd t v d ps) (hv : Value.okWide P W rc b0 t v) (hs : (shapes P 12 t).isSome = true) (hB : maxLen ≤ B ∨ Rows.uptoBulk d ≤ B) :
    ∃ x, DR (cx0 W).im x v ∧ ArgFit P B t x := by
  obtain ⟨fuel, hf⟩ := h
  obtain ⟨shs, hs⟩ := Option.isSome_iff_exists.1 hs
  obtain ⟨ds, g1, g2⟩ := trod_fit fuel 12 t _ _ shs hf hs hB
  have one : v.cells = #[v] → aggT P t = false → ∃ x, DR (cx0 W).im x v ∧ ArgFit P B t x := fun hc ha => by
    rw [hc] at g1
    have hl := DRs_length g1
    obtain ⟨x, rfl⟩ : ∃ x, ds = [x] := List.length_eq_one_iff.1 (by simpa using hl.symm)
    simp only [DRs] at g1
    obtain ⟨u, r, e, g3, rfl⟩ := g1
    simp at e; subst e
    exact ⟨x, g3, shs, hs, by rw [ha]; exact g2⟩
  have hs' := hs
  simp only [shapes] at hs'
  split at hs'
  · rename_i k hu; obtain ⟨n, rfl⟩ := okWide_int hu hv; exact one rfl (by simp [aggT, hu])
  · rename_i hu; obtain ⟨n, rfl⟩ := okWide_bool hu hv; exact one rfl (by simp [aggT, hu])
  · rename_i hu; obtain ⟨n, rfl⟩ := okWide_string hu hv; exact one rfl (by simp [aggT, hu])
  · rename_i e hu; obtain ⟨a, len, cap, rfl⟩ := okWide_slice hu hv; exact one rfl (by simp [aggT, hu])
  · rename_i fs hu
    obtain ⟨cs, rfl, _⟩ := okWide_struct hu hv
    exact ⟨.agg ds, ⟨cs.toList, by simp, by simpa [Value.cells] using g1⟩, shs, hs, by simp only [aggT, hu]; exact ⟨ds, rfl, g2⟩⟩
  · cases hs'

theorem read_args {sp : Nat → Bool} {hd : Bool} {B b0 : Nat} {rc : Reach} : ∀ {ts : List TypeId} {vs : List Value} {ds : List (DataW H)} {ps : List MemPlace}, DataW.TrodAll enc P W 0 sp hd ts vs ds ps → (∀ (j : Nat) t v, ts[j]? = some t → vs[j]? = some v → Value.okWide P W rc b0 t v) → (∀ t ∈ ts, (shapes P 12 t).isSome = true) → (maxLen ≤ B ∨ Rows.uptoBulkAll ds ≤ B) →
    ∃ xs, DRs (cx0 W).im xs vs ∧ ArgsFit P B ts xs
  | [], vs, ds, ps, h, _, _, _ => by
    cases vs <;> cases ds <;> simp only [DataW.TrodAll] at h
    exact ⟨[], rfl, rfl⟩
  | t :: ts, vs, ds, ps, h, hv, hs, hB => by
    cases vs with
    | nil => simp only [DataW.TrodAll] at h
    | cons v vs =>
      cases ds with
      | nil => simp only [DataW.TrodAll] at h
      | cons d ds =>
        simp only [DataW.TrodAll] at h
        obtain ⟨p, q, h1, h2, _⟩ := h
        simp only [Rows.uptoBulkAll] at hB
        obtain ⟨x, g1, g2⟩ := trod_arg h1 (hv 0 t v rfl rfl) (hs t (by simp)) (hB.imp id fun h => by omega)
        obtain ⟨xs, g3, g4⟩ := read_args h2 (fun j t' v' e1 e2 => hv (j + 1) t' v' (by simpa using e1) (by simpa using e2)) (fun t' ht => hs t' (by simp [ht])) (hB.imp id fun h => by omega)
        exact ⟨x :: xs, ⟨v, vs, rfl, g1, g3⟩, x, xs, rfl, g2, g4⟩

theorem trodAll_stays (hl : laidOutB P = true) {W' : World} (hb : Below W.heap.size W W') {sp : Nat → Bool} : ∀ {ts : List TypeId} {vs : List Value} {ds : List (DataW H)} {ps : List MemPlace}, DataW.TrodAll enc P W 0 (fun _ => true) true ts vs ds ps → (∀ t ∈ ts, P.readableRec t = true ∧ t < P.types.size) → (∀ x ∈ ps, x.block < W.heap.size) → (∀ x ∈ ps, sp x.block = true) → DataW.TrodAll enc P W' 0 sp true ts vs ds ps
  | [], vs, ds, ps, h, _, _, _ => by
    cases vs <;> cases ds <;> simp only [DataW.TrodAll] at h ⊢ <;> exact h
  | t :: ts, vs, ds, ps, h, hr, hlt, hsp => by
    cases vs with
    | nil => simp only [DataW.TrodAll] at h
    | cons v vs =>
      cases ds with
      | nil => simp only [DataW.TrodAll] at h
      | cons d ds =>
        simp only [DataW.TrodAll] at h ⊢
        obtain ⟨p, q, h1, h2, rfl⟩ := h
        refine ⟨p, q, WideElems.Trod_stays hl (hr t (by simp)).1 (hr t (by simp)).2 h1 (fun x hx => hb.same (hlt x (by simp [hx]))) (fun x hx => hsp x (by simp [hx])), trodAll_stays hl hb h2 (fun t' ht => hr t' (by simp [ht])) (fun x hx => hlt x (by simp [hx])) (fun x hx => hsp x (by simp [hx])), rfl⟩

/-- A LAW's CALL, from arguments that can be read. -/
theorem law_calls {f : FuncId} {fn : Func} {s : ChangeSpec} {t : TypeId} {apart fresh handsOn again : Bool} {B b0 : Nat} (hl : laidOutB P = true) (hp : ∀ t ∈ fn.params.toList, (shapes P 12 t).isSome = true ∧ P.readableRec t = true ∧ t < P.types.size)
    (hv : s.vars = []) (hr : fn.resultTypes = #[t]) (ht : P.underlying t = some .bool) (law : ∀ xs, ArgsFit P B fn.params.toList xs → callA P f (xs.map .d) [] fun r _ => r = .d (.bool true))
    {args : Array Value} {ds gs : List (DataW H)} {before : List MemPlace} (hval : ∀ (j : Nat) t v, fn.params[j]? = some t → args[j]? = some v → Value.okWide P W .any b0 t v)
    (hW : DataW.Whole enc P fn.params.toList s.vars apart W args.toList ds gs before) (hs : (s.fn H ds).results = [.lit (.bool true)]) (ha : (s.fn H ds).args = ds) (hg : (s.fn H ds).vars = []) (hB : maxLen ≤ B ∨ Rows.uptoBulkAll ds ≤ B) (hG : Glob (cx0 W) := by intro g cs e; simp [globs] at e) :
    Calls P f args W fun e W' => ∃ v, e = .returned v ∧ s.post enc P fn apart fresh handsOn again W args v W' := by
  have hW' := hW
  obtain ⟨p, q, hA, hV, rfl, hfz, hnd⟩ := hW
  rw [hv] at hV
  obtain ⟨rfl, rfl⟩ := trodVars_none hV
  rw [List.append_nil] at hW'
  obtain ⟨xs, g1, g2⟩ := read_args hA (fun j t v e1 e2 => hval j t v (by simpa using e1) (by simpa using e2)) (fun t ht => (hp t ht).1) hB
  have := bridge (law xs g2) W g1 hG
  rw [Array.toArray_toList] at this
  refine this.mono fun e W' ⟨he, hb⟩ => ?_
  subst he
  exact ⟨_, rfl, law_post hW' hv hr ht hs ha hg (fun sp hsp => trodAll_stays hl hb hA (fun t ht => (hp t ht).2) (fun x hx => hW'.lt x hx) hsp) hb⟩
end
end Go.Proofs.YteafabpedfgedaaGreatDoor.Am
