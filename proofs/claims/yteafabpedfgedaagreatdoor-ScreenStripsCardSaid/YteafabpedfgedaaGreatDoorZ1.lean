/- Links are stripped: what Strip gives, and the laws about it. Plain Lean. -/
import Derived.Lib.SpaceUEq
import Derived.Laws.RangeAny
section
set_option linter.unusedSimpArgs false
set_option linter.unusedVariables false
namespace Go.Proofs.YteafabpedfgedaaGreatDoor.Am
open Go Go.Proofs

def isSp (c : UInt8) : Bool := c = 32 || c = 9 || c = 10
def lkA : List UInt8 := [104, 116, 116, 112, 58, 47, 47]
def lkB : List UInt8 := [104, 116, 116, 112, 115, 58, 47, 47]
def lnk (s : List UInt8) : Bool := lkA.isPrefixOf s || lkB.isPrefixOf s
/-- The text without its links; the flag says that a link is being left out. -/
def stripL : Bool → List UInt8 → List UInt8
  | _, [] => []
  | true, c :: s => if isSp c then c :: stripL false s else stripL true s
  | false, c :: s => if lnk (c :: s) then stripL true s else c :: stripL false s

def noSp (q : List UInt8) : Prop := ∀ c ∈ q, isSp c = false
theorem noSp_lkA : noSp lkA := by unfold noSp; decide
theorem noSp_lkB : noSp lkB := by unfold noSp; decide

theorem strip_true_pre : ∀ (s q : List UInt8), noSp q → q <+: stripL true s → q = []
  | [], q, _, h => by simpa [stripL] using h
  | c :: s, q, hq, h => by
    rw [stripL] at h
    split at h
    · rename_i hc
      cases q with
      | nil => rfl
      | cons d q =>
        obtain ⟨t, ht⟩ := h
        have : d = c := by simpa using congrArg List.head? ht
        subst this
        have := hq d (by simp)
        rw [hc] at this; cases this
    · exact strip_true_pre s q hq h
theorem strip_false_pre : ∀ (s q : List UInt8), noSp q → q <+: stripL false s → q <+: s
  | [], q, _, h => by simpa [stripL] using h
  | c :: s, q, hq, h => by
    rw [stripL] at h
    split at h
    · rw [strip_true_pre s q hq h]; exact List.nil_prefix
    · cases q with
      | nil => exact List.nil_prefix
      | cons d q =>
        rw [List.cons_prefix_cons] at h ⊢
        exact ⟨h.1, strip_false_pre s q (fun x hx => hq x (by simp [hx])) h.2⟩
theorem lnk_iff (s : List UInt8) : lnk s = true ↔ lkA <+: s ∨ lkB <+: s := by
  simp [lnk, List.isPrefixOf_iff_prefix]
theorem lnk_sp {c : UInt8} (h : isSp c = true) (s : List UInt8) : lnk (c :: s) = false := by
  cases e : lnk (c :: s) with
  | false => rfl
  | true =>
    rw [lnk_iff] at e
    have : c = 104 := by
      rcases e with e | e
      · rw [lkA, List.cons_prefix_cons] at e; exact e.1.symm
      · rw [lkB, List.cons_prefix_cons] at e; exact e.1.symm
    subst this
    exact absurd h (by decide)

/-- No link begins in s. -/
def Clean : List UInt8 → Prop
  | [] => True
  | c :: s => lnk (c :: s) = false ∧ Clean s
theorem clean_strip : ∀ (b : Bool) (s : List UInt8), Clean (stripL b s)
  | true, [] => trivial
  | false, [] => trivial
  | true, c :: s => by
    rw [stripL]
    split
    · rename_i h; exact ⟨lnk_sp h _, clean_strip false s⟩
    · exact clean_strip true s
  | false, c :: s => by
    rw [stripL]
    split
    · exact clean_strip true s
    · rename_i h
      refine ⟨?_, clean_strip false s⟩
      cases e : lnk (c :: stripL false s) with
      | false => rfl
      | true =>
        refine (h ?_).elim
        rw [lnk_iff] at e ⊢
        rcases e with e | e
        · left; rw [lkA, List.cons_prefix_cons] at e ⊢
          exact ⟨e.1, strip_false_pre s _ (by unfold noSp; decide) e.2⟩
        · right; rw [lkB, List.cons_prefix_cons] at e ⊢
          exact ⟨e.1, strip_false_pre s _ (by unfold noSp; decide) e.2⟩
theorem strip_clean : ∀ {s : List UInt8}, Clean s → stripL false s = s
  | [], _ => rfl
  | c :: s, h => by
    rw [stripL, if_neg (by rw [h.1]; decide), strip_clean h.2]
theorem strip_strip (s : List UInt8) : stripL false (stripL false s) = stripL false s := strip_clean (clean_strip _ s)
theorem strip_len : ∀ (b : Bool) (s : List UInt8), (stripL b s).length ≤ s.length
  | true, [] => Nat.le_refl _
  | false, [] => Nat.le_refl _
  | true, c :: s => by
    rw [stripL]
    split
    · simpa using strip_len false s
    · exact Nat.le_succ_of_le (strip_len true s)
  | false, c :: s => by
    rw [stripL]
    split
    · exact Nat.le_succ_of_le (strip_len true s)
    · simpa using strip_len false s

theorem pre_gap {q a r : List UInt8} {g : UInt8} (hq : noSp q) (hg : isSp g = true) (h : q <+: a ++ g :: r) : q <+: a := by
  induction a generalizing q with
  | nil =>
    cases q with
    | nil => exact List.nil_prefix
    | cons d q =>
      rw [List.nil_append, List.cons_prefix_cons] at h
      have := hq d (by simp)
      rw [h.1, hg] at this; cases this
  | cons c a ih =>
    cases q with
    | nil => exact List.nil_prefix
    | cons d q =>
      rw [List.cons_append, List.cons_prefix_cons] at h
      rw [List.cons_prefix_cons]
      exact ⟨h.1, ih (fun x hx => hq x (by simp [hx])) h.2⟩
theorem lnk_gap {a r : List UInt8} {g : UInt8} (hg : isSp g = true) : lnk (a ++ g :: r) = lnk a := by
  rw [Bool.eq_iff_iff, lnk_iff, lnk_iff]
  constructor
  · rintro (h | h)
    · exact .inl (pre_gap noSp_lkA hg h)
    · exact .inr (pre_gap noSp_lkB hg h)
  · rintro (h | h)
    · exact .inl (h.trans (List.prefix_append _ _))
    · exact .inr (h.trans (List.prefix_append _ _))
theorem strip_gap {g : UInt8} (hg : isSp g = true) (r : List UInt8) : ∀ (b : Bool) (a : List UInt8), stripL b (a ++ g :: r) = stripL b a ++ g :: stripL false r
  | true, [] => by simp [stripL, hg]
  | false, [] => by
    simp only [List.nil_append, stripL]
    rw [if_neg (by rw [lnk_sp hg]; decide)]
  | true, c :: a => by
    rw [List.cons_append, stripL, stripL]
    split
    · rw [strip_gap hg r false a]; rfl
    · exact strip_gap hg r true a
  | false, c :: a => by
    rw [List.cons_append, stripL, stripL]
    have := lnk_gap (a := c :: a) (r := r) hg
    rw [List.cons_append] at this
    rw [this]
    split
    · exact strip_gap hg r true a
    · rw [strip_gap hg r false a]; rfl

/-! ### what 'has' tells -/
def hasW (s t : List UInt8) : Bool := match s with
  | [] => t.isPrefixOf []
  | c :: s => t.isPrefixOf (c :: s) || hasW s t
theorem has_clean : ∀ {s : List UInt8}, Clean s → hasW s lkA = false ∧ hasW s lkB = false
  | [], _ => by decide
  | c :: s, h => by
    have h1 := h.1
    simp only [lnk, Bool.or_eq_false_iff] at h1
    have := has_clean h.2
    simp [hasW, h1, this]
def lkH : List UInt8 := [104, 116, 116, 112]
theorem clean_has : ∀ {s : List UInt8}, hasW s lkH = false → Clean s
  | [], _ => trivial
  | c :: s, h => by
    simp only [hasW, Bool.or_eq_false_iff] at h
    refine ⟨?_, clean_has h.2⟩
    cases e : lnk (c :: s) with
    | false => rfl
    | true =>
      have h1 := h.1
      rw [lnk_iff] at e
      have : lkH <+: c :: s := by
        rcases e with e | e
        · exact (show lkH <+: lkA from ⟨[58, 47, 47], rfl⟩).trans e
        · exact (show lkH <+: lkB from ⟨[115, 58, 47, 47], rfl⟩).trans e
      rw [← List.isPrefixOf_iff_prefix] at this
      rw [this] at h1; cases h1
theorem hasW_iff (t : List UInt8) : ∀ s : List UInt8, hasW s t = true ↔ ∃ i, i ≤ s.length ∧ t <+: s.drop i
  | [] => by
    simp only [hasW, List.isPrefixOf_iff_prefix, List.length_nil, Nat.le_zero_eq]
    exact ⟨fun h => ⟨0, rfl, h⟩, fun ⟨i, hi, h⟩ => by subst hi; exact h⟩
  | c :: s => by
    simp only [hasW, Bool.or_eq_true, hasW_iff t s, List.isPrefixOf_iff_prefix]
    constructor
    · rintro (h | ⟨i, hi, h⟩)
      · exact ⟨0, Nat.zero_le _, h⟩
      · exact ⟨i + 1, by simpa using hi, h⟩
    · rintro ⟨i, hi, h⟩
      cases i with
      | zero => exact .inl h
      | succ i => exact .inr ⟨i, by simpa using hi, h⟩
end Go.Proofs.YteafabpedfgedaaGreatDoor.Am
end
/- What the runes of a text are to its links. Plain Lean. -/
section
set_option linter.unusedSimpArgs false
set_option linter.unusedVariables false
namespace Go.Proofs.YteafabpedfgedaaGreatDoor.Am
open Go Go.Proofs

theorem strip_skip {x : List UInt8} (t : List UInt8) (h : ∀ c ∈ x, isSp c = false) : stripL true (x ++ t) = stripL true t := by
  induction x with
  | nil => rfl
  | cons c x ih =>
    rw [List.cons_append, stripL, if_neg (by rw [h c (by simp)]; decide)]
    exact ih fun d hd => h d (by simp [hd])
theorem lnk_head {c : UInt8} (h : c ≠ 104) (s : List UInt8) : lnk (c :: s) = false := by
  cases e : lnk (c :: s) with
  | false => rfl
  | true =>
    rw [lnk_iff] at e
    rcases e with e | e
    · rw [lkA, List.cons_prefix_cons] at e; exact (h e.1.symm).elim
    · rw [lkB, List.cons_prefix_cons] at e; exact (h e.1.symm).elim
theorem strip_keep {x : List UInt8} (t : List UInt8) (h : ∀ c ∈ x, c ≠ 104) : stripL false (x ++ t) = x ++ stripL false t := by
  induction x with
  | nil => rfl
  | cons c x ih =>
    rw [List.cons_append, stripL, if_neg (by rw [lnk_head (h c (by simp))]; decide), ih fun d hd => h d (by simp [hd])]
    rfl

/-- A rune's bytes: the first, and what continues it. -/
theorem rune_bytes (s : ByteArray) (pos : Nat) (h : pos < s.data.toList.length) : ∃ c x, s.data.toList.drop pos = c :: (x ++ s.data.toList.drop (pos + (Utf8.decode s pos).2)) ∧ x.length + 1 = (Utf8.decode s pos).2 ∧ (∀ d ∈ x, 128 ≤ d.toNat) ∧
    ((c.toNat < 128 ∧ (Utf8.decode s pos).1 = c.toNat ∧ x = []) ∨ (128 ≤ c.toNat ∧ 128 ≤ (Utf8.decode s pos).1)) := by
  have hs : s.size = s.data.toList.length := by rw [Array.length_toList]; rfl
  have hp : pos < s.size := by rw [hs]; exact h
  have hc : s[pos]'hp = s.data.toList[pos] := by
    simp [ByteArray.getElem_eq_getElem_data]
  have hd : s.data.toList.drop pos = s.data.toList[pos] :: s.data.toList.drop (pos + 1) := List.drop_eq_getElem_cons h
  by_cases ha : (s[pos]'hp).toNat < 128
  · have e := decode_ascii s pos hp ha
    refine ⟨s.data.toList[pos], [], ?_, ?_, by simp, .inl ⟨?_, ?_, rfl⟩⟩
    · rw [e]; exact hd
    · rw [e]; rfl
    · rw [← hc]; exact ha
    · rw [e, hc]
  · obtain ⟨h1, h2⟩ := decode_high s pos hp (by omega)
    have hN := Lib.decode_N s pos
    have cs := Lib.decodeN_conts (s.data.toList.length - pos) (s.data.toList.getD pos 0).toNat (s.data.toList.getD (pos + 1) 0).toNat (s.data.toList.getD (pos + 2) 0).toNat (s.data.toList.getD (pos + 3) 0).toNat
    rw [← hN] at cs
    obtain ⟨c2, c3, c4, c5⟩ := cs
    have hle : pos + (Utf8.decode s pos).2 ≤ s.data.toList.length := by omega
    refine ⟨s.data.toList[pos], (s.data.toList.drop (pos + 1)).take ((Utf8.decode s pos).2 - 1), ?_, ?_, ?_, .inr ⟨by rw [← hc]; omega, h1⟩⟩
    · rw [hd]
      congr 1
      have : s.data.toList.drop (pos + (Utf8.decode s pos).2) = (s.data.toList.drop (pos + 1)).drop ((Utf8.decode s pos).2 - 1) := by
        rw [List.drop_drop]; congr 1; omega
      rw [this, List.take_append_drop]
    · rw [List.length_take, List.length_drop]; omega
    · intro d hd
      obtain ⟨j, hj, e⟩ := List.mem_iff_getElem.1 hd
      rw [List.length_take, List.length_drop] at hj
      rw [List.getElem_take, List.getElem_drop] at e
      have hg : ∀ k, k = pos + 1 + j → (s.data.toList.getD k 0) = d := fun k hk => by
        subst hk
        rw [List.getD, List.getElem?_eq_getElem (by omega)]
        exact e
      have hj3 : j = 0 ∨ j = 1 ∨ j = 2 := by omega
      rcases hj3 with rfl | rfl | rfl
      · have := (c2 (by omega)).1; rw [hg (pos + 1) rfl] at this; omega
      · have := (c3 (by omega)).1; rw [hg (pos + 2) rfl] at this; omega
      · have := (c4 (by omega)).1; rw [hg (pos + 3) rfl] at this; omega

theorem isSp_iff {c : UInt8} : isSp c = true ↔ c.toNat = 32 ∨ c.toNat = 9 ∨ c.toNat = 10 := by
  simp only [isSp, Bool.or_eq_true, decide_eq_true_eq, or_assoc]
  constructor
  · rintro (rfl | rfl | rfl) <;> decide
  · rintro (h | h | h)
    · exact .inl (UInt8.toNat_inj.1 h)
    · exact .inr (.inl (UInt8.toNat_inj.1 h))
    · exact .inr (.inr (UInt8.toNat_inj.1 h))

/-- A round of Strip. -/
theorem strip_rune (s : ByteArray) (pos : Nat) (h : pos < s.data.toList.length) :
    (((Utf8.decode s pos).1 = 32 ∨ (Utf8.decode s pos).1 = 9 ∨ (Utf8.decode s pos).1 = 10) → (Utf8.decode s pos).2 = 1 ∧ lnk (s.data.toList.drop pos) = false ∧ ∀ b, stripL b (s.data.toList.drop pos) = (s.data.toList.drop pos).take 1 ++ stripL false (s.data.toList.drop (pos + 1))) ∧
    (¬ ((Utf8.decode s pos).1 = 32 ∨ (Utf8.decode s pos).1 = 9 ∨ (Utf8.decode s pos).1 = 10) → stripL true (s.data.toList.drop pos) = stripL true (s.data.toList.drop (pos + (Utf8.decode s pos).2)) ∧
      (lnk (s.data.toList.drop pos) = true → stripL false (s.data.toList.drop pos) = stripL true (s.data.toList.drop (pos + (Utf8.decode s pos).2))) ∧
      (lnk (s.data.toList.drop pos) = false → stripL false (s.data.toList.drop pos) = (s.data.toList.drop pos).take (Utf8.decode s pos).2 ++ stripL false (s.data.toList.drop (pos + (Utf8.decode s pos).2)))) := by
  obtain ⟨c, x, h1, h2, h3, h4⟩ := rune_bytes s pos h
  have hsp : isSp c = true ↔ ((Utf8.decode s pos).1 = 32 ∨ (Utf8.decode s pos).1 = 9 ∨ (Utf8.decode s pos).1 = 10) := by
    rw [isSp_iff]
    rcases h4 with ⟨_, e, _⟩ | ⟨e1, e2⟩
    · rw [e]
    · omega
  refine ⟨fun hs => ?_, fun hs => ?_⟩
  · have hc := hsp.2 hs
    have hx : x = [] := by
      rcases h4 with ⟨_, _, e⟩ | ⟨e1, e2⟩
      · exact e
      · omega
    subst hx
    have h2' : (Utf8.decode s pos).2 = 1 := by simpa using h2.symm
    rw [h2'] at h1
    rw [List.nil_append] at h1
    rw [h1]
    refine ⟨h2', lnk_sp hc _, fun b => ?_⟩
    cases b with
    | true => rw [stripL, if_pos hc]; rfl
    | false => rw [stripL, if_neg (by rw [lnk_sp hc]; decide)]; rfl
  · have hc : isSp c = false := by
      cases e : isSp c with
      | false => rfl
      | true => exact (hs (hsp.1 e)).elim
    have hxs : ∀ d ∈ x, isSp d = false := fun d hd => by
      have := h3 d hd
      cases e : isSp d with
      | false => rfl
      | true => rw [isSp_iff] at e; omega
    have hxh : ∀ d ∈ x, d ≠ 104 := fun d hd e => by
      have := h3 d hd
      rw [e] at this
      exact absurd this (by decide)
    have ht : (c :: (x ++ s.data.toList.drop (pos + (Utf8.decode s pos).2))).take (Utf8.decode s pos).2 = c :: x := by
      rw [← h2, List.take_succ_cons, List.take_left]
    generalize hr : s.data.toList.drop (pos + (Utf8.decode s pos).2) = r at h1 ht ⊢
    rw [h1]
    refine ⟨?_, fun hl => ?_, fun hl => ?_⟩
    · rw [stripL, if_neg (by rw [hc]; decide), strip_skip r hxs]
    · rw [stripL, if_pos hl, strip_skip r hxs]
    · rw [stripL, if_neg (by rw [hl]; decide), strip_keep r hxh, ht]
      rfl

/-! ### what is carried from rune to rune -/
structure SInv (l acc : List UInt8) (lk : Bool) (p0 pos : Nat) : Prop where
  h0 : p0 ≤ pos
  h1 : pos ≤ l.length
  len : acc.length + (if lk then 0 else pos - p0) ≤ pos
  eq : acc ++ (if lk then [] else (l.drop p0).take (pos - p0)) ++ stripL lk (l.drop pos) = stripL false l
theorem SInv.start (l : List UInt8) : SInv l [] false 0 0 := ⟨Nat.le_refl _, Nat.zero_le _, by simp, by simp⟩
theorem take_on {l : List UInt8} {p0 pos k : Nat} (h : p0 ≤ pos) : (l.drop p0).take (pos + k - p0) = (l.drop p0).take (pos - p0) ++ (l.drop pos).take k := by
  rw [show pos + k - p0 = (pos - p0) + k by omega, List.take_add, List.drop_drop, show p0 + (pos - p0) = pos by omega]
theorem rune_le (s : ByteArray) (pos : Nat) (h : pos < s.data.toList.length) : 1 ≤ (Utf8.decode s pos).2 ∧ pos + (Utf8.decode s pos).2 ≤ s.data.toList.length := by
  obtain ⟨c, x, h1, h2, _⟩ := rune_bytes s pos h
  have := congrArg List.length h1
  simp only [List.length_drop, List.length_cons, List.length_append] at this
  omega
theorem SInv.sp {s : ByteArray} {acc : List UInt8} {lk : Bool} {p0 pos : Nat} (h : SInv s.data.toList acc lk p0 pos) (hp : pos < s.data.toList.length) (hc : (Utf8.decode s pos).1 = 32 ∨ (Utf8.decode s pos).1 = 9 ∨ (Utf8.decode s pos).1 = 10) :
    SInv s.data.toList acc false (if lk then pos else p0) (pos + (Utf8.decode s pos).2) := by
  obtain ⟨e1, e2, e3⟩ := (strip_rune s pos hp).1 hc
  obtain ⟨h0, h1, h2, h3⟩ := h
  rw [e1]
  cases lk with
  | true =>
    simp only [if_true] at h2 h3 ⊢
    refine ⟨by omega, by omega, by simp; omega, ?_⟩
    rw [e3] at h3
    rw [← h3]
    simp
  | false =>
    simp only [Bool.false_eq_true, if_false] at h2 h3 ⊢
    refine ⟨by omega, by omega, by simp; omega, ?_⟩
    rw [e3] at h3
    rw [← h3]
    simp only [Bool.false_eq_true, if_false, take_on h0, List.append_assoc]
theorem SInv.inn {s : ByteArray} {acc : List UInt8} {p0 pos : Nat} (h : SInv s.data.toList acc true p0 pos) (hp : pos < s.data.toList.length) (hc : ¬ ((Utf8.decode s pos).1 = 32 ∨ (Utf8.decode s pos).1 = 9 ∨ (Utf8.decode s pos).1 = 10)) :
    SInv s.data.toList acc true p0 (pos + (Utf8.decode s pos).2) := by
  obtain ⟨e1, e2, e3⟩ := (strip_rune s pos hp).2 hc
  have hw := rune_le s pos hp
  obtain ⟨h0, h1, h2, h3⟩ := h
  simp only [if_true] at h2 h3
  refine ⟨by omega, by omega, by simp; omega, ?_⟩
  rw [e1] at h3
  simpa using h3
theorem SInv.link {s : ByteArray} {acc : List UInt8} {p0 pos : Nat} (h : SInv s.data.toList acc false p0 pos) (hp : pos < s.data.toList.length) (hc : ¬ ((Utf8.decode s pos).1 = 32 ∨ (Utf8.decode s pos).1 = 9 ∨ (Utf8.decode s pos).1 = 10)) (hl : lnk (s.data.toList.drop pos) = true) :
    SInv s.data.toList (acc ++ (s.data.toList.drop p0).take (pos - p0)) true p0 (pos + (Utf8.decode s pos).2) := by
  obtain ⟨e1, e2, e3⟩ := (strip_rune s pos hp).2 hc
  have hw := rune_le s pos hp
  obtain ⟨h0, h1, h2, h3⟩ := h
  simp only [Bool.false_eq_true, if_false] at h2 h3
  refine ⟨by omega, by omega, by simp; omega, ?_⟩
  rw [e2 hl] at h3
  simpa using h3
theorem SInv.no {s : ByteArray} {acc : List UInt8} {p0 pos : Nat} (h : SInv s.data.toList acc false p0 pos) (hp : pos < s.data.toList.length) (hc : ¬ ((Utf8.decode s pos).1 = 32 ∨ (Utf8.decode s pos).1 = 9 ∨ (Utf8.decode s pos).1 = 10)) (hl : lnk (s.data.toList.drop pos) = false) :
    SInv s.data.toList acc false p0 (pos + (Utf8.decode s pos).2) := by
  obtain ⟨e1, e2, e3⟩ := (strip_rune s pos hp).2 hc
  have hw := rune_le s pos hp
  obtain ⟨h0, h1, h2, h3⟩ := h
  simp only [Bool.false_eq_true, if_false] at h2 h3
  refine ⟨by omega, by omega, by simp; omega, ?_⟩
  rw [e3 hl] at h3
  rw [← h3]
  simp only [Bool.false_eq_true, if_false, take_on h0, List.append_assoc]
theorem SInv.fin {s : ByteArray} {acc : List UInt8} {lk : Bool} {p0 pos : Nat} (h : SInv s.data.toList acc lk p0 pos) (hp : ¬ pos < s.data.toList.length) : acc ++ (if lk then [] else s.data.toList.drop p0) = stripL false s.data.toList := by
  obtain ⟨h0, h1, h2, h3⟩ := h
  rw [List.drop_of_length_le (i := pos) (by omega)] at h3
  rw [← h3]
  cases lk with
  | true => simp [stripL]
  | false =>
    simp only [Bool.false_eq_true, if_false, stripL, List.append_nil]
    rw [List.take_of_length_le (by rw [List.length_drop]; omega)]
end Go.Proofs.YteafabpedfgedaaGreatDoor.Am
end
