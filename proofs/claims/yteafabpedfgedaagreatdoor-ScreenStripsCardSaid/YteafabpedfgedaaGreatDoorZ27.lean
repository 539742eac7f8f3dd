/- slices.Sorted over the keys of a map, by the shelf's contracts: the layings in plain words (lay.py), and the lift. -/
import Derived.Test.YteafabpedfgedaaGreatDoorZ21
import Derived.Test.YteafabpedfgedaaGreatDoorZ26
import Derived.Shelf.SlIter.Nil
import Derived.Shelf.SortM.Plain
import Derived.Shelf.SortM.SortNone
section
set_option linter.unusedSimpArgs false
set_option linter.unusedVariables false
set_option maxRecDepth 10000
set_option maxHeartbeats 2000000
namespace Go.Proofs.YteafabpedfgedaaGreatDoor.Am
open Go Go.Proofs Go.RowKit Go.Maps Go.Sort Go.Shelf
open Go.WideElems (Fit rd rg)

def strM (es : List (W × V × Nat)) : List (D × V × Nat) := es.map fun e => (.str e.1, e.2.1, e.2.2)
def keysA_ren : Go.Shelf.Ren := ⟨fun | 7 => 293 | 10 => 358 | n => n, fun | 23 => 135 | 26 => 9 | 3 => 4 | 28 => 155 | 0 => 0 | 27 => 154 | 33 => 189 | 4 => 4 | n => n, fun | n => n⟩
theorem keysA : SlLaysZ.n7 Tryz.prog keysA_ren := {
  mixed := (by kernel_rfl),
  f7 := ⟨Tryz.f293.name, by decide, Tryz.func293.trans (congrArg some (by kernel_rfl))⟩,
  f10 := ⟨Tryz.f358.name, by decide, Tryz.func358.trans (congrArg some (by kernel_rfl))⟩,
  t0 := Tryz.underlying0,
  a0 := Tryz.isAgg0,
  z0 := Tryz.sizeOf0,
  v0 := Tryz.zeroValue0,
  t4 := Tryz.underlying4,
  a4 := Tryz.isAgg4,
  z4 := Tryz.sizeOf4,
  v4 := Tryz.zeroValue4,
  t23 := Tryz.underlying135,
  a23 := Tryz.isAgg135,
  z23 := Tryz.sizeOf135,
  v23 := Tryz.zeroValue135,
  t26 := Tryz.underlying9,
  a26 := Tryz.isAgg9,
  z26 := Tryz.sizeOf9,
  v26 := Tryz.zeroValue9,
  t27 := Tryz.underlying154,
  a27 := Tryz.isAgg154,
  z27 := Tryz.sizeOf154,
  v27 := Tryz.zeroValue154,
  t28 := Tryz.underlying155,
  a28 := Tryz.isAgg155,
  z28 := Tryz.sizeOf155,
  v28 := Tryz.zeroValue155,
  t33 := Tryz.underlying189,
  a33 := Tryz.isAgg189,
  z33 := Tryz.sizeOf189,
  v33 := Tryz.zeroValue189 }
def keysB_ren : Go.Shelf.Ren := ⟨fun | 7 => 290 | 10 => 356 | n => n, fun | 23 => 122 | 26 => 9 | 3 => 3 | 28 => 155 | 0 => 0 | 27 => 154 | 33 => 189 | 4 => 4 | n => n, fun | n => n⟩
theorem keysB : SlLaysZ.n7 Tryz.prog keysB_ren := {
  mixed := (by kernel_rfl),
  f7 := ⟨Tryz.f290.name, by decide, Tryz.func290.trans (congrArg some (by kernel_rfl))⟩,
  f10 := ⟨Tryz.f356.name, by decide, Tryz.func356.trans (congrArg some (by kernel_rfl))⟩,
  t0 := Tryz.underlying0,
  a0 := Tryz.isAgg0,
  z0 := Tryz.sizeOf0,
  v0 := Tryz.zeroValue0,
  t4 := Tryz.underlying4,
  a4 := Tryz.isAgg4,
  z4 := Tryz.sizeOf4,
  v4 := Tryz.zeroValue4,
  t23 := Tryz.underlying122,
  a23 := Tryz.isAgg122,
  z23 := Tryz.sizeOf122,
  v23 := Tryz.zeroValue122,
  t26 := Tryz.underlying9,
  a26 := Tryz.isAgg9,
  z26 := Tryz.sizeOf9,
  v26 := Tryz.zeroValue9,
  t27 := Tryz.underlying154,
  a27 := Tryz.isAgg154,
  z27 := Tryz.sizeOf154,
  v27 := Tryz.zeroValue154,
  t28 := Tryz.underlying155,
  a28 := Tryz.isAgg155,
  z28 := Tryz.sizeOf155,
  v28 := Tryz.zeroValue155,
  t33 := Tryz.underlying189,
  a33 := Tryz.isAgg189,
  z33 := Tryz.sizeOf189,
  v33 := Tryz.zeroValue189 }
def keysC_ren : Go.Shelf.Ren := ⟨fun | 7 => 78 | 10 => 144 | n => n, fun | 23 => 146 | 26 => 9 | 3 => 150 | 28 => 155 | 0 => 0 | 27 => 154 | 33 => 189 | 4 => 4 | n => n, fun | n => n⟩
theorem keysC : SlLaysZ.n7 Tryz.prog keysC_ren := {
  mixed := (by kernel_rfl),
  f7 := ⟨Tryz.f78.name, by decide, Tryz.func78.trans (congrArg some (by kernel_rfl))⟩,
  f10 := ⟨Tryz.f144.name, by decide, Tryz.func144.trans (congrArg some (by kernel_rfl))⟩,
  t0 := Tryz.underlying0,
  a0 := Tryz.isAgg0,
  z0 := Tryz.sizeOf0,
  v0 := Tryz.zeroValue0,
  t4 := Tryz.underlying4,
  a4 := Tryz.isAgg4,
  z4 := Tryz.sizeOf4,
  v4 := Tryz.zeroValue4,
  t23 := Tryz.underlying146,
  a23 := Tryz.isAgg146,
  z23 := Tryz.sizeOf146,
  v23 := Tryz.zeroValue146,
  t26 := Tryz.underlying9,
  a26 := Tryz.isAgg9,
  z26 := Tryz.sizeOf9,
  v26 := Tryz.zeroValue9,
  t27 := Tryz.underlying154,
  a27 := Tryz.isAgg154,
  z27 := Tryz.sizeOf154,
  v27 := Tryz.zeroValue154,
  t28 := Tryz.underlying155,
  a28 := Tryz.isAgg155,
  z28 := Tryz.sizeOf155,
  v28 := Tryz.zeroValue155,
  t33 := Tryz.underlying189,
  a33 := Tryz.isAgg189,
  z33 := Tryz.sizeOf189,
  v33 := Tryz.zeroValue189 }
def sortedA_ren : Go.Shelf.Ren := ⟨fun | 6 => 77 | 8 => 143 | 9 => 23 | 11 => 236 | 13 => 60 | 12 => 59 | 23 => 117 | 24 => 118 | 14 => 108 | 15 => 109 | 16 => 110 | 17 => 111 | 18 => 112 | 19 => 113 | 20 => 114 | 21 => 115 | 22 => 116 | 25 => 206 | 26 => 207 | 27 => 208 | 28 => 209 | 29 => 210 | 30 => 211 | 31 => 310 | n => n, fun | 26 => 9 | 28 => 155 | 24 => 24 | 0 => 0 | 3 => 3 | 37 => 119 | 48 => 185 | 50 => 218 | 4 => 4 | 40 => 211 | 39 => 210 | 45 => 84 | 5 => 5 | 9 => 9 | 51 => 313 | 55 => 317 | 57 => 410 | 58 => 244 | 33 => 189 | n => n, fun | n => n⟩
theorem sortedA : SlLaysZ.n6 Tryz.prog sortedA_ren := {
  mixed := (by kernel_rfl),
  f6 := ⟨Tryz.f77.name, by decide, Tryz.func77.trans (congrArg some (by kernel_rfl))⟩,
  f8 := ⟨Tryz.f143.name, by decide, Tryz.func143.trans (congrArg some (by kernel_rfl))⟩,
  f11 := ⟨Tryz.f236.name, by decide, Tryz.func236.trans (congrArg some (by kernel_rfl))⟩,
  t0 := Tryz.underlying0,
  a0 := Tryz.isAgg0,
  z0 := Tryz.sizeOf0,
  v0 := Tryz.zeroValue0,
  t24 := Tryz.underlying24,
  a24 := Tryz.isAgg24,
  z24 := Tryz.sizeOf24,
  v24 := Tryz.zeroValue24,
  t26 := Tryz.underlying9,
  a26 := Tryz.isAgg9,
  z26 := Tryz.sizeOf9,
  v26 := Tryz.zeroValue9,
  t28 := Tryz.underlying155,
  a28 := Tryz.isAgg155,
  z28 := Tryz.sizeOf155,
  v28 := Tryz.zeroValue155,
  i26 := (by kernel_rfl) }
def sortA_ren : Go.Shelf.Ren := ⟨fun | 6 => 23 | 8 => 60 | 9 => 59 | 19 => 117 | 20 => 118 | 21 => 108 | 22 => 109 | 23 => 110 | 24 => 111 | 25 => 112 | 26 => 113 | 27 => 114 | 28 => 115 | 29 => 116 | 36 => 206 | 31 => 207 | 32 => 208 | 37 => 209 | 38 => 210 | 39 => 211 | 41 => 310 | n => n, fun | 27 => 24 | 29 => 9 | 3 => 3 | 32 => 119 | 26 => 24 | 0 => 0 | 44 => 185 | 46 => 218 | 4 => 4 | 36 => 211 | 35 => 210 | 41 => 84 | 5 => 5 | 9 => 9 | 53 => 313 | 57 => 317 | 63 => 410 | 64 => 244 | n => n, fun | n => n⟩
theorem sortA : SlLaysM.n6 Tryz.prog sortA_ren := {
  mixed := (by kernel_rfl),
  f6 := ⟨Tryz.f23.name, by decide, Tryz.func23.trans (congrArg some (by kernel_rfl))⟩,
  f8 := Tryz.func60.trans (congrArg some (by kernel_rfl)),
  f9 := ⟨Tryz.f59.name, by decide, Tryz.func59.trans (congrArg some (by kernel_rfl))⟩,
  f19 := Tryz.func117.trans (congrArg some (by kernel_rfl)),
  f20 := Tryz.func118.trans (congrArg some (by kernel_rfl)),
  f21 := ⟨Tryz.f108.name, by decide, Tryz.func108.trans (congrArg some (by kernel_rfl))⟩,
  f22 := ⟨Tryz.f109.name, by decide, Tryz.func109.trans (congrArg some (by kernel_rfl))⟩,
  f23 := ⟨Tryz.f110.name, by decide, Tryz.func110.trans (congrArg some (by kernel_rfl))⟩,
  f24 := ⟨Tryz.f111.name, by decide, Tryz.func111.trans (congrArg some (by kernel_rfl))⟩,
  f25 := ⟨Tryz.f112.name, by decide, Tryz.func112.trans (congrArg some (by kernel_rfl))⟩,
  f26 := ⟨Tryz.f113.name, by decide, Tryz.func113.trans (congrArg some (by kernel_rfl))⟩,
  f27 := ⟨Tryz.f114.name, by decide, Tryz.func114.trans (congrArg some (by kernel_rfl))⟩,
  f28 := ⟨Tryz.f115.name, by decide, Tryz.func115.trans (congrArg some (by kernel_rfl))⟩,
  f29 := ⟨Tryz.f116.name, by decide, Tryz.func116.trans (congrArg some (by kernel_rfl))⟩,
  f31 := Tryz.func207.trans (congrArg some (by kernel_rfl)),
  f32 := Tryz.func208.trans (congrArg some (by kernel_rfl)),
  f36 := ⟨Tryz.f206.name, by decide, Tryz.func206.trans (congrArg some (by kernel_rfl))⟩,
  f37 := ⟨Tryz.f209.name, by decide, Tryz.func209.trans (congrArg some (by kernel_rfl))⟩,
  f38 := ⟨Tryz.f210.name, by decide, Tryz.func210.trans (congrArg some (by kernel_rfl))⟩,
  f39 := ⟨Tryz.f211.name, by decide, Tryz.func211.trans (congrArg some (by kernel_rfl))⟩,
  f41 := ⟨Tryz.f310.name, by decide, Tryz.func310.trans (congrArg some (by kernel_rfl))⟩,
  t0 := Tryz.underlying0,
  a0 := Tryz.isAgg0,
  z0 := Tryz.sizeOf0,
  v0 := Tryz.zeroValue0,
  t3 := Tryz.underlying3,
  a3 := Tryz.isAgg3,
  z3 := Tryz.sizeOf3,
  v3 := Tryz.zeroValue3,
  t4 := Tryz.underlying4,
  a4 := Tryz.isAgg4,
  z4 := Tryz.sizeOf4,
  v4 := Tryz.zeroValue4,
  t5 := Tryz.underlying5,
  a5 := Tryz.isAgg5,
  z5 := Tryz.sizeOf5,
  v5 := Tryz.zeroValue5,
  t9 := Tryz.underlying9,
  a9 := Tryz.isAgg9,
  z9 := Tryz.sizeOf9,
  v9 := Tryz.zeroValue9,
  t26 := Tryz.underlying24,
  a26 := Tryz.isAgg24,
  z26 := Tryz.sizeOf24,
  v26 := Tryz.zeroValue24,
  t27 := Tryz.underlying24,
  a27 := Tryz.isAgg24,
  z27 := Tryz.sizeOf24,
  v27 := Tryz.zeroValue24,
  t29 := Tryz.underlying9,
  a29 := Tryz.isAgg9,
  z29 := Tryz.sizeOf9,
  v29 := Tryz.zeroValue9,
  t32 := Tryz.underlying119,
  a32 := Tryz.isAgg119,
  z32 := Tryz.sizeOf119,
  v32 := Tryz.zeroValue119,
  t35 := Tryz.underlying210,
  a35 := Tryz.isAgg210,
  z35 := Tryz.sizeOf210,
  v35 := Tryz.zeroValue210,
  t36 := Tryz.underlying211,
  a36 := Tryz.isAgg211,
  z36 := Tryz.sizeOf211,
  v36 := Tryz.zeroValue211,
  t41 := Tryz.underlying84,
  a41 := Tryz.isAgg84,
  z41 := Tryz.sizeOf84,
  v41 := Tryz.zeroValue84,
  t44 := Tryz.underlying185,
  a44 := Tryz.isAgg185,
  z44 := Tryz.sizeOf185,
  v44 := Tryz.zeroValue185,
  t46 := Tryz.underlying218,
  a46 := Tryz.isAgg218,
  z46 := Tryz.sizeOf218,
  v46 := Tryz.zeroValue218,
  t53 := Tryz.underlying313,
  a53 := Tryz.isAgg313,
  z53 := Tryz.sizeOf313,
  v53 := Tryz.zeroValue313,
  t57 := Tryz.underlying317,
  a57 := Tryz.isAgg317,
  z57 := Tryz.sizeOf317,
  v57 := Tryz.zeroValue317,
  t63 := Tryz.underlying410,
  a63 := Tryz.isAgg410,
  z63 := Tryz.sizeOf410,
  v63 := Tryz.zeroValue410,
  t64 := Tryz.underlying244,
  a64 := Tryz.isAgg244,
  z64 := Tryz.sizeOf244,
  v64 := Tryz.zeroValue244 }

theorem sortsA (m : Nat) : AnyZ.SortsIn Tryz.prog sortedA_ren Fence.wide m :=
  ⟨fun blk off cap ss W hH hblk hsz => callsIn_wide.2 (AnyM.slices_Sort_string sortA blk off cap ss W hH hblk hsz),
   fun p cap W => callsIn_wide.2 (AnyM.slices_Sort_string_none sortA p cap W)⟩

theorem insert_perm {H : Type} (x : Lit × DataW H) : ∀ l : List (Lit × DataW H), (DataW.insert x l).Perm (x :: l)
  | [] => .refl _
  | y :: r => by
    simp only [DataW.insert]
    split
    · exact .refl _
    · exact ((insert_perm x r).cons y).trans (.swap x y r)
theorem foldr_perm {H : Type} : ∀ l : List (Lit × DataW H), (l.foldr DataW.insert []).Perm l
  | [] => .refl _
  | x :: r => (insert_perm x _).trans ((foldr_perm r).cons x)

def nilR : Value → Option (DataW Unit × List MemPlace) := fun _ => some (.nil, [])

theorem rd_key' {I : Im} {k : W} {e : MapEntry} (h : DR I (.str k) e.key) (hl : k.length ≤ maxLen) : rd Tryz.prog 9 nilR e = some (.string k, .nil) := by
  simp only [DR] at h
  have := Go.WideMaps.keyOf_string_mk (P := Tryz.prog) (k := 9) Tryz.underlying9 (s := ⟨k.toArray⟩) (by show k.toArray.size ≤ _; simpa using hl)
  simp only [Go.WideElems.rd, h, this, nilR, Option.bind_some, Option.map_some]

theorem keys_ents {I : Im} {w : World} {loc : Nat → Loc} {es : List (W × V × Nat)} {l : List MapEntry} (m : MapR I w loc (strM es) l) (hl : ∀ e ∈ es, e.1.length ≤ maxLen) : (l.map (rg Tryz.prog 9 nilR)).map (fun p => strOf p.1) = es.map (·.1) ∧ ∀ x ∈ l, ∃ y, rd Tryz.prog 9 nilR x = some y := by
  induction es generalizing l with
  | nil => cases m; exact ⟨rfl, fun x hx => by simp at hx⟩
  | cons e es ih =>
    obtain ⟨k, x, n⟩ := e
    cases m with
    | @cons _ _ _ e0 _ l0 a b c m =>
      obtain ⟨h1, h2⟩ := ih m (fun e he => hl e (by simp [he]))
      have hr := rd_key' a (hl (k, x, n) (by simp))
      refine ⟨?_, fun y hy => ?_⟩
      · have hg : rg Tryz.prog 9 nilR e0 = (.string k, .nil) := by unfold rg; rw [hr]; rfl
        rw [List.map_cons, List.map_cons, h1, hg]; rfl
      · rcases List.mem_cons.1 hy with rfl | hy
        · exact ⟨_, hr⟩
        · exact h2 y hy

theorem born_ents {I : Im} {w : World} {loc : Nat → Loc} {es : List (D × V × Nat)} {l : List MapEntry} (m : MapR I w loc es l) : l.map (·.born) = es.map (·.2.2) := by
  induction m with
  | nil => rfl
  | cons _ _ h _ ih => simp [h, ih]

theorem key_vals {I : Im} {w : World} {loc : Nat → Loc} {es : List (W × V × Nat)} {l : List MapEntry} (m : MapR I w loc (strM es) l) : l.map (·.key) = (es.map (·.1)).map encStr := by
  induction es generalizing l with
  | nil => cases m; rfl
  | cons e es ih =>
    obtain ⟨k, x, n⟩ := e
    cases m with
    | cons a b c m =>
      simp only [List.map_cons, ih m]
      simp only [DR] at a
      rw [a]
theorem keys_nodup {I : Im} {w : World} {loc : Nat → Loc} {es : List (W × V × Nat)} {l : List MapEntry} (m : MapR I w loc (strM es) l) (h : (es.map (·.1)).Nodup) : (l.map (·.key)).Nodup := by
  rw [key_vals m]
  exact List.pairwise_map.2 (h.imp fun hne e => hne (encStr_inj e))

/-- A row of strings that the call has laid, as data. -/
theorem row_data {c : Cx} {σ : List Ob} (hs : SR c σ) {w' : World} {v : Value} {ws : List W} (hrow : w'.ownsRow c.w.heap.size 9 1 v ws.length (ws.map encStr)) : DR (Cx.im ⟨w', c.loc, c.hid⟩) (.lst 1 (ws.map .str)) v := by
  obtain ⟨_, h | ⟨g, cap, cur, rfl, hg, hc, h1, h2, h3, h4⟩⟩ := hrow
  · obtain ⟨rfl, h0⟩ := h
    have : ws = [] := List.length_eq_zero_iff.1 h0
    subst this
    simp only [DR]
    exact ⟨none, 0, rfl, Nat.le_refl _, .inl rfl⟩
  · simp only [DR]
    refine ⟨_, cap, by simp, by simpa using h1, .inr ⟨g, 0, rfl, by omega, ⟨(Array.getElem?_eq_some_iff.1 hc).1, ?_, ?_⟩, ?_⟩⟩
    · rintro ⟨o, base, sz, e⟩
      have := hs.lt e
      omega
    · intro hh
      have := (hs.hid g hh).1
      omega
    · refine RowsR_of_get fun i d e => ?_
      rw [List.getElem?_map] at e
      cases hx : ws[i]? with
      | none => rw [hx] at e; cases e
      | some x =>
        rw [hx] at e; simp at e; subst e
        have hi := (List.getElem?_eq_some_iff.1 hx).1
        refine ⟨encStr x, by simp [DR, encStr], ⟨rfl, by simp [encStr, Value.cells, Value.oneCell']⟩, fun j hj => ?_⟩
        have hj0 : j = 0 := by omega
        subst hj0
        simp only [Nat.mul_one, Nat.zero_add, Nat.add_zero]
        show World.cell? w' ⟨g, i, none⟩ = _
        simp only [World.cell?, hc]
        have h5 : (cur.toList.take (ws.length * 1))[i]? = some (encStr x) := by rw [h4, List.getElem?_map, hx]; rfl
        rw [List.getElem?_take, if_pos (by omega), Array.getElem?_toList] at h5
        simp [h5, encStr, Value.cells]

set_option maxHeartbeats 4000000 in
theorem sorted358 {σ : List Ob} {b o clk : Nat} {es : List (W × V × Nat)} (hb : σ[b]? = some (.box [.mp o])) (ho : σ[o]? = some (.map (strM es) clk)) (hnd : (es.map (·.1)).Nodup) (hl : es.length ≤ 1048576) (hk : ∀ e ∈ es, e.1.length ≤ 1048576) :
    callA Tryz.prog 77 [.fn 358 [.ptr b 0 0]] σ fun r σ' => r = .d (.lst 1 (((es.map (·.1)).mergeSort leB).map .str)) ∧ σ' = σ := by
  refine callA_intro' ⟨Tryz.f77, Tryz.func77, by kernel_rfl, by kernel_rfl⟩ fun c vals hs hv => ?_
  simp only [Cx.vrs, VRs, VR] at hv
  obtain ⟨v0, t0, rfl, ⟨vs, rfl, v1, t1, rfl, h1, rfl⟩, rfl⟩ := hv
  obtain ⟨blk, sz, hlb, arr, e, f, g1, g2, g3⟩ := hs.get hb
  rw [hlb] at h1
  simp only [Nat.zero_mul, Nat.add_zero, Nat.zero_add] at h1
  subst h1
  simp only [Cx.vrs, VRs] at g3
  obtain ⟨us2, rest2, g4, v2, t2, rfl, g5, rfl⟩ := g3
  obtain ⟨mb, ents, hlm, rfl, m1, m2, m3, m4⟩ := map_at hs ho g5
  have hl1 : es.length ≤ maxLen := Nat.le_trans hl (by decide)
  have hk1 : ∀ e ∈ es, e.1.length ≤ maxLen := fun e he => Nat.le_trans (hk e he) (by decide)
  obtain ⟨k1, k2⟩ := keys_ents m2 hk1
  have hsz : ents.size = es.length := by have := m2.length; simpa [strM] using this
  obtain ⟨D0, hD0⟩ : ∃ D0 : DataW Unit, D0 = .map ((ents.toList.map (rg Tryz.prog 9 nilR)).foldr DataW.insert []) := ⟨_, rfl⟩
  have hperm : (strKeys D0).Perm (es.map (·.1)) := by
    rw [hD0, ← k1]
    exact (foldr_perm _).map _
  have hsize : Maps.size D0 = es.length := by
    have := hperm.length_eq
    rw [hD0] at this ⊢
    simp only [strKeys, List.length_map] at this
    simpa [Maps.size] using this
  have hown : c.w.ownsMap Tryz.prog 9 nilR mb es.length D0 := ⟨ents, clk, m1, ⟨by rw [hsz]; exact hl1, ?_, k2⟩, by rw [hsz]; exact Nat.le_refl _, hD0⟩
  rotate_left
  · have hb := born_ents m2
    refine ⟨fun x hx => ?_, by rw [hb]; exact m3, keys_nodup m2 hnd⟩
    have : x.born ∈ ents.toList.map (·.born) := List.mem_map.2 ⟨x, hx, rfl⟩
    rw [hb] at this
    obtain ⟨y, hy, hy2⟩ := List.mem_map.1 this
    rw [← hy2]; exact m4 y hy
  · have hcell : c.w.cell? ⟨blk, 0, none⟩ = some (.map (some mb)) := by
      have : arr[0]? = some (.map (some mb)) := by rw [← Array.getElem?_toList, g4]; rfl
      simp [World.cell?, g1, this]
    have hseq : SeqGives Fence.wide 2 Tryz.prog 358 #[.pointer (some ⟨blk, 0, none⟩)] encStr (fun ss => ss.Perm (strKeys D0)) (Maps.size D0) c.w :=
      AnyZ.keys_gives (ρ := keysA_ren) { keysA with } Fence.wide _ trivial rfl (by omega) blk mb es.length D0 _ (Array.getElem?_eq_some_iff.1 g1).1 hcell hown
    have cS := AnyZ.sorted_in sortedA Fence.wide 5 trivial trivial trivial trivial rfl (by omega) (sortsA _) (enters_of Tryz.func23 (by kernel_rfl) rfl) 358 #[.pointer (some ⟨blk, 0, none⟩)] trivial (enters_of Tryz.func358 (by kernel_rfl) rfl) _ _ (by rw [hsize]; exact hl1) (by rw [hsize]; omega) _ hseq
    refine (callsIn_wide.1 cS).mono fun e w' hp => ?_
    obtain ⟨v, ss, rfl, p1, p2, p3, p4⟩ := hp
    obtain ⟨hE, hS⟩ := Ext.below p4 hs
    have hsort : ss.mergeSort (fun x y => decide (x ≤ y)) = (es.map (·.1)).mergeSort leB := mergeSort_of_perm (p1.trans hperm)
    refine ⟨c.loc, σ, _, hS, hE, ?_, rfl, rfl⟩
    simp only [Cx.vr, VR]
    refine row_data hs ?_
    rw [← hsort, List.length_mergeSort]
    exact p2
set_option maxHeartbeats 4000000 in
theorem sorted356 {σ : List Ob} {b o clk : Nat} {es : List (W × V × Nat)} (hb : σ[b]? = some (.box [.mp o])) (ho : σ[o]? = some (.map (strM es) clk)) (hnd : (es.map (·.1)).Nodup) (hl : es.length ≤ 1048576) (hk : ∀ e ∈ es, e.1.length ≤ 1048576) :
    callA Tryz.prog 77 [.fn 356 [.ptr b 0 0]] σ fun r σ' => r = .d (.lst 1 (((es.map (·.1)).mergeSort leB).map .str)) ∧ σ' = σ := by
  refine callA_intro' ⟨Tryz.f77, Tryz.func77, by kernel_rfl, by kernel_rfl⟩ fun c vals hs hv => ?_
  simp only [Cx.vrs, VRs, VR] at hv
  obtain ⟨v0, t0, rfl, ⟨vs, rfl, v1, t1, rfl, h1, rfl⟩, rfl⟩ := hv
  obtain ⟨blk, sz, hlb, arr, e, f, g1, g2, g3⟩ := hs.get hb
  rw [hlb] at h1
  simp only [Nat.zero_mul, Nat.add_zero, Nat.zero_add] at h1
  subst h1
  simp only [Cx.vrs, VRs] at g3
  obtain ⟨us2, rest2, g4, v2, t2, rfl, g5, rfl⟩ := g3
  obtain ⟨mb, ents, hlm, rfl, m1, m2, m3, m4⟩ := map_at hs ho g5
  have hl1 : es.length ≤ maxLen := Nat.le_trans hl (by decide)
  have hk1 : ∀ e ∈ es, e.1.length ≤ maxLen := fun e he => Nat.le_trans (hk e he) (by decide)
  obtain ⟨k1, k2⟩ := keys_ents m2 hk1
  have hsz : ents.size = es.length := by have := m2.length; simpa [strM] using this
  obtain ⟨D0, hD0⟩ : ∃ D0 : DataW Unit, D0 = .map ((ents.toList.map (rg Tryz.prog 9 nilR)).foldr DataW.insert []) := ⟨_, rfl⟩
  have hperm : (strKeys D0).Perm (es.map (·.1)) := by
    rw [hD0, ← k1]
    exact (foldr_perm _).map _
  have hsize : Maps.size D0 = es.length := by
    have := hperm.length_eq
    rw [hD0] at this ⊢
    simp only [strKeys, List.length_map] at this
    simpa [Maps.size] using this
  have hown : c.w.ownsMap Tryz.prog 9 nilR mb es.length D0 := ⟨ents, clk, m1, ⟨by rw [hsz]; exact hl1, ?_, k2⟩, by rw [hsz]; exact Nat.le_refl _, hD0⟩
  rotate_left
  · have hb := born_ents m2
    refine ⟨fun x hx => ?_, by rw [hb]; exact m3, keys_nodup m2 hnd⟩
    have : x.born ∈ ents.toList.map (·.born) := List.mem_map.2 ⟨x, hx, rfl⟩
    rw [hb] at this
    obtain ⟨y, hy, hy2⟩ := List.mem_map.1 this
    rw [← hy2]; exact m4 y hy
  · have hcell : c.w.cell? ⟨blk, 0, none⟩ = some (.map (some mb)) := by
      have : arr[0]? = some (.map (some mb)) := by rw [← Array.getElem?_toList, g4]; rfl
      simp [World.cell?, g1, this]
    have hseq : SeqGives Fence.wide 2 Tryz.prog 356 #[.pointer (some ⟨blk, 0, none⟩)] encStr (fun ss => ss.Perm (strKeys D0)) (Maps.size D0) c.w :=
      AnyZ.keys_gives (ρ := keysB_ren) { keysB with } Fence.wide _ trivial rfl (by omega) blk mb es.length D0 _ (Array.getElem?_eq_some_iff.1 g1).1 hcell hown
    have cS := AnyZ.sorted_in sortedA Fence.wide 5 trivial trivial trivial trivial rfl (by omega) (sortsA _) (enters_of Tryz.func23 (by kernel_rfl) rfl) 356 #[.pointer (some ⟨blk, 0, none⟩)] trivial (enters_of Tryz.func356 (by kernel_rfl) rfl) _ _ (by rw [hsize]; exact hl1) (by rw [hsize]; omega) _ hseq
    refine (callsIn_wide.1 cS).mono fun e w' hp => ?_
    obtain ⟨v, ss, rfl, p1, p2, p3, p4⟩ := hp
    obtain ⟨hE, hS⟩ := Ext.below p4 hs
    have hsort : ss.mergeSort (fun x y => decide (x ≤ y)) = (es.map (·.1)).mergeSort leB := mergeSort_of_perm (p1.trans hperm)
    refine ⟨c.loc, σ, _, hS, hE, ?_, rfl, rfl⟩
    simp only [Cx.vr, VR]
    refine row_data hs ?_
    rw [← hsort, List.length_mergeSort]
    exact p2
set_option maxHeartbeats 4000000 in
theorem sorted144 {σ : List Ob} {b o clk : Nat} {es : List (W × V × Nat)} (hb : σ[b]? = some (.box [.mp o])) (ho : σ[o]? = some (.map (strM es) clk)) (hnd : (es.map (·.1)).Nodup) (hl : es.length ≤ 1048576) (hk : ∀ e ∈ es, e.1.length ≤ 1048576) :
    callA Tryz.prog 77 [.fn 144 [.ptr b 0 0]] σ fun r σ' => r = .d (.lst 1 (((es.map (·.1)).mergeSort leB).map .str)) ∧ σ' = σ := by
  refine callA_intro' ⟨Tryz.f77, Tryz.func77, by kernel_rfl, by kernel_rfl⟩ fun c vals hs hv => ?_
  simp only [Cx.vrs, VRs, VR] at hv
  obtain ⟨v0, t0, rfl, ⟨vs, rfl, v1, t1, rfl, h1, rfl⟩, rfl⟩ := hv
  obtain ⟨blk, sz, hlb, arr, e, f, g1, g2, g3⟩ := hs.get hb
  rw [hlb] at h1
  simp only [Nat.zero_mul, Nat.add_zero, Nat.zero_add] at h1
  subst h1
  simp only [Cx.vrs, VRs] at g3
  obtain ⟨us2, rest2, g4, v2, t2, rfl, g5, rfl⟩ := g3
  obtain ⟨mb, ents, hlm, rfl, m1, m2, m3, m4⟩ := map_at hs ho g5
  have hl1 : es.length ≤ maxLen := Nat.le_trans hl (by decide)
  have hk1 : ∀ e ∈ es, e.1.length ≤ maxLen := fun e he => Nat.le_trans (hk e he) (by decide)
  obtain ⟨k1, k2⟩ := keys_ents m2 hk1
  have hsz : ents.size = es.length := by have := m2.length; simpa [strM] using this
  obtain ⟨D0, hD0⟩ : ∃ D0 : DataW Unit, D0 = .map ((ents.toList.map (rg Tryz.prog 9 nilR)).foldr DataW.insert []) := ⟨_, rfl⟩
  have hperm : (strKeys D0).Perm (es.map (·.1)) := by
    rw [hD0, ← k1]
    exact (foldr_perm _).map _
  have hsize : Maps.size D0 = es.length := by
    have := hperm.length_eq
    rw [hD0] at this ⊢
    simp only [strKeys, List.length_map] at this
    simpa [Maps.size] using this
  have hown : c.w.ownsMap Tryz.prog 9 nilR mb es.length D0 := ⟨ents, clk, m1, ⟨by rw [hsz]; exact hl1, ?_, k2⟩, by rw [hsz]; exact Nat.le_refl _, hD0⟩
  rotate_left
  · have hb := born_ents m2
    refine ⟨fun x hx => ?_, by rw [hb]; exact m3, keys_nodup m2 hnd⟩
    have : x.born ∈ ents.toList.map (·.born) := List.mem_map.2 ⟨x, hx, rfl⟩
    rw [hb] at this
    obtain ⟨y, hy, hy2⟩ := List.mem_map.1 this
    rw [← hy2]; exact m4 y hy
  · have hcell : c.w.cell? ⟨blk, 0, none⟩ = some (.map (some mb)) := by
      have : arr[0]? = some (.map (some mb)) := by rw [← Array.getElem?_toList, g4]; rfl
      simp [World.cell?, g1, this]
    have hseq : SeqGives Fence.wide 2 Tryz.prog 144 #[.pointer (some ⟨blk, 0, none⟩)] encStr (fun ss => ss.Perm (strKeys D0)) (Maps.size D0) c.w :=
      AnyZ.keys_gives (ρ := keysC_ren) { keysC with } Fence.wide _ trivial rfl (by omega) blk mb es.length D0 _ (Array.getElem?_eq_some_iff.1 g1).1 hcell hown
    have cS := AnyZ.sorted_in sortedA Fence.wide 5 trivial trivial trivial trivial rfl (by omega) (sortsA _) (enters_of Tryz.func23 (by kernel_rfl) rfl) 144 #[.pointer (some ⟨blk, 0, none⟩)] trivial (enters_of Tryz.func144 (by kernel_rfl) rfl) _ _ (by rw [hsize]; exact hl1) (by rw [hsize]; omega) _ hseq
    refine (callsIn_wide.1 cS).mono fun e w' hp => ?_
    obtain ⟨v, ss, rfl, p1, p2, p3, p4⟩ := hp
    obtain ⟨hE, hS⟩ := Ext.below p4 hs
    have hsort : ss.mergeSort (fun x y => decide (x ≤ y)) = (es.map (·.1)).mergeSort leB := mergeSort_of_perm (p1.trans hperm)
    refine ⟨c.loc, σ, _, hS, hE, ?_, rfl, rfl⟩
    simp only [Cx.vr, VR]
    refine row_data hs ?_
    rw [← hsort, List.length_mergeSort]
    exact p2

/-- The entries of a map with string keys. -/
def entsOf : List (D × V × Nat) → Option (List (List UInt8 × V × Nat))
  | [] => some []
  | (.str s, v, n) :: r => match entsOf r with | some l => some ((s, v, n) :: l) | none => none
  | _ => none
theorem entsOf_eq : ∀ {es : List (D × V × Nat)} {l : List (List UInt8 × V × Nat)}, entsOf es = some l → es = strM l
  | [], l, h => by simp [entsOf] at h; subst h; rfl
  | (d, v, n) :: r, l, h => by
    cases d with
    | str s =>
      simp only [entsOf] at h
      split at h
      · rename_i l' hl
        cases h
        rw [entsOf_eq hl]; rfl
      · cases h
    | _ => simp [entsOf] at h
def beqB : List UInt8 → List UInt8 → Bool
  | [], [] => true
  | a :: r, b :: t => match Nat.beq a.toNat b.toNat with | true => beqB r t | false => false
  | _, _ => false
theorem beqB_eq : ∀ {a b : List UInt8}, beqB a b = false → a ≠ b
  | [], [], h => by simp [beqB] at h
  | [], _ :: _, _ => by simp
  | _ :: _, [], _ => by simp
  | a :: r, b :: t, h => by
    simp only [beqB] at h
    split at h
    · have := beqB_eq h
      simp [this]
    · rename_i hb
      intro e
      cases e
      simp at hb
def notIn (x : List UInt8) : List (List UInt8) → Bool
  | [] => true
  | y :: r => match beqB x y with | true => false | false => notIn x r
def nodupB : List (List UInt8) → Bool
  | [] => true
  | x :: r => match notIn x r with | true => nodupB r | false => false
theorem notIn_ok {x : List UInt8} : ∀ {l : List (List UInt8)}, notIn x l = true → x ∉ l
  | [], _ => by simp
  | y :: r, h => by
    simp only [notIn] at h
    split at h
    · cases h
    · rename_i hb
      simp [beqB_eq hb, notIn_ok h]
theorem nodupB_ok : ∀ {l : List (List UInt8)}, nodupB l = true → l.Nodup
  | [], _ => by simp
  | x :: r, h => by
    simp only [nodupB] at h
    split at h
    · rename_i hb
      exact List.nodup_cons.2 ⟨notIn_ok hb, nodupB_ok h⟩
    · cases h
def shortB : List (List UInt8 × V × Nat) → Bool
  | [] => true
  | e :: r => match Nat.ble e.1.length 1048576 with | true => shortB r | false => false
theorem shortB_ok : ∀ {l : List (List UInt8 × V × Nat)}, shortB l = true → ∀ e ∈ l, e.1.length ≤ 1048576
  | [], _ => by simp
  | x :: r, h => by
    simp only [shortB] at h
    split at h
    · rename_i hb
      intro e he
      rcases List.mem_cons.1 he with rfl | he
      · exact Nat.le_of_ble_eq_true hb
      · exact shortB_ok h e he
    · cases h
def ltB : List UInt8 → List UInt8 → Bool
  | [], [] => false
  | [], _ => true
  | _, [] => false
  | a :: r, b :: t => match Nat.blt a.toNat b.toNat with | true => true | false => match Nat.beq a.toNat b.toNat with | true => ltB r t | false => false
theorem blt_iff (a b : Nat) : Nat.blt a b = true ↔ a < b := by rw [Nat.blt_eq]
theorem ltB_iff : ∀ (a b : List UInt8), ltB a b = true ↔ a < b
  | [], [] => by simp [ltB]
  | [], _ :: _ => by simp [ltB]
  | _ :: _, [] => by simp [ltB]
  | a :: r, b :: t => by
    simp only [ltB, List.cons_lt_cons_iff]
    split
    · rename_i h
      have := (blt_iff _ _).1 h
      exact ⟨fun _ => .inl (UInt8.lt_iff_toNat_lt.2 this), fun _ => rfl⟩
    · rename_i h
      have h1 : ¬ a < b := fun h' => by
        rw [(blt_iff _ _).2 (UInt8.lt_iff_toNat_lt.1 h')] at h
        cases h
      split
      · rename_i h2
        have e : a = b := UInt8.toNat_inj.1 (Nat.eq_of_beq_eq_true h2)
        rw [ltB_iff r t]
        simp [e]
      · rename_i h2
        have e : a ≠ b := fun e => by subst e; simp at h2
        simp [h1, e]
/-- Insertion into an ascending list. -/
def insB (x : List UInt8) : List (List UInt8) → List (List UInt8)
  | [] => [x]
  | y :: r => match ltB y x with | true => y :: insB x r | false => x :: y :: r
theorem insB_perm (x : List UInt8) : ∀ l, (insB x l).Perm (x :: l)
  | [] => .refl _
  | y :: r => by
    simp only [insB]
    split
    · exact ((insB_perm x r).cons y).trans (.swap x y r)
    · exact .refl _
theorem insB_sorted (x : List UInt8) : ∀ {l : List (List UInt8)}, l.Pairwise (fun a b => leB a b = true) → (insB x l).Pairwise (fun a b => leB a b = true)
  | [], _ => by simp [insB]
  | y :: r, h => by
    simp only [insB]
    have hy := List.pairwise_cons.1 h
    have tr : ∀ a b c : List UInt8, leB a b = true → leB b c = true → leB a c = true := fun a b c h1 h2 => by simp only [leB, decide_eq_true_eq] at *; exact List.le_trans h1 h2
    split
    · rename_i hlt
      rw [ltB_iff] at hlt
      refine List.pairwise_cons.2 ⟨fun z hz => ?_, insB_sorted x hy.2⟩
      rcases List.mem_cons.1 ((insB_perm x r).mem_iff.1 hz) with rfl | hz
      · simp only [leB, decide_eq_true_eq]; exact List.le_of_lt hlt
      · exact hy.1 z hz
    · rename_i hlt
      have hxy : leB x y = true := by
        simp only [leB, decide_eq_true_eq]
        exact List.not_lt.1 fun h' => by rw [(ltB_iff _ _).2 h'] at hlt; cases hlt
      refine List.pairwise_cons.2 ⟨fun z hz => ?_, h⟩
      rcases List.mem_cons.1 hz with rfl | hz
      · exact hxy
      · exact tr _ _ _ hxy (hy.1 z hz)
def sortB : List (List UInt8) → List (List UInt8)
  | [] => []
  | x :: r => insB x (sortB r)
theorem sortB_perm : ∀ l, (sortB l).Perm l
  | [] => .refl _
  | x :: r => (insB_perm x _).trans ((sortB_perm r).cons x)
theorem sortB_sorted : ∀ l, (sortB l).Pairwise (fun a b => leB a b = true)
  | [] => .nil
  | x :: r => insB_sorted x (sortB_sorted r)
theorem sortB_eq (l : List (List UInt8)) : l.mergeSort leB = sortB l := by
  rw [mergeSort_of_perm (sortB_perm l).symm]
  exact List.mergeSort_of_pairwise (sortB_sorted l)

/-- Sorted keys, by what the store holds. -/
noncomputable def sortK (σ : List Ob) (x : V) : Option (List (List UInt8)) := match x with
  | .ptr b 0 0 => match σ[b]? with
    | some (.box [.mp o]) => match σ[o]? with
      | some (.map es _) => match entsOf es with
        | some l => match nodupB (l.map (·.1)) with
          | true => match shortB l with
            | true => match Nat.ble l.length 1048576 with | true => some (sortB (l.map (·.1))) | false => none
            | false => none
          | false => none
        | none => none
      | _ => none
    | _ => none
  | _ => none
noncomputable def natS : Nat' := fun f args σ => match f with
  | 77 => match args with
    | [.fn g [x]] => match [358, 356, 144].contains g with
      | true => match sortK σ x with
        | some l => openD (.lst 1 (l.map .str)) fun d => some (.d d, σ)
        | none => none
      | false => none
    | _ => none
  | f => natA f args σ
theorem sortK_ok {σ : List Ob} {x : V} {l : List (List UInt8)} (h : sortK σ x = some l) : ∃ b o clk es, x = .ptr b 0 0 ∧ σ[b]? = some (.box [.mp o]) ∧ σ[o]? = some (.map (strM es) clk) ∧ (es.map (·.1)).Nodup ∧ es.length ≤ 1048576 ∧ (∀ e ∈ es, e.1.length ≤ 1048576) ∧ l = (es.map (·.1)).mergeSort leB := by
  unfold sortK at h
  split at h
  · rename_i b
    split at h
    · rename_i o ho
      split at h
      · rename_i es clk hm
        split at h
        · rename_i l' hl
          split at h
          · rename_i hn
            split at h
            · rename_i hs
              split at h
              · rename_i hb
                cases h
                rw [entsOf_eq hl] at hm
                exact ⟨b, o, clk, l', rfl, ho, hm, nodupB_ok hn, Nat.le_of_ble_eq_true hb, shortB_ok hs, (sortB_eq _).symm⟩
              · cases h
            · cases h
          · cases h
        · cases h
      · cases h
    · cases h
  · cases h
theorem natS_ok : CallOk Tryz.prog natS := fun f args σ v σ' h => by
  unfold natS at h
  split at h
  · split at h
    · rename_i g x
      split at h
      · rename_i hg
        split at h
        · rename_i l hl
          rw [openD_eq] at h
          cases h
          obtain ⟨b, o, clk, es, rfl, h1, h2, h3, h4, h5, rfl⟩ := sortK_ok hl
          simp only [List.contains_cons, List.contains_nil, Bool.or_false, Bool.or_eq_true, beq_iff_eq] at hg
          rcases hg with rfl | rfl | rfl
          · exact sorted358 h1 h2 h3 h4 h5
          · exact sorted356 h1 h2 h3 h4 h5
          · exact sorted144 h1 h2 h3 h4 h5
        · cases h
      · cases h
    · cases h
  · exact natA_ok _ _ _ _ _ h
end Go.Proofs.YteafabpedfgedaaGreatDoor.Am
end
/- The layers of the evaluator: functions that are run from the empty store, so that each run is made once. -/
section
set_option linter.unusedVariables false
namespace Go.Proofs.YteafabpedfgedaaGreatDoor.Am
open Go Go.Proofs

noncomputable def ev0s : Nat' := evK Tryz.prog natS tab 60
noncomputable def nat1s : Nat' := pureN ev0s (fun f => [94, 53].contains f) natS
noncomputable def ev1s : Nat' := evK Tryz.prog nat1s tab 60
noncomputable def nat2s : Nat' := pureN ev1s (fun f => [56, 54, 99, 46, 17, 18, 45].contains f) nat1s
noncomputable def ev2s : Nat' := evK Tryz.prog nat2s tab 60
noncomputable def nat3s : Nat' := pureN ev2s (fun f => [55, 105, 85, 123].contains f) nat2s
noncomputable def ev3s : Nat' := evK Tryz.prog nat3s tab 60
noncomputable def nat4s : Nat' := pureN ev3s (fun f => [57, 20, 86].contains f) nat3s
noncomputable def ev4s : Nat' := evK Tryz.prog nat4s tab 60
noncomputable def nat5s : Nat' := pureN ev4s (fun f => [21, 60].contains f) nat4s
theorem nat1s_ok : CallOk Tryz.prog nat1s := pureN_ok (evK_ok natS_ok tabOk 60) _ natS_ok
theorem nat2s_ok : CallOk Tryz.prog nat2s := pureN_ok (evK_ok nat1s_ok tabOk 60) _ nat1s_ok
theorem nat3s_ok : CallOk Tryz.prog nat3s := pureN_ok (evK_ok nat2s_ok tabOk 60) _ nat2s_ok
theorem nat4s_ok : CallOk Tryz.prog nat4s := pureN_ok (evK_ok nat3s_ok tabOk 60) _ nat3s_ok
theorem nat5s_ok : CallOk Tryz.prog nat5s := pureN_ok (evK_ok nat4s_ok tabOk 60) _ nat4s_ok
end Go.Proofs.YteafabpedfgedaaGreatDoor.Am
end
