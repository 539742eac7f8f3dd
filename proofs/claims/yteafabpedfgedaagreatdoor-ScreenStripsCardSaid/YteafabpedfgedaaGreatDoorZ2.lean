/- screen.Strip, walked over the shelf's contracts. -/
import Derived.Test.YteafabpedfgedaaGreatDoorZ1
import Derived.Test.YteafabpedfgedaaGreatDoorProg
import Derived.Shelf.Strings.BuilderK
import Derived.Shelf.Strings.OnBuilder
import Derived.Shelf.Strings.Prefix
import Derived.Shelf.Small.Strs
import Derived.WalkKit
import Derived.BigCall
import Derived.KernelRfl
set_option linter.unusedSimpArgs false
set_option linter.unusedVariables false
namespace Go.Proofs.YteafabpedfgedaaGreatDoor.Am
open Go Go.Proofs Go.RowKit Go.Shelf

def joinS_ren : Go.Shelf.Ren := ⟨fun | 156 => 91 | 165 => 178 | 166 => 13 | 169 => 14 | 240 => 43 | 241 => 302 | 276 => 88 | 277 => 360 | n => n, fun | 31 => 24 | 9 => 9 | 3 => 3 | 4 => 4 | 0 => 0 | 20 => 20 | 72 => 46 | 76 => 49 | 70 => 43 | 37 => 44 | 75 => 48 | 127 => 105 | 164 => 180 | 5 => 5 | 80 => 51 | n => n, fun | n => n⟩
theorem joinS : Lays.n156 Tryz.prog joinS_ren := {
  mixed := (by kernel_rfl),
  f156 := Tryz.func91.trans (congrArg some (by kernel_rfl)),
  f165 := Tryz.func178.trans (congrArg some (by kernel_rfl)),
  f166 := Tryz.func13.trans (congrArg some (by kernel_rfl)),
  f169 := Tryz.func14.trans (congrArg some (by kernel_rfl)),
  f240 := Tryz.func43.trans (congrArg some (by kernel_rfl)),
  f241 := Tryz.func302.trans (congrArg some (by kernel_rfl)),
  f276 := Tryz.func88.trans (congrArg some (by kernel_rfl)),
  f277 := Tryz.func360.trans (congrArg some (by kernel_rfl)),
  t0 := Tryz.underlying0,
  a0 := Tryz.isAgg0,
  z0 := Tryz.sizeOf0,
  v0 := Tryz.zeroValue0,
  t3 := Tryz.underlying3,
  a3 := Tryz.isAgg3,
  z3 := Tryz.sizeOf3,
  v3 := Tryz.zeroValue3,
  t4 := Tryz.underlying4,
  a4 := Tryz.isAgg4,
  z4 := Tryz.sizeOf4,
  v4 := Tryz.zeroValue4,
  t9 := Tryz.underlying9,
  a9 := Tryz.isAgg9,
  z9 := Tryz.sizeOf9,
  v9 := Tryz.zeroValue9,
  t20 := Tryz.underlying20,
  a20 := Tryz.isAgg20,
  z20 := Tryz.sizeOf20,
  v20 := Tryz.zeroValue20,
  t31 := Tryz.underlying24,
  a31 := Tryz.isAgg24,
  z31 := Tryz.sizeOf24,
  v31 := Tryz.zeroValue24,
  t37 := Tryz.underlying44,
  a37 := Tryz.isAgg44,
  z37 := Tryz.sizeOf44,
  v37 := Tryz.zeroValue44,
  t70 := Tryz.underlying43,
  a70 := Tryz.isAgg43,
  z70 := Tryz.sizeOf43,
  v70 := Tryz.zeroValue43,
  t72 := Tryz.underlying46,
  a72 := Tryz.isAgg46,
  z72 := Tryz.sizeOf46,
  v72 := Tryz.zeroValue46,
  t75 := Tryz.underlying48,
  a75 := Tryz.isAgg48,
  z75 := Tryz.sizeOf48,
  v75 := Tryz.zeroValue48,
  t76 := Tryz.underlying49,
  a76 := Tryz.isAgg49,
  z76 := Tryz.sizeOf49,
  v76 := Tryz.zeroValue49,
  t127 := Tryz.underlying105,
  a127 := Tryz.isAgg105,
  z127 := Tryz.sizeOf105,
  v127 := Tryz.zeroValue105,
  t164 := Tryz.underlying180,
  a164 := Tryz.isAgg180,
  z164 := Tryz.sizeOf180,
  v164 := Tryz.zeroValue180 }
def preS_ren : Go.Shelf.Ren := ⟨fun | 99 => 12 | 206 => 42 | n => n, fun | 9 => 9 | 4 => 4 | 3 => 3 | n => n, fun | n => n⟩
theorem preS : Lays.n99 Tryz.prog preS_ren := {
  mixed := (by kernel_rfl),
  f99 := Tryz.func12.trans (congrArg some (by kernel_rfl)),
  f206 := Tryz.func42.trans (congrArg some (by kernel_rfl)),
  t3 := Tryz.underlying3,
  a3 := Tryz.isAgg3,
  z3 := Tryz.sizeOf3,
  v3 := Tryz.zeroValue3,
  t4 := Tryz.underlying4,
  a4 := Tryz.isAgg4,
  z4 := Tryz.sizeOf4,
  v4 := Tryz.zeroValue4,
  t9 := Tryz.underlying9,
  a9 := Tryz.isAgg9,
  z9 := Tryz.sizeOf9,
  v9 := Tryz.zeroValue9 }
def ixbS_ren : Go.Shelf.Ren := ⟨fun | 137 => 384 | 217 => 414 | 266 => 434 | n => n, fun | 9 => 9 | 5 => 5 | 3 => 3 | n => n, fun | n => n⟩
theorem ixbS : Lays.n137 Tryz.prog ixbS_ren := {
  mixed := (by kernel_rfl),
  f137 := Tryz.func384.trans (congrArg some (by kernel_rfl)),
  f217 := Tryz.func414.trans (congrArg some (by kernel_rfl)),
  f266 := Tryz.func434.trans (congrArg some (by kernel_rfl)),
  t3 := Tryz.underlying3,
  a3 := Tryz.isAgg3,
  z3 := Tryz.sizeOf3,
  v3 := Tryz.zeroValue3,
  t5 := Tryz.underlying5,
  a5 := Tryz.isAgg5,
  z5 := Tryz.sizeOf5,
  v5 := Tryz.zeroValue5,
  t9 := Tryz.underlying9,
  a9 := Tryz.isAgg9,
  z9 := Tryz.sizeOf9,
  v9 := Tryz.zeroValue9 }

theorem joinX : Builder.Extra Tryz.prog joinS_ren := {
  sizeBuilder := by kernel_rfl
  liesBuilder := by kernel_rfl
  t5 := Tryz.underlying5
  a5 := Tryz.isAgg5
  z5 := Tryz.sizeOf5
  v5 := Tryz.zeroValue5
  infoByte := by kernel_rfl
  cellsByte := by kernel_rfl
  sizeByte := by kernel_rfl
  neB5 := by decide }

theorem strCells_arr (l : List UInt8) : Lib.strCells ⟨l.toArray⟩ = Lib.byteCells l := rfl
theorem wr13 (B b : Nat) (bs : List Value) (s : ByteArray) (w : World) (h : Lib.IsBuilderF 46 5 B b bs w) (hlen : bs.length + s.size ≤ 140737488355328) (hBw : B ≤ w.heap.size) :
    Calls Tryz.prog 13 #[.pointer (some ⟨b, 0, none⟩), .string s] w fun e w' => e = .returned (.tuple #[.int .i64 s.size, .nilIface]) ∧ (Lib.BuilderAtF 46 5 B b (.pointer (some ⟨b, 0, none⟩)) (bs ++ Lib.strCells s) w' ∧ Below B w w' ∧ Lib.OthersKept 5 (some b) w w') :=
  Any.Builder_WriteString_k (ρ := joinS_ren) { joinS with } joinX B b bs s w h hlen hBw
theorem str14 (B b : Nat) (l : List UInt8) (w : World) (h : Lib.IsBuilderF 46 5 B b (Lib.byteCells l) w) (hBw : B ≤ w.heap.size) :
    Calls Tryz.prog 14 #[.pointer (some ⟨b, 0, none⟩)] w fun e w' => e = .returned (.string ⟨l.toArray⟩) ∧ (Lib.IsBuilderF 46 5 B b (Lib.byteCells l) w' ∧ Below B w w' ∧ Lib.OthersKept 5 (some b) w w') :=
  Any.Builder_String_any_k (ρ := joinS_ren) { joinS with } joinX B b l w h hBw
theorem pre12 (s p : ByteArray) (w : World) : Calls Tryz.prog 12 #[.string s, .string p] w fun e w' => e = .returned (.bool (Lib.hasPrefix s.data.toList p.data.toList)) ∧ w' = w :=
  Any.strings_HasPrefix (ρ := preS_ren) preS s p w

set_option maxHeartbeats 4000000 in
set_option maxRecDepth 1000000 in
theorem strip5w (s : ByteArray) (w : World) (hs : s.size ≤ 35184372088832) :
    Calls Tryz.prog 5 #[.string s] w fun e w' => e = .returned (.string ⟨(stripL false s.data.toList).toArray⟩) ∧ Below w.heap.size w w' := by
  go_enter Tryz.func5, Tryz.ntmps5
  go_wp2
  have hsl : s.size = s.data.toList.length := by rw [Array.length_toList]; rfl
  go_loopw [4, 5] (fun v4 v5 wr => ∃ (pos p0 : Nat) (lk : Bool) (acc : List UInt8), v4 = .int .i64 (p0 : Int) ∧ v5 = .bool lk ∧ Lib.IsBuilderF 46 5 w.heap.size w.heap.size (Lib.byteCells acc) wr ∧ wr.heap[w.heap.size + 1]? = some (.stringIter s pos) ∧ Below w.heap.size w wr ∧ Hid (SInv s.data.toList acc lk p0 pos)) (fun _ _ wr => s.size - wr.iterPos (w.heap.size + 1))
  case atStart =>
    refine ⟨0, 0, false, [], rfl, rfl, (Lib.IsBuilderF.of (Lib.fresh_isBuilder 46 5 w)).alloc _, ?_, ((Below.refl _ w).alloc (Nat.le_refl _) _).alloc (by simp) _, SInv.start _⟩
    have := World.iter_heap (w.alloc (.cells #[.pointer none, .slice none 0 0] 46)) s 0
    simpa using this
  case round =>
    obtain ⟨pos, p0, lk, acc, rfl, rfl, hI, hit, hbw, hacc⟩ := hrel
    have hsz : w.heap.size + 1 < wr.heap.size := (Array.getElem?_eq_some_iff.1 hit).1
    have hInv : SInv s.data.toList acc lk p0 pos := hacc
    obtain ⟨hp0, hps, hal, _⟩ := hInv
    have hle : acc.length ≤ pos := by omega
    have hcut : ∀ k : Nat, k ≤ s.size → ∀ W' : World, (Instr.slice 9 (.string s) (some (.int .i64 (k : Int))) none none).run Tryz.prog W' = .ok (.string ⟨(s.data.toList.drop k).toArray⟩) W' := fun k hk W' => by
      rw [run_slice_string_l W' 9 s Tryz.underlying9 .i64 k (by omega) (by omega)]
      have := ByteArray.extract_mk s.data.toList k s.size
      rw [List.take_of_length_le (by rw [List.length_drop]; omega)] at this
      simp only [Int.toNat_natCast]
      rw [← this]
    have hseg : ∀ W' : World, (Instr.slice 9 (.string s) (some (.int .i64 (p0 : Int))) (some (.int .i64 (pos : Int))) none).run Tryz.prog W' = .ok (.string ⟨((s.data.toList.drop p0).take (pos - p0)).toArray⟩) W' := fun W' => by
      rw [run_slice_string W' 9 s .i64 .i64 p0 pos Tryz.underlying9 (by omega) (by omega) (by omega)]
      have := ByteArray.extract_mk s.data.toList p0 pos
      simp only [Int.toNat_natCast]
      rw [← this]
    have hcut1 := hcut pos (by omega)
    have hcut0 := hcut p0 (by omega)
    have hseg2 : (ByteArray.mk ((s.data.toList.drop p0).take (pos - p0)).toArray).size = pos - p0 := by
      show ((s.data.toList.drop p0).take (pos - p0)).toArray.size = _
      simp; omega
    clear hcut
    by_cases hp : pos < s.size
    · have hnx : ∀ ty, (Instr.next (.pointer (some ⟨w.heap.size + 1, 0, none⟩)) true ty).run Tryz.prog wr = _ := fun ty => Lib.run_next_any_at wr (w.heap.size + 1) s pos ty hit hp
      have hp' : pos < s.data.toList.length := by omega
      have hw := rune_le s pos hp'
      have hd1 := decode_le s pos
      have hI2 := hI.iterAt hit (pos + (Utf8.decode s pos).2)
      have hit2 := Lib.iterAt_heap wr (w.heap.size + 1) s pos (pos + (Utf8.decode s pos).2) hit
      have hbw2 := Lib.below_iterAt hbw (k := w.heap.size + 1) (by omega) s (pos + (Utf8.decode s pos).2)
      have hsz2 : w.heap.size ≤ (wr.iterAt (w.heap.size + 1) s (pos + (Utf8.decode s pos).2)).heap.size := by rw [Lib.iterAt_size]; omega
      have hms : s.size - (wr.iterAt (w.heap.size + 1) s (pos + (Utf8.decode s pos).2)).iterPos (w.heap.size + 1) < s.size - wr.iterPos (w.heap.size + 1) := by
        simp only [World.iterPos, hit2, hit]; omega
      by_cases hc : (Utf8.decode s pos).1 = 32 ∨ (Utf8.decode s pos).1 = 9 ∨ (Utf8.decode s pos).1 = 10
      · have hn := SInv.sp (show SInv s.data.toList acc lk p0 pos from hacc) hp' hc
        rcases hc with hc | hc | hc
        all_goals
          cases lk
          · go_wp2
            go_roundw
            case rel => exact ⟨pos + (Utf8.decode s pos).2, p0, false, acc, rfl, rfl, hI2, hit2, hbw2, hn⟩
            case measure => exact hms
          · go_wp2
            go_roundw
            case rel => exact ⟨pos + (Utf8.decode s pos).2, pos, false, acc, rfl, rfl, hI2, hit2, hbw2, hn⟩
            case measure => exact hms
      · have hc1 : (((Utf8.decode s pos).1 : Int) == 32) = false := by simp; omega
        have hc2 : (((Utf8.decode s pos).1 : Int) == 9) = false := by simp; omega
        have hc3 : (((Utf8.decode s pos).1 : Int) == 10) = false := by simp; omega
        cases lk
        · have hI0 : SInv s.data.toList acc false p0 pos := hacc
          cases hA : Lib.hasPrefix (s.data.toList.drop pos) [104, 116, 116, 112, 58, 47, 47] with
          | true =>
            have hn := SInv.link hI0 hp' hc (by simp only [lnk, lkA]; simp only [Lib.hasPrefix] at hA; rw [hA]; rfl)
            go_wp2_with (first | (go_at_call 12; refine (pre12 _ _ _).mono ?_; rintro e w' ⟨rfl, rfl⟩) | (go_at_call 13; refine (wr13 w.heap.size w.heap.size _ _ _ hI2 (by rw [Lib.byteCells_length, hseg2]; omega) hsz2).mono ?_))
            rintro e W1 ⟨rfl, h1, b1, k1⟩
            go_wp2
            go_roundw
            case rel =>
              refine ⟨pos + (Utf8.decode s pos).2, p0, true, _, rfl, rfl, ?_, k1.iter hit2 (by omega), hbw2.trans b1, hn⟩
              rw [Lib.byteCells_append, ← strCells_arr]; exact Or.inr h1
            case measure =>
              simp only [World.iterPos, k1.iter hit2 (by omega), hit]
              omega
          | false =>
            cases hB : Lib.hasPrefix (s.data.toList.drop pos) [104, 116, 116, 112, 115, 58, 47, 47] with
            | true =>
              have hn := SInv.link hI0 hp' hc (by simp only [lnk, lkA, lkB]; simp only [Lib.hasPrefix] at hA hB; rw [hA, hB]; rfl)
              go_wp2_with (first | (go_at_call 12; refine (pre12 _ _ _).mono ?_; rintro e w' ⟨rfl, rfl⟩) | (go_at_call 13; refine (wr13 w.heap.size w.heap.size _ _ _ hI2 (by rw [Lib.byteCells_length, hseg2]; omega) hsz2).mono ?_))
              rintro e W1 ⟨rfl, h1, b1, k1⟩
              go_wp2
              go_roundw
              case rel =>
                refine ⟨pos + (Utf8.decode s pos).2, p0, true, _, rfl, rfl, ?_, k1.iter hit2 (by omega), hbw2.trans b1, hn⟩
                rw [Lib.byteCells_append, ← strCells_arr]; exact Or.inr h1
              case measure =>
                simp only [World.iterPos, k1.iter hit2 (by omega), hit]
                omega
            | false =>
              have hn := SInv.no hI0 hp' hc (by simp only [lnk, lkA, lkB]; simp only [Lib.hasPrefix] at hA hB; rw [hA, hB]; rfl)
              go_wp2_with (go_at_call 12; refine (pre12 _ _ _).mono ?_; rintro e w' ⟨rfl, rfl⟩)
              go_roundw
              case rel => exact ⟨pos + (Utf8.decode s pos).2, p0, false, acc, rfl, rfl, hI2, hit2, hbw2, hn⟩
              case measure => exact hms
        · have hn := SInv.inn (show SInv s.data.toList acc true p0 pos from hacc) hp' hc
          go_wp2
          go_roundw
          case rel => exact ⟨pos + (Utf8.decode s pos).2, p0, true, acc, rfl, rfl, hI2, hit2, hbw2, hn⟩
          case measure => exact hms
    · have hnx : ∀ ty, (Instr.next (.pointer (some ⟨w.heap.size + 1, 0, none⟩)) true ty).run Tryz.prog wr = _ := fun ty => Lib.run_next_end_at wr (w.heap.size + 1) s pos ty hit hp
      have hf := SInv.fin (show SInv s.data.toList acc lk p0 pos from hacc) (by omega)
      cases lk with
      | true =>
        go_wp2_with (go_at_call 14; refine (str14 w.heap.size w.heap.size _ _ hI (by omega)).mono ?_)
        rintro e W1 rfl _ b1 _
        go_wp2
        go_ret
        have hf' : acc = stripL false s.data.toList := by simpa using hf
        rw [hf']
        exact ⟨rfl, hbw.trans b1⟩
      | false =>
        simp only [Bool.false_eq_true, if_false] at hf
        have hseg3 : (ByteArray.mk (s.data.toList.drop p0).toArray).size = s.size - p0 := by
          show (s.data.toList.drop p0).toArray.size = _
          rw [List.size_toArray, List.length_drop, hsl]
        go_wp2_with (go_at_call 13; refine (wr13 w.heap.size w.heap.size _ _ _ hI (by rw [Lib.byteCells_length, hseg3]; omega) (by omega)).mono ?_)
        rintro e W1 ⟨rfl, h1, b1, k1⟩
        have h2 : Lib.IsBuilderF 46 5 w.heap.size w.heap.size (Lib.byteCells (stripL false s.data.toList)) W1 := by
          rw [← hf, Lib.byteCells_append, ← strCells_arr]; exact Or.inr h1
        have hbs := (hbw.trans b1).size
        go_wp2_with (go_at_call 14; refine (str14 w.heap.size w.heap.size _ _ h2 hbs).mono ?_)
        rintro e W2 ⟨rfl, _, b2, _⟩
        go_wp2
        go_ret
        exact ⟨rfl, (hbw.trans b1).trans b2⟩
end Go.Proofs.YteafabpedfgedaaGreatDoor.Am
